/- Package ref: answerFault. No condition. -/
import Derived.Test.YtcpbgiikfabaaaaMsgR3
import Derived.Test.YtcpbgiikfabaaaaCutR
import Derived.Deep.DeepCutAuto
import Derived.BigCall
namespace Go.Proofs.Ytcpbgiikfabaaaa
open Go.RowKit
set_option linter.unusedSimpArgs false
set_option linter.unusedVariables false

theorem ref_four_r (n : Int) (w : World) : Calls Try.prog 45 #[.int .i64 n] w fun e w' => e = .returned (.bool (decide (0 ≤ n ∧ n ≤ 4294967295))) ∧ w' = w := by
  by_cases h0 : 0 ≤ n
  · have q0 : decide (n ≥ 0) = true := decide_eq_true h0
    have HE : Hid (decide (0 ≤ n ∧ n ≤ 4294967295) = decide (n ≤ 4294967295)) := Lib.hid (by simp [h0])
    rw [HE.out]
    clear h0
    go_enter Try.func45, Try.ntmps45
    go_wp2
    go_ret
    exact ⟨rfl, rfl⟩
  · have q0 : decide (n ≥ 0) = false := decide_eq_false h0
    have HE : Hid (decide (0 ≤ n ∧ n ≤ 4294967295) = false) := Lib.hid (by simp [h0])
    rw [HE.out]
    clear h0
    go_enter Try.func45, Try.ntmps45
    go_wp2
    go_ret
    exact ⟨rfl, rfl⟩

def mr.C1 (v0 v1 v2 v3 v4 v5 v11 v12 v13 v14 v15 v16 v17 v18 v19 v20 v21 v22 v23 v24 v25 v26 v27 v28 v29 v30 v31 v32 v33 v34 v35 v36 v37 v38 v39 v40 v41 v42 v43 v44 v45 v46 v47 v48 v49 v50 v51 v52 v53 v54 v55 v56 v57 v58 v59 v60 v61 v62 v63 v64 v65 : Value) (e : Bool) (a : Act) : Prop := ∃ (x6 x7 x8 x9 : Value) (b : Bool), b = e ∧ a = ⟨#[v0, v1, v2, v3, v4, v5, x6, x7, x8, x9, .bool b, v11, v12, v13, v14, v15, v16, v17, v18, v19, v20, v21, v22, v23, v24, v25, v26, v27, v28, v29, v30, v31, v32, v33, v34, v35, v36, v37, v38, v39, v40, v41, v42, v43, v44, v45, v46, v47, v48, v49, v50, v51, v52, v53, v54, v55, v56, v57, v58, v59, v60, v61, v62, v63, v64, v65], []⟩

def mr.C2 (v0 v1 v2 v3 v4 v5 v16 v17 v18 v19 v20 v21 v22 v23 v24 v25 v26 v27 v28 v29 v30 v31 v32 v33 v34 v35 v36 v37 v38 v39 v40 v41 v42 v43 v44 v45 v46 v47 v48 v49 v50 v51 v52 v53 v54 v55 v56 v57 v58 v59 v60 v61 v62 v63 v64 v65 : Value) (e : Bool) (a : Act) : Prop := ∃ (x6 x7 x8 x9 x10 x11 x12 x13 x14 : Value) (b : Bool), b = e ∧ a = ⟨#[v0, v1, v2, v3, v4, v5, x6, x7, x8, x9, x10, x11, x12, x13, x14, .bool b, v16, v17, v18, v19, v20, v21, v22, v23, v24, v25, v26, v27, v28, v29, v30, v31, v32, v33, v34, v35, v36, v37, v38, v39, v40, v41, v42, v43, v44, v45, v46, v47, v48, v49, v50, v51, v52, v53, v54, v55, v56, v57, v58, v59, v60, v61, v62, v63, v64, v65], []⟩

def mr.C3 (v0 v1 v2 v3 v4 v5 v21 v22 v23 v24 v25 v26 v27 v28 v29 v30 v31 v32 v33 v34 v35 v36 v37 v38 v39 v40 v41 v42 v43 v44 v45 v46 v47 v48 v49 v50 v51 v52 v53 v54 v55 v56 v57 v58 v59 v60 v61 v62 v63 v64 v65 : Value) (e : Bool) (a : Act) : Prop := ∃ (x6 x7 x8 x9 x10 x11 x12 x13 x14 x15 x16 x17 x18 x19 : Value) (b : Bool), b = e ∧ a = ⟨#[v0, v1, v2, v3, v4, v5, x6, x7, x8, x9, x10, x11, x12, x13, x14, x15, x16, x17, x18, x19, .bool b, v21, v22, v23, v24, v25, v26, v27, v28, v29, v30, v31, v32, v33, v34, v35, v36, v37, v38, v39, v40, v41, v42, v43, v44, v45, v46, v47, v48, v49, v50, v51, v52, v53, v54, v55, v56, v57, v58, v59, v60, v61, v62, v63, v64, v65], []⟩

def mr.C4 (v0 v1 v2 v3 v4 v5 v28 v29 v30 v31 v32 v33 v34 v35 v36 v37 v38 v39 v40 v41 v42 v43 v44 v45 v46 v47 v48 v49 v50 v51 v52 v53 v54 v55 v56 v57 v58 v59 v60 v61 v62 v63 v64 v65 : Value) (e : Bool) (a : Act) : Prop := ∃ (x6 x7 x8 x9 x10 x11 x12 x13 x14 x15 x16 x17 x18 x19 x20 x21 x22 x23 x24 x25 x26 : Value) (b : Bool), b = e ∧ a = ⟨#[v0, v1, v2, v3, v4, v5, x6, x7, x8, x9, x10, x11, x12, x13, x14, x15, x16, x17, x18, x19, x20, x21, x22, x23, x24, x25, x26, .bool b, v28, v29, v30, v31, v32, v33, v34, v35, v36, v37, v38, v39, v40, v41, v42, v43, v44, v45, v46, v47, v48, v49, v50, v51, v52, v53, v54, v55, v56, v57, v58, v59, v60, v61, v62, v63, v64, v65], []⟩

def mr.C5 (v0 v1 v2 v3 v4 v5 v33 v34 v35 v36 v37 v38 v39 v40 v41 v42 v43 v44 v45 v46 v47 v48 v49 v50 v51 v52 v53 v54 v55 v56 v57 v58 v59 v60 v61 v62 v63 v64 v65 : Value) (e : Bool) (a : Act) : Prop := ∃ (x6 x7 x8 x9 x10 x11 x12 x13 x14 x15 x16 x17 x18 x19 x20 x21 x22 x23 x24 x25 x26 x27 x28 x29 x30 x31 : Value) (b : Bool), b = e ∧ a = ⟨#[v0, v1, v2, v3, v4, v5, x6, x7, x8, x9, x10, x11, x12, x13, x14, x15, x16, x17, x18, x19, x20, x21, x22, x23, x24, x25, x26, x27, x28, x29, x30, x31, .bool b, v33, v34, v35, v36, v37, v38, v39, v40, v41, v42, v43, v44, v45, v46, v47, v48, v49, v50, v51, v52, v53, v54, v55, v56, v57, v58, v59, v60, v61, v62, v63, v64, v65], []⟩

def mr.C6 (v0 v1 v2 v3 v4 v5 v38 v39 v40 v41 v42 v43 v44 v45 v46 v47 v48 v49 v50 v51 v52 v53 v54 v55 v56 v57 v58 v59 v60 v61 v62 v63 v64 v65 : Value) (e : Bool) (a : Act) : Prop := ∃ (x6 x7 x8 x9 x10 x11 x12 x13 x14 x15 x16 x17 x18 x19 x20 x21 x22 x23 x24 x25 x26 x27 x28 x29 x30 x31 x32 x33 x34 x35 x36 : Value) (b : Bool), b = e ∧ a = ⟨#[v0, v1, v2, v3, v4, v5, x6, x7, x8, x9, x10, x11, x12, x13, x14, x15, x16, x17, x18, x19, x20, x21, x22, x23, x24, x25, x26, x27, x28, x29, x30, x31, x32, x33, x34, x35, x36, .bool b, v38, v39, v40, v41, v42, v43, v44, v45, v46, v47, v48, v49, v50, v51, v52, v53, v54, v55, v56, v57, v58, v59, v60, v61, v62, v63, v64, v65], []⟩


/-- what the reference refuses, the numbers' test given -/
def mr.flt (e : Bool) (d : List UInt8) (ns : List ByteArray) : Int := if e then 2 else if (decide (100 < d.length) || decide (40 < ns.length)) then 1 else if (mr.lists ns).all pa.name then 0 else 4
set_option maxRecDepth 100000 in
set_option maxHeartbeats 16000000 in
theorem ref_answerFault_in (m co hn kd sz : Int) (d : List UInt8) (Ad : Option Addr) (cd : Nat) (ns : List ByteArray) (An : Option Addr) (cn : Nat) (w : World) (hl : SlRep Rep.str w (· < w.heap.size) ns An cn) (hnl : ns.length ≤ 140737488351232) (hs : ∀ s ∈ ns, s.size ≤ 140737488351232) (fm fh fz : Bool)
    (HFm : Hid (∀ w, Calls Try.prog 45 #[.int .i64 m] w fun e w' => e = .returned (.bool fm) ∧ w' = w))
    (HFh : Hid (∀ w, Calls Try.prog 45 #[.int .i64 hn] w fun e w' => e = .returned (.bool fh) ∧ w' = w))
    (HFz : Hid (∀ w, Calls Try.prog 45 #[.int .i64 sz] w fun e w' => e = .returned (.bool fz) ∧ w' = w))
    (e1 : Bool) (E1 : Hid (e1 = (!fm))) (e2 : Bool) (E2 : Hid (e2 = (e1 || decide (co < 0)))) (e3 : Bool) (E3 : Hid (e3 = (e2 || decide (255 < co)))) (e4 : Bool) (E4 : Hid (e4 = (e3 || (!fh)))) (e5 : Bool) (E5 : Hid (e5 = (e4 || decide (kd < 0)))) (e6 : Bool) (E6 : Hid (e6 = (e5 || decide (255 < kd)))) (e7 : Bool) (E7 : Hid (e7 = (e6 || (!fz)))) :
    Calls Try.prog 33 #[.agg #[.int .i64 m, .int .i64 co, .int .i64 hn, .int .i64 kd, .int .i64 sz, .slice Ad d.length cd, .slice An ns.length cn]] w fun e w' => e = .returned (.int .i64 (mr.flt e7 d ns)) ∧ Below w.heap.size w w' := by
  have HL := Lib.hid hl
  have HSZ := Lib.hid hs
  clear hl hs
  go_enter Try.func33, Try.ntmps33
  go_upto_region 2 with fail
  have ha := mr.At.new w ⟨m, co, hn, kd, sz, d, ns⟩ Ad cd An cn
  have hb0 : Below w.heap.size w (w.alloc (.cells (mr.vals ⟨m, co, hn, kd, sz, d, ns⟩ Ad cd An cn).toArray 36)) := balloc (bself w) _
  unfold mr.vals at ha hb0
  have HA := Lib.hid ha
  have HB0 := Lib.hid hb0
  have y0 := ha.cell 0
  have y1 := ha.cell 1
  have y2 := ha.cell 2
  have y3 := ha.cell 3
  have y4 := ha.cell 4
  have y5 := ha.cell 5
  have y6 := ha.cell 6
  simp only [mr.vals, List.getElem?_cons_zero, List.getElem?_cons_succ] at y0 y1 y2 y3 y4 y5 y6
  clear ha hb0
  generalize w.alloc (.cells ([.int .i64 m, .int .i64 co, .int .i64 hn, .int .i64 kd, .int .i64 sz, .slice Ad d.length cd, .slice An ns.length cn] : List Value).toArray 36) = W0 at *
  go_cut [44] (fun s wx => s = .bool e7 ∧ W0 = wx)
  case first =>
    refine wp_region_lit ?_
    refine wpList_cut (R := fun a' w' => mr.C1 (.agg #[.int .i64 m, .int .i64 co, .int .i64 hn, .int .i64 kd, .int .i64 sz, .slice Ad d.length cd, .slice An ns.length cn]) (.pointer (some ⟨w.heap.size, 0, none⟩)) (.int .i64 0) (Value.func (Fn.func 45) #[] #[]) undef undef undef undef undef undef undef undef undef undef undef undef undef undef undef undef undef undef undef undef undef undef undef undef undef undef undef undef undef undef undef undef undef undef undef undef undef undef undef undef undef undef undef undef undef undef undef undef undef undef undef undef undef undef undef undef undef e1 a' ∧ W0 = w') [_, _, _, _, _] _ _ _ ?_ ?_
    · have HE := E1
      clear E1 E2 E3 E4 E5 E6 E7
      cases fm
      all_goals (go_wp2_with (first | (go_at_call 45; (first | (with_reducible refine (HFm.out _).mono ?_) | (with_reducible refine (HFh.out _).mono ?_) | (with_reducible refine (HFz.out _).mono ?_)); rintro e _ ⟨rfl, hw2⟩; subst hw2) | fail); all_goals refine cutQ_normal ⟨⟨_, _, _, _, _, ?_, rfl⟩, rfl⟩; all_goals (rw [HE.out]; clear HE; (first | rfl | (simp [*]; done) | (rw [Bool.eq_iff_iff]; simp [*]; done) | (rw [Bool.eq_iff_iff]; simp [*]; omega) | (congr 1; rw [Bool.eq_iff_iff]; simp [*] <;> omega))))
    rintro _ _ ⟨⟨x6, x7, x8, x9, b, hb, rfl⟩, hw2⟩
    subst hw2
    subst hb
    refine wpList_cut (R := fun a' w' => mr.C2 (.agg #[.int .i64 m, .int .i64 co, .int .i64 hn, .int .i64 kd, .int .i64 sz, .slice Ad d.length cd, .slice An ns.length cn]) (.pointer (some ⟨w.heap.size, 0, none⟩)) (.int .i64 0) (Value.func (Fn.func 45) #[] #[]) undef undef undef undef undef undef undef undef undef undef undef undef undef undef undef undef undef undef undef undef undef undef undef undef undef undef undef undef undef undef undef undef undef undef undef undef undef undef undef undef undef undef undef undef undef undef undef undef undef undef undef undef e2 a' ∧ W0 = w') [_, _, _, _, _] _ _ _ ?_ ?_
    · have HE := E2
      clear E1 E2 E3 E4 E5 E6 E7
      cases b
      case true =>
        go_wp2_with (first | (go_at_call 45; (first | (with_reducible refine (HFm.out _).mono ?_) | (with_reducible refine (HFh.out _).mono ?_) | (with_reducible refine (HFz.out _).mono ?_)); rintro e _ ⟨rfl, hw2⟩; subst hw2) | fail)
        all_goals refine cutQ_normal ⟨⟨_, _, _, _, _, _, _, _, _, _, ?_, rfl⟩, rfl⟩
        all_goals (rw [HE.out]; clear HE; (first | rfl | (simp [*]; done) | (rw [Bool.eq_iff_iff]; simp [*]; done) | (rw [Bool.eq_iff_iff]; simp [*]; omega) | (congr 1; rw [Bool.eq_iff_iff]; simp [*] <;> omega)))
      case false =>
        go_wp2_with (first | (go_at_call 45; (first | (with_reducible refine (HFm.out _).mono ?_) | (with_reducible refine (HFh.out _).mono ?_) | (with_reducible refine (HFz.out _).mono ?_)); rintro e _ ⟨rfl, hw2⟩; subst hw2) | fail)
        all_goals refine cutQ_normal ⟨⟨_, _, _, _, _, _, _, _, _, _, ?_, rfl⟩, rfl⟩
        all_goals (rw [HE.out]; clear HE; (first | rfl | (simp [*]; done) | (rw [Bool.eq_iff_iff]; simp [*]; done) | (rw [Bool.eq_iff_iff]; simp [*]; omega) | (congr 1; rw [Bool.eq_iff_iff]; simp [*] <;> omega)))
    rintro _ _ ⟨⟨x6, x7, x8, x9, x10, x11, x12, x13, x14, b, hb, rfl⟩, hw2⟩
    subst hw2
    subst hb
    refine wpList_cut (R := fun a' w' => mr.C3 (.agg #[.int .i64 m, .int .i64 co, .int .i64 hn, .int .i64 kd, .int .i64 sz, .slice Ad d.length cd, .slice An ns.length cn]) (.pointer (some ⟨w.heap.size, 0, none⟩)) (.int .i64 0) (Value.func (Fn.func 45) #[] #[]) undef undef undef undef undef undef undef undef undef undef undef undef undef undef undef undef undef undef undef undef undef undef undef undef undef undef undef undef undef undef undef undef undef undef undef undef undef undef undef undef undef undef undef undef undef undef undef e3 a' ∧ W0 = w') [_, _, _, _, _] _ _ _ ?_ ?_
    · have HE := E3
      clear E1 E2 E3 E4 E5 E6 E7
      cases b
      case true =>
        go_wp2_with (first | (go_at_call 45; (first | (with_reducible refine (HFm.out _).mono ?_) | (with_reducible refine (HFh.out _).mono ?_) | (with_reducible refine (HFz.out _).mono ?_)); rintro e _ ⟨rfl, hw2⟩; subst hw2) | fail)
        all_goals refine cutQ_normal ⟨⟨_, _, _, _, _, _, _, _, _, _, _, _, _, _, _, ?_, rfl⟩, rfl⟩
        all_goals (rw [HE.out]; clear HE; (first | rfl | (simp [*]; done) | (rw [Bool.eq_iff_iff]; simp [*]; done) | (rw [Bool.eq_iff_iff]; simp [*]; omega) | (congr 1; rw [Bool.eq_iff_iff]; simp [*] <;> omega)))
      case false =>
        go_wp2_with (first | (go_at_call 45; (first | (with_reducible refine (HFm.out _).mono ?_) | (with_reducible refine (HFh.out _).mono ?_) | (with_reducible refine (HFz.out _).mono ?_)); rintro e _ ⟨rfl, hw2⟩; subst hw2) | fail)
        all_goals refine cutQ_normal ⟨⟨_, _, _, _, _, _, _, _, _, _, _, _, _, _, _, ?_, rfl⟩, rfl⟩
        all_goals (rw [HE.out]; clear HE; (first | rfl | (simp [*]; done) | (rw [Bool.eq_iff_iff]; simp [*]; done) | (rw [Bool.eq_iff_iff]; simp [*]; omega) | (congr 1; rw [Bool.eq_iff_iff]; simp [*] <;> omega)))
    rintro _ _ ⟨⟨x6, x7, x8, x9, x10, x11, x12, x13, x14, x15, x16, x17, x18, x19, b, hb, rfl⟩, hw2⟩
    subst hw2
    subst hb
    refine wpList_cut (R := fun a' w' => mr.C4 (.agg #[.int .i64 m, .int .i64 co, .int .i64 hn, .int .i64 kd, .int .i64 sz, .slice Ad d.length cd, .slice An ns.length cn]) (.pointer (some ⟨w.heap.size, 0, none⟩)) (.int .i64 0) (Value.func (Fn.func 45) #[] #[]) undef undef undef undef undef undef undef undef undef undef undef undef undef undef undef undef undef undef undef undef undef undef undef undef undef undef undef undef undef undef undef undef undef undef undef undef undef undef undef undef e4 a' ∧ W0 = w') [_, _, _, _, _, _, _] _ _ _ ?_ ?_
    · have HE := E4
      clear E1 E2 E3 E4 E5 E6 E7
      cases b
      case true =>
        go_wp2_with (first | (go_at_call 45; (first | (with_reducible refine (HFm.out _).mono ?_) | (with_reducible refine (HFh.out _).mono ?_) | (with_reducible refine (HFz.out _).mono ?_)); rintro e _ ⟨rfl, hw2⟩; subst hw2) | fail)
        all_goals refine cutQ_normal ⟨⟨_, _, _, _, _, _, _, _, _, _, _, _, _, _, _, _, _, _, _, _, _, _, ?_, rfl⟩, rfl⟩
        all_goals (rw [HE.out]; clear HE; (first | rfl | (simp [*]; done) | (rw [Bool.eq_iff_iff]; simp [*]; done) | (rw [Bool.eq_iff_iff]; simp [*]; omega) | (congr 1; rw [Bool.eq_iff_iff]; simp [*] <;> omega)))
      case false =>
        cases fh
        all_goals (go_wp2_with (first | (go_at_call 45; (first | (with_reducible refine (HFm.out _).mono ?_) | (with_reducible refine (HFh.out _).mono ?_) | (with_reducible refine (HFz.out _).mono ?_)); rintro e _ ⟨rfl, hw2⟩; subst hw2) | fail); all_goals refine cutQ_normal ⟨⟨_, _, _, _, _, _, _, _, _, _, _, _, _, _, _, _, _, _, _, _, _, _, ?_, rfl⟩, rfl⟩; all_goals (rw [HE.out]; clear HE; (first | rfl | (simp [*]; done) | (rw [Bool.eq_iff_iff]; simp [*]; done) | (rw [Bool.eq_iff_iff]; simp [*]; omega) | (congr 1; rw [Bool.eq_iff_iff]; simp [*] <;> omega))))
    rintro _ _ ⟨⟨x6, x7, x8, x9, x10, x11, x12, x13, x14, x15, x16, x17, x18, x19, x20, x21, x22, x23, x24, x25, x26, b, hb, rfl⟩, hw2⟩
    subst hw2
    subst hb
    refine wpList_cut (R := fun a' w' => mr.C5 (.agg #[.int .i64 m, .int .i64 co, .int .i64 hn, .int .i64 kd, .int .i64 sz, .slice Ad d.length cd, .slice An ns.length cn]) (.pointer (some ⟨w.heap.size, 0, none⟩)) (.int .i64 0) (Value.func (Fn.func 45) #[] #[]) undef undef undef undef undef undef undef undef undef undef undef undef undef undef undef undef undef undef undef undef undef undef undef undef undef undef undef undef undef undef undef undef undef undef undef e5 a' ∧ W0 = w') [_, _, _, _, _] _ _ _ ?_ ?_
    · have HE := E5
      clear E1 E2 E3 E4 E5 E6 E7
      cases b
      case true =>
        go_wp2_with (first | (go_at_call 45; (first | (with_reducible refine (HFm.out _).mono ?_) | (with_reducible refine (HFh.out _).mono ?_) | (with_reducible refine (HFz.out _).mono ?_)); rintro e _ ⟨rfl, hw2⟩; subst hw2) | fail)
        all_goals refine cutQ_normal ⟨⟨_, _, _, _, _, _, _, _, _, _, _, _, _, _, _, _, _, _, _, _, _, _, _, _, _, _, _, ?_, rfl⟩, rfl⟩
        all_goals (rw [HE.out]; clear HE; (first | rfl | (simp [*]; done) | (rw [Bool.eq_iff_iff]; simp [*]; done) | (rw [Bool.eq_iff_iff]; simp [*]; omega) | (congr 1; rw [Bool.eq_iff_iff]; simp [*] <;> omega)))
      case false =>
        go_wp2_with (first | (go_at_call 45; (first | (with_reducible refine (HFm.out _).mono ?_) | (with_reducible refine (HFh.out _).mono ?_) | (with_reducible refine (HFz.out _).mono ?_)); rintro e _ ⟨rfl, hw2⟩; subst hw2) | fail)
        all_goals refine cutQ_normal ⟨⟨_, _, _, _, _, _, _, _, _, _, _, _, _, _, _, _, _, _, _, _, _, _, _, _, _, _, _, ?_, rfl⟩, rfl⟩
        all_goals (rw [HE.out]; clear HE; (first | rfl | (simp [*]; done) | (rw [Bool.eq_iff_iff]; simp [*]; done) | (rw [Bool.eq_iff_iff]; simp [*]; omega) | (congr 1; rw [Bool.eq_iff_iff]; simp [*] <;> omega)))
    rintro _ _ ⟨⟨x6, x7, x8, x9, x10, x11, x12, x13, x14, x15, x16, x17, x18, x19, x20, x21, x22, x23, x24, x25, x26, x27, x28, x29, x30, x31, b, hb, rfl⟩, hw2⟩
    subst hw2
    subst hb
    refine wpList_cut (R := fun a' w' => mr.C6 (.agg #[.int .i64 m, .int .i64 co, .int .i64 hn, .int .i64 kd, .int .i64 sz, .slice Ad d.length cd, .slice An ns.length cn]) (.pointer (some ⟨w.heap.size, 0, none⟩)) (.int .i64 0) (Value.func (Fn.func 45) #[] #[]) undef undef undef undef undef undef undef undef undef undef undef undef undef undef undef undef undef undef undef undef undef undef undef undef undef undef undef undef undef undef e6 a' ∧ W0 = w') [_, _, _, _, _] _ _ _ ?_ ?_
    · have HE := E6
      clear E1 E2 E3 E4 E5 E6 E7
      cases b
      case true =>
        go_wp2_with (first | (go_at_call 45; (first | (with_reducible refine (HFm.out _).mono ?_) | (with_reducible refine (HFh.out _).mono ?_) | (with_reducible refine (HFz.out _).mono ?_)); rintro e _ ⟨rfl, hw2⟩; subst hw2) | fail)
        all_goals refine cutQ_normal ⟨⟨_, _, _, _, _, _, _, _, _, _, _, _, _, _, _, _, _, _, _, _, _, _, _, _, _, _, _, _, _, _, _, _, ?_, rfl⟩, rfl⟩
        all_goals (rw [HE.out]; clear HE; (first | rfl | (simp [*]; done) | (rw [Bool.eq_iff_iff]; simp [*]; done) | (rw [Bool.eq_iff_iff]; simp [*]; omega) | (congr 1; rw [Bool.eq_iff_iff]; simp [*] <;> omega)))
      case false =>
        go_wp2_with (first | (go_at_call 45; (first | (with_reducible refine (HFm.out _).mono ?_) | (with_reducible refine (HFh.out _).mono ?_) | (with_reducible refine (HFz.out _).mono ?_)); rintro e _ ⟨rfl, hw2⟩; subst hw2) | fail)
        all_goals refine cutQ_normal ⟨⟨_, _, _, _, _, _, _, _, _, _, _, _, _, _, _, _, _, _, _, _, _, _, _, _, _, _, _, _, _, _, _, _, ?_, rfl⟩, rfl⟩
        all_goals (rw [HE.out]; clear HE; (first | rfl | (simp [*]; done) | (rw [Bool.eq_iff_iff]; simp [*]; done) | (rw [Bool.eq_iff_iff]; simp [*]; omega) | (congr 1; rw [Bool.eq_iff_iff]; simp [*] <;> omega)))
    rintro _ _ ⟨⟨x6, x7, x8, x9, x10, x11, x12, x13, x14, x15, x16, x17, x18, x19, x20, x21, x22, x23, x24, x25, x26, x27, x28, x29, x30, x31, x32, x33, x34, x35, x36, b, hb, rfl⟩, hw2⟩
    subst hw2
    subst hb
    have HE := E7
    clear E1 E2 E3 E4 E5 E6 E7
    cases b
    case true =>
      go_wp2_with (first | (go_at_call 45; (first | (with_reducible refine (HFm.out _).mono ?_) | (with_reducible refine (HFh.out _).mono ?_) | (with_reducible refine (HFz.out _).mono ?_)); rintro e _ ⟨rfl, hw2⟩; subst hw2) | fail)
      all_goals (go_meet; refine ⟨?_, rfl⟩; rw [HE.out]; clear HE; (first | rfl | (simp [*]; done) | (rw [Bool.eq_iff_iff]; simp [*]; done) | (rw [Bool.eq_iff_iff]; simp [*]; omega) | (congr 1; rw [Bool.eq_iff_iff]; simp [*] <;> omega)))
    case false =>
      cases fz
      all_goals (go_wp2_with (first | (go_at_call 45; (first | (with_reducible refine (HFm.out _).mono ?_) | (with_reducible refine (HFh.out _).mono ?_) | (with_reducible refine (HFz.out _).mono ?_)); rintro e _ ⟨rfl, hw2⟩; subst hw2) | fail); all_goals (go_meet; refine ⟨?_, rfl⟩; rw [HE.out]; clear HE; (first | rfl | (simp [*]; done) | (rw [Bool.eq_iff_iff]; simp [*]; done) | (rw [Bool.eq_iff_iff]; simp [*]; omega) | (congr 1; rw [Bool.eq_iff_iff]; simp [*] <;> omega))))
  case rest =>
    obtain ⟨rfl, rfl⟩ := hcut
    clear E1 E2 E3 E4 E5 E6 E7 HFm HFh HFz
    cases e7 with
    | true =>
      go_wp2
      go_ret
      exact ⟨rfl, HB0.out⟩
    | false =>
      by_cases h1 : 100 < d.length
      · have HE : Hid (mr.flt false d ns = 1) := Lib.hid (by unfold mr.flt; rw [decide_eq_true h1]; rfl)
        have q1 : decide ((d.length : Int) > 100) = true := decide_eq_true (by omega)
        clear h1
        go_wp2
        go_ret
        exact ⟨by rw [HE.out]; rfl, HB0.out⟩
      · have q1 : decide ((d.length : Int) > 100) = false := decide_eq_false (by omega)
        by_cases h2 : 40 < ns.length
        · have HE : Hid (mr.flt false d ns = 1) := Lib.hid (by unfold mr.flt; rw [decide_eq_false h1, decide_eq_true h2]; rfl)
          have q2 : decide ((ns.length : Int) > 40) = true := decide_eq_true (by omega)
          clear h1 h2
          go_wp2
          go_ret
          exact ⟨by rw [HE.out]; rfl, HB0.out⟩
        · have HE : Hid (mr.flt false d ns = if (mr.lists ns).all pa.name then 0 else 4) := Lib.hid (by unfold mr.flt; rw [decide_eq_false h1, decide_eq_false h2]; rfl)
          have q2 : decide ((ns.length : Int) > 40) = false := decide_eq_false (by omega)
          clear h1 h2
          go_wp2
          go_loopw [5, 58] (fun _ i wr => ∃ k : Nat, k ≤ ns.length ∧ i = .int .i64 k ∧ Hid (∀ j, j < k → pa.name ((pa.lists ns).getD j []) = true) ∧ Hid (Below w.heap.size w wr)) (fun _ i _ => ns.length - (intOf i).toNat)
          case atStart => exact ⟨0, by omega, rfl, Lib.hid (fun j hj => by omega), HB0⟩
          case round =>
            obtain ⟨k, hk, rfl, HAL, HB⟩ := hrel
            rename World => wr
            clear y0 y1 y2 y3 y4 y5 y6
            by_cases hlt : k < ns.length
            · obtain ⟨b, o, rfl, hb, hc1⟩ := str_at (HL.out.next HB.out) hlt
              obtain ⟨s, hs1, hs2⟩ := pa.of_strs hlt
              have hsz := HSZ.out (ns.getD k .empty) (by rw [List.getD_eq_getElem?_getD, List.getElem?_eq_getElem hlt]; exact List.getElem_mem hlt)
              rw [hs2] at hc1 hsz
              rw [strOf_size] at hsz
              have HS : Hid ((pa.lists ns).getD k [] = s) := Lib.hid (by rw [pa.lists_at hlt, hs1])
              clear hs1 hs2
              cases hnm : pa.name s with
              | true =>
                have HN : Hid (∀ j, j < k + 1 → pa.name ((pa.lists ns).getD j []) = true) := Lib.hid (fun j hj => by
                  rcases Nat.lt_or_ge j k with h' | h'
                  · exact HAL.out j h'
                  · obtain rfl : j = k := by omega
                    rw [HS.out]; exact hnm)
                go_wp2_with (go_at_call 46; ((with_reducible refine (ref_nameMay s _ hsz).mono ?_); rw [hnm]; rintro e w2 ⟨rfl, hb2⟩))
                go_roundw
                case rel => exact ⟨k + 1, by omega, by go_num, HN, Lib.hid (bnext HB.out hb2)⟩
                case measure => simp [intOf]; omega
              | false =>
                have HF : Hid ((mr.lists ns).all pa.name = false) := Lib.hid (pa.all_no (l := pa.lists ns) (k := k) (by rw [pa.lists_len]; exact hlt) (by rw [HS.out]; exact hnm))
                go_wp2_with (go_at_call 46; ((with_reducible refine (ref_nameMay s _ hsz).mono ?_); rw [hnm]; rintro e w2 ⟨rfl, hb2⟩))
                go_ret
                exact ⟨by rw [HE.out, HF.out]; rfl, bnext HB.out hb2⟩
            · obtain rfl : k = ns.length := by omega
              have HT : Hid ((mr.lists ns).all pa.name = true) := Lib.hid (pa.all_at (l := pa.lists ns) (by rw [pa.lists_len]; exact HAL.out))
              clear HAL HL
              go_wp2
              go_ret
              exact ⟨by rw [HE.out, HT.out]; rfl, HB.out⟩
theorem ref_answerFault (r : Reply) (Ad : Option Addr) (cd : Nat) (An : Option Addr) (cn : Nat) (w : World) (hl : SlRep Rep.str w (· < w.heap.size) r.names An cn) (hn : r.names.length ≤ 140737488351232) (hs : ∀ s ∈ r.names, s.size ≤ 140737488351232) :
    Calls Try.prog 33 #[.agg (mr.vals r Ad cd An cn).toArray] w fun e w' => e = .returned (.int .i64 (mr.fault r)) ∧ Below w.heap.size w w' := by
  have h := ref_answerFault_in r.mark r.code r.handle r.kind r.size r.data Ad cd r.names An cn w hl hn hs _ _ _ (Lib.hid (ref_four_r r.mark)) (Lib.hid (ref_four_r r.handle)) (Lib.hid (ref_four_r r.size))
    _ (Lib.hid rfl) _ (Lib.hid rfl) _ (Lib.hid rfl) _ (Lib.hid rfl) _ (Lib.hid rfl) _ (Lib.hid rfl) _ (Lib.hid rfl)
  rw [mr.fault_eq]
  exact h
end Go.Proofs.Ytcpbgiikfabaaaa
