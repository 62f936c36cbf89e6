/- Package huff: its forest in memory; Len, Less, Swap. No condition. -/
import Derived.Test.YtkbmpppendelcaaPrB
import Derived.Test.YtkbmpppendelcaaHeapP
import Derived.Test.YtkbmpppendelcaaPrA
import Derived.Test.YtkbmpppendelcaaFork
import Derived.Deep.DeepCutAuto
namespace Go.Proofs.Ytkbmpppendelcaa
open Go.RowKit
set_option linter.unusedSimpArgs false

def ho.cmpI (x y : Int) : Int := if x < y then -1 else if y < x then 1 else 0
theorem ho.cmpI_bd (x y : Int) : -1 ≤ ho.cmpI x y ∧ ho.cmpI x y ≤ 1 := by
  unfold ho.cmpI
  split
  · omega
  · split <;> omega
set_option maxHeartbeats 400000 in
theorem ho_isNaN (x : Int) (w : World) : Calls Try.prog 41 #[.int .i64 x] w fun e w' => e = .returned (.bool false) ∧ w = w' := by
  have hx : (x != x) = false := by simp
  go_enter Try.func41, Try.ntmps41
  go_wp2
  go_ret
  exact ⟨rfl, rfl⟩
set_option maxHeartbeats 400000 in
theorem ho_Compare (x y : Int) (w : World) : Calls Try.prog 37 #[.int .i64 x, .int .i64 y] w fun e w' => e = .returned (.int .i64 (ho.cmpI x y)) ∧ w = w' := by
  rcases Int.lt_trichotomy x y with h | h | h
  · have HE : Hid (ho.cmpI x y = -1) := Lib.hid (by unfold ho.cmpI; rw [if_pos h])
    go_enter Try.func37, Try.ntmps37
    go_wp2_with (go_at_call 41; refine (ho_isNaN _ _).mono ?_; rintro e w' ⟨rfl, rfl⟩)
    go_ret
    exact ⟨ret_int HE.out.symm, rfl⟩
  · have HE : Hid (ho.cmpI x y = 0) := Lib.hid (by unfold ho.cmpI; rw [if_neg (by omega), if_neg (by omega)])
    have h1 : ¬ x < y := by omega
    have h2 : ¬ y < x := by omega
    clear h
    go_enter Try.func37, Try.ntmps37
    go_wp2_with (go_at_call 41; refine (ho_isNaN _ _).mono ?_; rintro e w' ⟨rfl, rfl⟩)
    go_ret
    exact ⟨ret_int HE.out.symm, rfl⟩
  · have HE : Hid (ho.cmpI x y = 1) := Lib.hid (by unfold ho.cmpI; rw [if_neg (by omega), if_pos h])
    have h1 : ¬ x < y := by omega
    go_enter Try.func37, Try.ntmps37
    go_wp2_with (go_at_call 41; refine (ho_isNaN _ _).mono ?_; rintro e w' ⟨rfl, rfl⟩)
    go_ret
    exact ⟨ret_int HE.out.symm, rfl⟩
def ho.or (x y : Int) : Int := if x = 0 then y else x
set_option maxHeartbeats 400000 in
theorem cmp_Or (x y : Int) (g : Nat) (w : World) (h0 : w.cell? ⟨g, 0, none⟩ = some (.int .i64 x)) (h1 : w.cell? ⟨g, 1, none⟩ = some (.int .i64 y)) (hg : g < w.heap.size) : Calls Try.prog 82 #[.slice (some ⟨g, 0, none⟩) 2 2] w fun e w' => e = .returned (.int .i64 (ho.or x y)) ∧ w = w' := by
  by_cases c : x = 0
  · have HE : Hid (ho.or x y = y) := Lib.hid (by unfold ho.or; rw [if_pos c])
    have HC := Lib.hid c
    subst c
    by_cases d : y = 0
    · subst d
      go_enter Try.func82, Try.ntmps82
      go_wp2
      go_loop [8] (fun i => ∃ k : Nat, k ≤ 2 ∧ i = .int .i64 (k : Int)) (fun i => 2 - (intOf i).toNat)
      case atStart => exact ⟨0, by omega, rfl⟩
      case round =>
        obtain ⟨k, hk, rfl⟩ := hrel
        have hk3 : k = 0 ∨ k = 1 ∨ k = 2 := by omega
        rcases hk3 with rfl | rfl | rfl
        · go_wp2
          go_round
          case rel => exact ⟨1, by omega, rfl⟩
          case measure => simp [intOf]
        · go_wp2
          go_round
          case rel => exact ⟨2, by omega, rfl⟩
          case measure => simp [intOf]
        · go_wp2
          go_ret
          exact ⟨ret_int HE.out.symm, rfl⟩
    · have hd : (y != 0) = true := by simpa using d
      go_enter Try.func82, Try.ntmps82
      go_wp2
      go_loop [8] (fun i => ∃ k : Nat, k ≤ 1 ∧ i = .int .i64 (k : Int)) (fun i => 2 - (intOf i).toNat)
      case atStart => exact ⟨0, by omega, rfl⟩
      case round =>
        obtain ⟨k, hk, rfl⟩ := hrel
        have hk3 : k = 0 ∨ k = 1 := by omega
        rcases hk3 with rfl | rfl
        · go_wp2
          go_round
          case rel => exact ⟨1, by omega, rfl⟩
          case measure => simp [intOf]
        · go_wp2
          go_ret
          exact ⟨ret_int HE.out.symm, rfl⟩
  · have HE : Hid (ho.or x y = x) := Lib.hid (by unfold ho.or; rw [if_neg c])
    have hd : (x != 0) = true := by simpa using c
    go_enter Try.func82, Try.ntmps82
    go_wp2
    go_loop [8] (fun i => i = .int .i64 0) (fun i => 2 - (intOf i).toNat)
    case atStart => rfl
    case round =>
      subst hrel
      go_wp2
      go_ret
      exact ⟨ret_int HE.out.symm, rfl⟩
/-- a tree in memory -/
def TAt (w : World) : Nat → hl.T → Prop
  | p, .leaf c s => BlkA w p 55 #[.int .i64 c, .int .i64 (s : Int), .pointer none, .pointer none, .int .i64 0]
  | p, .node c pa a pb b d => BlkA w p 55 #[.int .i64 c, .int .i64 0, .pointer (some ⟨pa, 0, none⟩), .pointer (some ⟨pb, 0, none⟩), .int .i64 d] ∧ TAt w pa a ∧ TAt w pb b
def ho.ec (x : Nat × hl.T) : Value := .pointer (some ⟨x.1, 0, none⟩)
def ho.ek (x : Nat × hl.T) : Int := hl.cnt x.2 * 128 + hl.dep x.2
def ho.ez : Nat × hl.T := (0, .leaf 0 0)
theorem TAt.head {w : World} {p : Nat} {t : hl.T} (h : TAt w p t) : ∃ s q r, BlkA w p 55 #[.int .i64 (hl.cnt t), .int .i64 s, .pointer q, .pointer r, .int .i64 (hl.dep t)] := by
  cases t with
  | leaf c s => exact ⟨s, none, none, h⟩
  | node c pa a pb b d => exact ⟨0, _, _, h.1⟩
/-- a tree lies as it lay where no tree's block was turned -/
theorem TAt.stays {w w' : World} {No : Nat → Prop} (hs : Stays w w' No) (hn : ∀ k cs, BlkA w k 55 cs → ¬ No k) : ∀ {t : hl.T} {p : Nat}, TAt w p t → TAt w' p t
  | .leaf _ _, p, h => BlkA.stays h hs (hn p _ h)
  | .node _ pa a pb b _, p, h => ⟨h.1.stays hs (hn p _ h.1), TAt.stays hs hn h.2.1, TAt.stays hs hn h.2.2⟩
theorem TAt.next {w w' : World} (hb : Below w.heap.size w w') {t : hl.T} {p : Nat} (h : TAt w p t) : TAt w' p t := TAt.stays (Stays.of_below hb (fun _ => False)) (fun _ _ _ e => e) h
/-- a row of trees -/
structure RowT (w : World) (B : Nat) (A : Option Addr) (c : Nat) (fs : List (Nat × hl.T)) : Prop where
  row : Own w B 52 1 A fs.length c (fs.map ho.ec)
  tr : ∀ x ∈ fs, TAt w x.1 x.2
theorem treeNeRow : 52 ≠ 55 := by decide
theorem RowT.next {w w' : World} {B : Nat} {A : Option Addr} {c : Nat} {fs : List (Nat × hl.T)} (h : RowT w B A c fs) (hb : Below w.heap.size w w') : RowT w' B A c fs := ⟨h.row.next hb, fun x hx => (h.tr x hx).next hb⟩
theorem RowT.stays {w w' : World} {No : Nat → Prop} {B : Nat} {A : Option Addr} {c : Nat} {fs : List (Nat × hl.T)} (h : RowT w B A c fs) (hs : Stays w w' No) (h1 : ∀ k, blkOf A = some k → ¬ No k) (h2 : ∀ k cs, BlkA w k 55 cs → ¬ No k) : RowT w' B A c fs := ⟨h.row.stays hs h1, fun x hx => (h.tr x hx).stays hs h2⟩
theorem ho.getD_mem {fs : List (Nat × hl.T)} {i : Nat} (h : i < fs.length) : fs.getD i ho.ez ∈ fs := by rw [List.getD_eq_getElem?_getD, List.getElem?_eq_getElem h]; exact List.getElem_mem h
theorem ho.getD_some {fs : List (Nat × hl.T)} {i : Nat} (h : i < fs.length) : fs[i]? = some (fs.getD i ho.ez) := by rw [List.getD_eq_getElem?_getD, List.getElem?_eq_getElem h]; rfl
theorem RowT.at_ {w : World} {B : Nat} {A : Option Addr} {c : Nat} {fs : List (Nat × hl.T)} (h : RowT w B A c fs) {i : Nat} (hi : i < fs.length) : ∃ g, A = some ⟨g, 0, none⟩ ∧ B ≤ g ∧ g < w.heap.size ∧ w.cell? ⟨g, i, none⟩ = some (.pointer (some ⟨(fs.getD i ho.ez).1, 0, none⟩)) :=
  h.row.cell (by rw [List.getElem?_map, ho.getD_some hi]; rfl)
theorem ho.key {c1 c2 d1 d2 : Int} (h1 : 0 ≤ d1 ∧ d1 < 128) (h2 : 0 ≤ d2 ∧ d2 < 128) : decide (ho.or (ho.cmpI c1 c2) (ho.cmpI d1 d2) < 0) = decide (c1 * 128 + d1 < c2 * 128 + d2) := by
  unfold ho.or ho.cmpI
  refine decide_eq_decide.2 ?_
  by_cases a : c1 < c2
  · rw [if_pos a, if_neg (by decide)]
    omega
  · by_cases b : c2 < c1
    · rw [if_neg a, if_pos b, if_neg (by decide)]
      omega
    · rw [if_neg a, if_neg b, if_pos rfl]
      by_cases d : d1 < d2
      · rw [if_pos d]
        omega
      · rw [if_neg d]
        split <;> omega
set_option maxHeartbeats 400000 in
theorem forest_Len (A : Option Addr) (n c : Nat) (w : World) : Calls Try.prog 79 #[.slice A n c] w fun e w' => e = .returned (.int .i64 (n : Int)) ∧ w = w' := by
  go_enter Try.func79, Try.ntmps79
  go_wp2
  go_ret
  exact ⟨rfl, rfl⟩
/-- so deep is none -/
def ho.Low (fs : List (Nat × hl.T)) : Prop := ∀ x ∈ fs, 0 ≤ hl.dep x.2 ∧ hl.dep x.2 < 128
set_option maxRecDepth 100000 in
set_option maxHeartbeats 1000000 in
theorem forest_Less (B : Nat) (A : Option Addr) (c : Nat) (fs : List (Nat × hl.T)) (i j : Nat) (w : World) (h : RowT w B A c fs) (hi : i < fs.length) (hj : j < fs.length) (hlow : ho.Low fs) :
    Calls Try.prog 80 #[.slice A fs.length c, .int .i64 (i : Int), .int .i64 (j : Int)] w fun e w' => e = .returned (.bool (decide (ho.ek (fs.getD i ho.ez) < ho.ek (fs.getD j ho.ez)))) ∧ Below w.heap.size w w' := by
  obtain ⟨g, rfl, _, hg, a0⟩ := h.at_ hi
  obtain ⟨g', e, _, _, b0⟩ := h.at_ hj
  simp only [Option.some.injEq, Addr.mk.injEq, and_true] at e
  subst e
  obtain ⟨s1, q1, r1, x1⟩ := (h.tr _ (ho.getD_mem hi)).head
  obtain ⟨s2, q2, r2, x2⟩ := (h.tr _ (ho.getD_mem hj)).head
  have hk := ho.key (c1 := hl.cnt (fs.getD i ho.ez).2) (c2 := hl.cnt (fs.getD j ho.ez).2) (hlow _ (ho.getD_mem hi)) (hlow _ (ho.getD_mem hj))
  have HK : Hid (decide (ho.ek (fs.getD i ho.ez) < ho.ek (fs.getD j ho.ez)) = decide (ho.or (ho.cmpI (hl.cnt (fs.getD i ho.ez).2) (hl.cnt (fs.getD j ho.ez).2)) (ho.cmpI (hl.dep (fs.getD i ho.ez).2) (hl.dep (fs.getD j ho.ez).2)) < 0)) := Lib.hid hk.symm
  have X1 := Lib.hid x1
  have X2 := Lib.hid x2
  have hi' : (i : Int) < (fs.length : Int) := by omega
  have hj' : (j : Int) < (fs.length : Int) := by omega
  have hlen : fs.length ≤ 9223372036854775807 := by have := h.row.cap; unfold maxLen at this; omega
  rw [HK.out]
  clear hk x1 x2 HK
  generalize fs.getD i ho.ez = u at *
  generalize fs.getD j ho.ez = v at *
  obtain ⟨p, t⟩ := u
  obtain ⟨q, t'⟩ := v
  simp only at a0 b0 X1 X2 ⊢
  generalize hl.cnt t = c1 at *
  generalize hl.cnt t' = c2 at *
  generalize hl.dep t = d1 at *
  generalize hl.dep t' = d2 at *
  have HSS : Hid (∀ wx, Below w.heap.size w wx → wx.cell? ⟨g, i, none⟩ = some (.pointer (some ⟨p, 0, none⟩)) ∧ wx.cell? ⟨g, j, none⟩ = some (.pointer (some ⟨q, 0, none⟩)) ∧ wx.cell? ⟨p, 0, none⟩ = some (.int .i64 c1) ∧ wx.cell? ⟨q, 0, none⟩ = some (.int .i64 c2) ∧ wx.cell? ⟨p, 4, none⟩ = some (.int .i64 d1) ∧ wx.cell? ⟨q, 4, none⟩ = some (.int .i64 d2)) := Lib.hid (fun wx hb => ⟨(hb.cell (p := ⟨g, i, none⟩) hg).trans a0, (hb.cell (p := ⟨g, j, none⟩) hg).trans b0, (X1.out.next hb).get 0, (X2.out.next hb).get 0, (X1.out.next hb).get 4, (X2.out.next hb).get 4⟩)
  have l1 := X1.out.lt
  have l2 := X2.out.lt
  clear h hi hj
  go_enter Try.func80, Try.ntmps80
  go_upto_region 1 with (fail)
  --<less
  refine wp_region_tail [] (fun wx => wx.cell? ⟨g, i, none⟩ = some (.pointer (some ⟨p, 0, none⟩)) ∧ wx.cell? ⟨g, j, none⟩ = some (.pointer (some ⟨q, 0, none⟩)) ∧ wx.cell? ⟨p, 0, none⟩ = some (.int .i64 c1) ∧ wx.cell? ⟨q, 0, none⟩ = some (.int .i64 c2) ∧ wx.cell? ⟨p, 4, none⟩ = some (.int .i64 d1) ∧ wx.cell? ⟨q, 4, none⟩ = some (.int .i64 d2)) (by kernel_rfl) (HSS.out w (bself _)) ?_
  intro hHeld
  refine wpAnyT_pure (i := 0) (v := ?_) rfl (by kernel_rfl) (by kernel_rfl) (by kernel_rfl) (fun _ _ _ h => h) (.inl ⟨by kernel_rfl, ?_⟩) (fun _ => hHeld) ?_ (by decide)
  rotate_left
  · intro w9; go_simp; try with_reducible rfl
  try simp only [Act.put, List.getElem_toArray, List.getElem_cons_succ, List.getElem_cons_zero, List.setIfInBounds_toArray, List.set_cons_zero, List.set_cons_succ]
  refine wpAnyT_pure (i := 1) (v := ?_) rfl (by kernel_rfl) (by kernel_rfl) (by kernel_rfl) (fun _ _ _ h => h) (.inl ⟨by kernel_rfl, ?_⟩) (fun _ => hHeld) ?_ (by decide)
  rotate_left
  · intro w9; go_simp; try with_reducible rfl
  try simp only [Act.put, List.getElem_toArray, List.getElem_cons_succ, List.getElem_cons_zero, List.setIfInBounds_toArray, List.set_cons_zero, List.set_cons_succ]
  refine wpAnyT_pure (i := 2) (v := ?_) rfl (by kernel_rfl) (by kernel_rfl) (by kernel_rfl) (fun _ _ _ h => h) (.inl ⟨by kernel_rfl, ?_⟩) (fun _ => hHeld) ?_ (by decide)
  rotate_left
  · intro w9; go_simp; try with_reducible rfl
  try simp only [Act.put, List.getElem_toArray, List.getElem_cons_succ, List.getElem_cons_zero, List.setIfInBounds_toArray, List.set_cons_zero, List.set_cons_succ]
  refine wpAnyT_pure (i := 7) (v := ?_) rfl (by kernel_rfl) (by kernel_rfl) (by kernel_rfl) (fun _ _ _ h => h) (.inl ⟨by kernel_rfl, ?_⟩) (fun _ => hHeld) ?_ (by decide)
  rotate_left
  · intro w9; go_simp; try with_reducible rfl
  try simp only [Act.put, List.getElem_toArray, List.getElem_cons_succ, List.getElem_cons_zero, List.setIfInBounds_toArray, List.set_cons_zero, List.set_cons_succ]
  refine wpAnyT_pure (i := 8) (v := ?_) rfl (by kernel_rfl) (by kernel_rfl) (by kernel_rfl) (fun _ _ _ h => h) (.inl ⟨by kernel_rfl, ?_⟩) (fun _ => hHeld) ?_ (by decide)
  rotate_left
  · intro w9; go_simp; try with_reducible rfl
  try simp only [Act.put, List.getElem_toArray, List.getElem_cons_succ, List.getElem_cons_zero, List.setIfInBounds_toArray, List.set_cons_zero, List.set_cons_succ]
  refine wpAnyT_pure (i := 9) (v := ?_) rfl (by kernel_rfl) (by kernel_rfl) (by kernel_rfl) (fun _ _ _ h => h) (.inl ⟨by kernel_rfl, ?_⟩) (fun _ => hHeld) ?_ (by decide)
  rotate_left
  · intro w9; go_simp; try with_reducible rfl
  try simp only [Act.put, List.getElem_toArray, List.getElem_cons_succ, List.getElem_cons_zero, List.setIfInBounds_toArray, List.set_cons_zero, List.set_cons_succ]
  refine wpAnyT_pure (i := 15) (v := ?_) rfl (by kernel_rfl) (by kernel_rfl) (by kernel_rfl) (fun _ _ _ h => h) (.inl ⟨by kernel_rfl, ?_⟩) (fun _ => hHeld) ?_ (by decide)
  rotate_left
  · intro w9; go_simp; try with_reducible rfl
  try simp only [Act.put, List.getElem_toArray, List.getElem_cons_succ, List.getElem_cons_zero, List.setIfInBounds_toArray, List.set_cons_zero, List.set_cons_succ]
  refine wpAnyT_pure (i := 16) (v := ?_) rfl (by kernel_rfl) (by kernel_rfl) (by kernel_rfl) (fun _ _ _ h => h) (.inl ⟨by kernel_rfl, ?_⟩) (fun _ => hHeld) ?_ (by decide)
  rotate_left
  · intro w9; go_simp; try with_reducible rfl
  try simp only [Act.put, List.getElem_toArray, List.getElem_cons_succ, List.getElem_cons_zero, List.setIfInBounds_toArray, List.set_cons_zero, List.set_cons_succ]
  refine wpAnyT_pure (i := 17) (v := ?_) rfl (by kernel_rfl) (by kernel_rfl) (by kernel_rfl) (fun _ _ _ h => h) (.inl ⟨by kernel_rfl, ?_⟩) (fun _ => hHeld) ?_ (by decide)
  rotate_left
  · intro w9; go_simp; try with_reducible rfl
  try simp only [Act.put, List.getElem_toArray, List.getElem_cons_succ, List.getElem_cons_zero, List.setIfInBounds_toArray, List.set_cons_zero, List.set_cons_succ]
  refine wpAnyT_pure (i := 22) (v := ?_) rfl (by kernel_rfl) (by kernel_rfl) (by kernel_rfl) (fun _ _ _ h => h) (.inl ⟨by kernel_rfl, ?_⟩) (fun _ => hHeld) ?_ (by decide)
  rotate_left
  · intro w9; go_simp; try with_reducible rfl
  try simp only [Act.put, List.getElem_toArray, List.getElem_cons_succ, List.getElem_cons_zero, List.setIfInBounds_toArray, List.set_cons_zero, List.set_cons_succ]
  refine wpAnyT_pure (i := 23) (v := ?_) rfl (by kernel_rfl) (by kernel_rfl) (by kernel_rfl) (fun _ _ _ h => h) (.inl ⟨by kernel_rfl, ?_⟩) (fun _ => hHeld) ?_ (by decide)
  rotate_left
  · intro w9; go_simp; try with_reducible rfl
  try simp only [Act.put, List.getElem_toArray, List.getElem_cons_succ, List.getElem_cons_zero, List.setIfInBounds_toArray, List.set_cons_zero, List.set_cons_succ]
  refine wpAnyT_pure (i := 24) (v := ?_) rfl (by kernel_rfl) (by kernel_rfl) (by kernel_rfl) (fun _ _ _ h => h) (.inl ⟨by kernel_rfl, ?_⟩) (fun _ => hHeld) ?_ (by decide)
  rotate_left
  · intro w9; go_simp; try with_reducible rfl
  try simp only [Act.put, List.getElem_toArray, List.getElem_cons_succ, List.getElem_cons_zero, List.setIfInBounds_toArray, List.set_cons_zero, List.set_cons_succ]
  refine wpAnyT_take (i := 3) [] (v := ?_) rfl (by kernel_rfl) (by kernel_rfl) (by kernel_rfl) (by kernel_rfl) (fun _ _ _ h => h) (.inl ⟨by kernel_rfl, ?_⟩) hHeld ?_
  rotate_left
  · intro w9 hS9; (try dsimp only at hS9); obtain ⟨q1, q2, q3, q4, q5, q6⟩ := hS9; go_simp; try with_reducible rfl
  try simp only [Act.put, List.getElem_toArray, List.getElem_cons_succ, List.getElem_cons_zero, List.setIfInBounds_toArray, List.set_cons_zero, List.set_cons_succ]
  refine wpAnyT_pure (i := 4) (v := ?_) rfl (by kernel_rfl) (by kernel_rfl) (by kernel_rfl) (fun _ _ _ h => h) (.inl ⟨by kernel_rfl, ?_⟩) (fun _ => hHeld) ?_ (by decide)
  rotate_left
  · intro w9; go_simp; try with_reducible rfl
  try simp only [Act.put, List.getElem_toArray, List.getElem_cons_succ, List.getElem_cons_zero, List.setIfInBounds_toArray, List.set_cons_zero, List.set_cons_succ]
  refine wpAnyT_pure (i := 5) (v := ?_) rfl (by kernel_rfl) (by kernel_rfl) (by kernel_rfl) (fun _ _ _ h => h) (.inl ⟨by kernel_rfl, ?_⟩) (fun _ => hHeld) ?_ (by decide)
  rotate_left
  · intro w9; go_simp; try with_reducible rfl
  try simp only [Act.put, List.getElem_toArray, List.getElem_cons_succ, List.getElem_cons_zero, List.setIfInBounds_toArray, List.set_cons_zero, List.set_cons_succ]
  refine wpAnyT_take (i := 6) [] (v := ?_) rfl (by kernel_rfl) (by kernel_rfl) (by kernel_rfl) (by kernel_rfl) (fun _ _ _ h => h) (.inl ⟨by kernel_rfl, ?_⟩) hHeld ?_
  rotate_left
  · intro w9 hS9; (try dsimp only at hS9); obtain ⟨q1, q2, q3, q4, q5, q6⟩ := hS9; go_simp; try with_reducible rfl
  try simp only [Act.put, List.getElem_toArray, List.getElem_cons_succ, List.getElem_cons_zero, List.setIfInBounds_toArray, List.set_cons_zero, List.set_cons_succ]
  refine wpAnyT_take (i := 10) [] (v := ?_) rfl (by kernel_rfl) (by kernel_rfl) (by kernel_rfl) (by kernel_rfl) (fun _ _ _ h => h) (.inl ⟨by kernel_rfl, ?_⟩) hHeld ?_
  rotate_left
  · intro w9 hS9; (try dsimp only at hS9); obtain ⟨q1, q2, q3, q4, q5, q6⟩ := hS9; go_simp; try with_reducible rfl
  try simp only [Act.put, List.getElem_toArray, List.getElem_cons_succ, List.getElem_cons_zero, List.setIfInBounds_toArray, List.set_cons_zero, List.set_cons_succ]
  refine wpAnyT_pure (i := 11) (v := ?_) rfl (by kernel_rfl) (by kernel_rfl) (by kernel_rfl) (fun _ _ _ h => h) (.inl ⟨by kernel_rfl, ?_⟩) (fun _ => hHeld) ?_ (by decide)
  rotate_left
  · intro w9; go_simp; try with_reducible rfl
  try simp only [Act.put, List.getElem_toArray, List.getElem_cons_succ, List.getElem_cons_zero, List.setIfInBounds_toArray, List.set_cons_zero, List.set_cons_succ]
  refine wpAnyT_pure (i := 12) (v := ?_) rfl (by kernel_rfl) (by kernel_rfl) (by kernel_rfl) (fun _ _ _ h => h) (.inl ⟨by kernel_rfl, ?_⟩) (fun _ => hHeld) ?_ (by decide)
  rotate_left
  · intro w9; go_simp; try with_reducible rfl
  try simp only [Act.put, List.getElem_toArray, List.getElem_cons_succ, List.getElem_cons_zero, List.setIfInBounds_toArray, List.set_cons_zero, List.set_cons_succ]
  refine wpAnyT_take (i := 13) [] (v := ?_) rfl (by kernel_rfl) (by kernel_rfl) (by kernel_rfl) (by kernel_rfl) (fun _ _ _ h => h) (.inl ⟨by kernel_rfl, ?_⟩) hHeld ?_
  rotate_left
  · intro w9 hS9; (try dsimp only at hS9); obtain ⟨q1, q2, q3, q4, q5, q6⟩ := hS9; go_simp; try with_reducible rfl
  try simp only [Act.put, List.getElem_toArray, List.getElem_cons_succ, List.getElem_cons_zero, List.setIfInBounds_toArray, List.set_cons_zero, List.set_cons_succ]
  refine wpAnyT_take (i := 18) [] (v := ?_) rfl (by kernel_rfl) (by kernel_rfl) (by kernel_rfl) (by kernel_rfl) (fun _ _ _ h => h) (.inl ⟨by kernel_rfl, ?_⟩) hHeld ?_
  rotate_left
  · intro w9 hS9; (try dsimp only at hS9); obtain ⟨q1, q2, q3, q4, q5, q6⟩ := hS9; go_simp; try with_reducible rfl
  try simp only [Act.put, List.getElem_toArray, List.getElem_cons_succ, List.getElem_cons_zero, List.setIfInBounds_toArray, List.set_cons_zero, List.set_cons_succ]
  refine wpAnyT_pure (i := 19) (v := ?_) rfl (by kernel_rfl) (by kernel_rfl) (by kernel_rfl) (fun _ _ _ h => h) (.inl ⟨by kernel_rfl, ?_⟩) (fun _ => hHeld) ?_ (by decide)
  rotate_left
  · intro w9; go_simp; try with_reducible rfl
  try simp only [Act.put, List.getElem_toArray, List.getElem_cons_succ, List.getElem_cons_zero, List.setIfInBounds_toArray, List.set_cons_zero, List.set_cons_succ]
  refine wpAnyT_pure (i := 20) (v := ?_) rfl (by kernel_rfl) (by kernel_rfl) (by kernel_rfl) (fun _ _ _ h => h) (.inl ⟨by kernel_rfl, ?_⟩) (fun _ => hHeld) ?_ (by decide)
  rotate_left
  · intro w9; go_simp; try with_reducible rfl
  try simp only [Act.put, List.getElem_toArray, List.getElem_cons_succ, List.getElem_cons_zero, List.setIfInBounds_toArray, List.set_cons_zero, List.set_cons_succ]
  refine wpAnyT_take (i := 21) [] (v := ?_) rfl (by kernel_rfl) (by kernel_rfl) (by kernel_rfl) (by kernel_rfl) (fun _ _ _ h => h) (.inl ⟨by kernel_rfl, ?_⟩) hHeld ?_
  rotate_left
  · intro w9 hS9; (try dsimp only at hS9); obtain ⟨q1, q2, q3, q4, q5, q6⟩ := hS9; go_simp; try with_reducible rfl
  try simp only [Act.put, List.getElem_toArray, List.getElem_cons_succ, List.getElem_cons_zero, List.setIfInBounds_toArray, List.set_cons_zero, List.set_cons_succ]
  refine wpAnyT_take (i := 25) [] (v := ?_) rfl (by kernel_rfl) (by kernel_rfl) (by kernel_rfl) (by kernel_rfl) (fun _ _ _ h => h) (.inl ⟨by kernel_rfl, ?_⟩) hHeld ?_
  rotate_left
  · intro w9 hS9; (try dsimp only at hS9); obtain ⟨q1, q2, q3, q4, q5, q6⟩ := hS9; go_simp; try with_reducible rfl
  try simp only [Act.put, List.getElem_toArray, List.getElem_cons_succ, List.getElem_cons_zero, List.setIfInBounds_toArray, List.set_cons_zero, List.set_cons_succ]
  refine wpAnyT_pure (i := 26) (v := ?_) rfl (by kernel_rfl) (by kernel_rfl) (by kernel_rfl) (fun _ _ _ h => h) (.inl ⟨by kernel_rfl, ?_⟩) (fun _ => hHeld) ?_ (by decide)
  rotate_left
  · intro w9; go_simp; try with_reducible rfl
  try simp only [Act.put, List.getElem_toArray, List.getElem_cons_succ, List.getElem_cons_zero, List.setIfInBounds_toArray, List.set_cons_zero, List.set_cons_succ]
  refine wpAnyT_pure (i := 27) (v := ?_) rfl (by kernel_rfl) (by kernel_rfl) (by kernel_rfl) (fun _ _ _ h => h) (.inl ⟨by kernel_rfl, ?_⟩) (fun _ => hHeld) ?_ (by decide)
  rotate_left
  · intro w9; go_simp; try with_reducible rfl
  try simp only [Act.put, List.getElem_toArray, List.getElem_cons_succ, List.getElem_cons_zero, List.setIfInBounds_toArray, List.set_cons_zero, List.set_cons_succ]
  refine wpAnyT_take (i := 28) [] (v := ?_) rfl (by kernel_rfl) (by kernel_rfl) (by kernel_rfl) (by kernel_rfl) (fun _ _ _ h => h) (.inl ⟨by kernel_rfl, ?_⟩) hHeld ?_
  rotate_left
  · intro w9 hS9; (try dsimp only at hS9); obtain ⟨q1, q2, q3, q4, q5, q6⟩ := hS9; go_simp; try with_reducible rfl
  try simp only [Act.put, List.getElem_toArray, List.getElem_cons_succ, List.getElem_cons_zero, List.setIfInBounds_toArray, List.set_cons_zero, List.set_cons_succ]
  refine wpAnyT_next (i := 14) (by kernel_rfl) rfl ?_
  intro K hK
  go_simp
  go_at_call 37
  refine (ho_Compare _ _ _).mono ?_
  rintro e _ ⟨rfl, rfl⟩
  go_simp
  have hHeld2 := hHeld
  refine hK.out _ _ (fun _ => hHeld2) ?_
  clear hK K hHeld
  have hHeld := hHeld2
  clear hHeld2
  try simp only [Act.put, List.getElem_toArray, List.getElem_cons_succ, List.getElem_cons_zero, List.setIfInBounds_toArray, List.set_cons_zero, List.set_cons_succ]
  refine wpAnyT_next (i := 29) (by kernel_rfl) rfl ?_
  intro K hK
  go_simp
  go_at_call 37
  refine (ho_Compare _ _ _).mono ?_
  rintro e _ ⟨rfl, rfl⟩
  go_simp
  have hHeld2 := hHeld
  refine hK.out _ _ (fun _ => hHeld2) ?_
  clear hK K hHeld
  have hHeld := hHeld2
  clear hHeld2
  try simp only [Act.put, List.getElem_toArray, List.getElem_cons_succ, List.getElem_cons_zero, List.setIfInBounds_toArray, List.set_cons_zero, List.set_cons_succ]
  refine wpAnyT_next (i := 30) (by kernel_rfl) rfl ?_
  intro K hK
  go_simp
  refine hK.out _ _ (fun _ => (HSS.out _ (by exact (by repeat (first | (with_reducible exact Below.refl _ _) | (with_reducible assumption) | (with_reducible refine bset ?_ ?_ _) | (with_reducible refine balloc ?_ _) | (with_reducible refine Below.drew ?_) | (with_reducible refine bdrewN ?_ _) | (with_reducible refine bnext ?_ (by with_reducible assumption)) | exact Nat.le_refl _ | (simp; done) | omega | (simp; omega)))))) ?_
  clear hK K
  try simp only [Act.put, List.getElem_toArray, List.getElem_cons_succ, List.getElem_cons_zero, List.setIfInBounds_toArray, List.set_cons_zero, List.set_cons_succ]
  refine wpAnyT_next (i := 31) (by kernel_rfl) rfl ?_
  intro K hK
  go_simp
  go_at_call 82
  refine (cmp_Or (ho.cmpI c1 c2) (ho.cmpI d1 d2) w.heap.size _ (by go_simp) (by go_simp) (by simp)).mono ?_
  rintro e w9 ⟨rfl, hw9⟩
  have hb9 : Below w.heap.size w w9 := by rw [← hw9]; exact (by repeat (first | (with_reducible exact Below.refl _ _) | (with_reducible assumption) | (with_reducible refine bset ?_ ?_ _) | (with_reducible refine balloc ?_ _) | (with_reducible refine Below.drew ?_) | (with_reducible refine bdrewN ?_ _) | (with_reducible refine bnext ?_ (by with_reducible assumption)) | exact Nat.le_refl _ | (simp; done) | omega | (simp; omega)))
  have hs9 := HSS.out w9 hb9
  clear hw9
  go_simp
  have hHeld2 := hs9
  refine hK.out _ _ (fun _ => hHeld2) ?_
  clear hK K hHeld
  have hHeld := hHeld2
  clear hHeld2
  try simp only [Act.put, List.getElem_toArray, List.getElem_cons_succ, List.getElem_cons_zero, List.setIfInBounds_toArray, List.set_cons_zero, List.set_cons_succ]
  refine wpAnyT_pure (i := 32) (v := ?_) rfl (by kernel_rfl) (by kernel_rfl) (by kernel_rfl) (fun _ _ _ h => h) (.inl ⟨by kernel_rfl, ?_⟩) (fun _ => hHeld) ?_ (by decide)
  rotate_left
  · intro w9; go_simp; try with_reducible rfl
  try simp only [Act.put, List.getElem_toArray, List.getElem_cons_succ, List.getElem_cons_zero, List.setIfInBounds_toArray, List.set_cons_zero, List.set_cons_succ]
  refine wpAnyT_pure (i := 33) (v := ?_) rfl (by kernel_rfl) (by kernel_rfl) (by kernel_rfl) (fun _ _ _ h => h) (.inl ⟨by kernel_rfl, ?_⟩) (fun _ => hHeld) ?_ (by decide)
  rotate_left
  · intro w9; go_simp; try with_reducible rfl
  try simp only [Act.put, List.getElem_toArray, List.getElem_cons_succ, List.getElem_cons_zero, List.setIfInBounds_toArray, List.set_cons_zero, List.set_cons_succ]
  refine wpAnyT_done (by kernel_rfl) ?_ _
  --less>
  go_wp2
  go_ret
  exact ⟨rfl, (by repeat (first | (with_reducible exact Below.refl _ _) | (with_reducible assumption) | (with_reducible refine bset ?_ ?_ _) | (with_reducible refine balloc ?_ _) | (with_reducible refine Below.drew ?_) | (with_reducible refine bdrewN ?_ _) | (with_reducible refine bnext ?_ (by with_reducible assumption)) | exact Nat.le_refl _ | (simp; done) | omega | (simp; omega)))⟩
set_option maxHeartbeats 1000000 in
theorem forest_Swap (B : Nat) (A : Option Addr) (c : Nat) (fs : List (Nat × hl.T)) (i j : Nat) (w : World) (h : RowT w B A c fs) (hi : i < fs.length) (hj : j < fs.length) :
    Calls Try.prog 81 #[.slice A fs.length c, .int .i64 (i : Int), .int .i64 (j : Int)] w fun e w' => e = .returned (.tuple #[]) ∧ RowT w' B A c (hp.swap ho.ez fs i j) ∧ Stays w w' (fun k => blkOf A = some k) := by
  obtain ⟨g, rfl, _, hg, a0⟩ := h.at_ hi
  obtain ⟨g', e, _, _, b0⟩ := h.at_ hj
  simp only [Option.some.injEq, Addr.mk.injEq, and_true] at e
  subst e
  have HFIN : Hid (∀ w', w' = ((w.setCell ⟨g, i, none⟩ (.pointer (some ⟨(fs.getD j ho.ez).1, 0, none⟩))).setCell ⟨g, j, none⟩ (.pointer (some ⟨(fs.getD i ho.ez).1, 0, none⟩))).drew → RowT w' B (some ⟨g, 0, none⟩) c (hp.swap ho.ez fs i j) ∧ Stays w w' (fun k => blkOf (some ⟨g, 0, none⟩) = some k)) := Lib.hid (fun w' hw => by
    have hs : Stays w w' (fun k => blkOf (some ⟨g, 0, none⟩) = some k) := by
      rw [hw]
      exact (((Stays.set _ _ _ _).mono fun k _ e => by rw [e]; rfl).comp ((Stays.set _ _ _ _).mono fun k _ e => by rw [e]; rfl)).comp (Stays.of_below (Below.drew (bself _)) _)
    have hr := ((h.row.setAt (j := i) (ho.ec (fs.getD j ho.ez))).setAt (j := j) (ho.ec (fs.getD i ho.ez))).drew
    refine ⟨⟨?_, fun x hx => ?_⟩, hs⟩
    · rw [hw]
      have e1 : (hp.swap ho.ez fs i j).map ho.ec = (((fs.map ho.ec).set i (ho.ec (fs.getD j ho.ez))).set j (ho.ec (fs.getD i ho.ez))) := by
        unfold hp.swap
        rw [List.map_set, List.map_set]
      rw [e1, hp.swap_length]
      exact hr
    · have hm : x ∈ fs := (hp.swap_perm ho.ez hi hj).subset hx
      exact (h.tr x hm).stays hs (fun k cs hb e => hb.apart h.row treeNeRow e))
  have hi' : (i : Int) < (fs.length : Int) := by omega
  have hj' : (j : Int) < (fs.length : Int) := by omega
  have hlen : fs.length ≤ 9223372036854775807 := by have := h.row.cap; unfold maxLen at this; omega
  have fz := fun o => h.row.frozenAt o
  generalize (fs.getD i ho.ez).1 = p at *
  generalize (fs.getD j ho.ez).1 = q at *
  obtain ⟨v9, hv9⟩ := cell?_setCell_some (p := ⟨g, i, none⟩) (x := .pointer (some ⟨q, 0, none⟩)) b0
  clear h hi hj
  go_enter Try.func81, Try.ntmps81
  go_upto_region 0 with (fail)
  --<swap
  refine wp_region_tail [13, 15] (fun wx => wx.cell? ⟨g, i, none⟩ = some (.pointer (some ⟨p, 0, none⟩)) ∧ wx.cell? ⟨g, j, none⟩ = some (.pointer (some ⟨q, 0, none⟩))) (by kernel_rfl) (⟨a0, b0⟩) ?_
  intro hHeld
  refine wpAnyT_pure (i := 0) (v := ?_) rfl (by kernel_rfl) (by kernel_rfl) (by kernel_rfl) (fun _ _ _ h => h) (.inl ⟨by kernel_rfl, ?_⟩) (fun _ => hHeld) ?_ (by decide)
  rotate_left
  · intro w9; go_simp; try with_reducible rfl
  try simp only [Act.put, List.getElem_toArray, List.getElem_cons_succ, List.getElem_cons_zero, List.setIfInBounds_toArray, List.set_cons_zero, List.set_cons_succ]
  refine wpAnyT_pure (i := 1) (v := ?_) rfl (by kernel_rfl) (by kernel_rfl) (by kernel_rfl) (fun _ _ _ h => h) (.inl ⟨by kernel_rfl, ?_⟩) (fun _ => hHeld) ?_ (by decide)
  rotate_left
  · intro w9; go_simp; try with_reducible rfl
  try simp only [Act.put, List.getElem_toArray, List.getElem_cons_succ, List.getElem_cons_zero, List.setIfInBounds_toArray, List.set_cons_zero, List.set_cons_succ]
  refine wpAnyT_pure (i := 2) (v := ?_) rfl (by kernel_rfl) (by kernel_rfl) (by kernel_rfl) (fun _ _ _ h => h) (.inl ⟨by kernel_rfl, ?_⟩) (fun _ => hHeld) ?_ (by decide)
  rotate_left
  · intro w9; go_simp; try with_reducible rfl
  try simp only [Act.put, List.getElem_toArray, List.getElem_cons_succ, List.getElem_cons_zero, List.setIfInBounds_toArray, List.set_cons_zero, List.set_cons_succ]
  refine wpAnyT_pure (i := 3) (v := ?_) rfl (by kernel_rfl) (by kernel_rfl) (by kernel_rfl) (fun _ _ _ h => h) (.inl ⟨by kernel_rfl, ?_⟩) (fun _ => hHeld) ?_ (by decide)
  rotate_left
  · intro w9; go_simp; try with_reducible rfl
  try simp only [Act.put, List.getElem_toArray, List.getElem_cons_succ, List.getElem_cons_zero, List.setIfInBounds_toArray, List.set_cons_zero, List.set_cons_succ]
  refine wpAnyT_pure (i := 4) (v := ?_) rfl (by kernel_rfl) (by kernel_rfl) (by kernel_rfl) (fun _ _ _ h => h) (.inl ⟨by kernel_rfl, ?_⟩) (fun _ => hHeld) ?_ (by decide)
  rotate_left
  · intro w9; go_simp; try with_reducible rfl
  try simp only [Act.put, List.getElem_toArray, List.getElem_cons_succ, List.getElem_cons_zero, List.setIfInBounds_toArray, List.set_cons_zero, List.set_cons_succ]
  refine wpAnyT_pure (i := 5) (v := ?_) rfl (by kernel_rfl) (by kernel_rfl) (by kernel_rfl) (fun _ _ _ h => h) (.inl ⟨by kernel_rfl, ?_⟩) (fun _ => hHeld) ?_ (by decide)
  rotate_left
  · intro w9; go_simp; try with_reducible rfl
  try simp only [Act.put, List.getElem_toArray, List.getElem_cons_succ, List.getElem_cons_zero, List.setIfInBounds_toArray, List.set_cons_zero, List.set_cons_succ]
  refine wpAnyT_pure (i := 6) (v := ?_) rfl (by kernel_rfl) (by kernel_rfl) (by kernel_rfl) (fun _ _ _ h => h) (.inl ⟨by kernel_rfl, ?_⟩) (fun _ => hHeld) ?_ (by decide)
  rotate_left
  · intro w9; go_simp; try with_reducible rfl
  try simp only [Act.put, List.getElem_toArray, List.getElem_cons_succ, List.getElem_cons_zero, List.setIfInBounds_toArray, List.set_cons_zero, List.set_cons_succ]
  refine wpAnyT_pure (i := 8) (v := ?_) rfl (by kernel_rfl) (by kernel_rfl) (by kernel_rfl) (fun _ _ _ h => h) (.inl ⟨by kernel_rfl, ?_⟩) (fun _ => hHeld) ?_ (by decide)
  rotate_left
  · intro w9; go_simp; try with_reducible rfl
  try simp only [Act.put, List.getElem_toArray, List.getElem_cons_succ, List.getElem_cons_zero, List.setIfInBounds_toArray, List.set_cons_zero, List.set_cons_succ]
  refine wpAnyT_pure (i := 9) (v := ?_) rfl (by kernel_rfl) (by kernel_rfl) (by kernel_rfl) (fun _ _ _ h => h) (.inl ⟨by kernel_rfl, ?_⟩) (fun _ => hHeld) ?_ (by decide)
  rotate_left
  · intro w9; go_simp; try with_reducible rfl
  try simp only [Act.put, List.getElem_toArray, List.getElem_cons_succ, List.getElem_cons_zero, List.setIfInBounds_toArray, List.set_cons_zero, List.set_cons_succ]
  refine wpAnyT_pure (i := 10) (v := ?_) rfl (by kernel_rfl) (by kernel_rfl) (by kernel_rfl) (fun _ _ _ h => h) (.inl ⟨by kernel_rfl, ?_⟩) (fun _ => hHeld) ?_ (by decide)
  rotate_left
  · intro w9; go_simp; try with_reducible rfl
  try simp only [Act.put, List.getElem_toArray, List.getElem_cons_succ, List.getElem_cons_zero, List.setIfInBounds_toArray, List.set_cons_zero, List.set_cons_succ]
  refine wpAnyT_take (i := 7) [12, 13, 14, 15] (v := ?_) rfl (by kernel_rfl) (by kernel_rfl) (by kernel_rfl) (by kernel_rfl) (fun _ _ _ h => h) (.inl ⟨by kernel_rfl, ?_⟩) hHeld ?_
  rotate_left
  · intro w9 hS9; (try dsimp only at hS9); obtain ⟨q1, q2⟩ := hS9; go_simp; try with_reducible rfl
  try simp only [Act.put, List.getElem_toArray, List.getElem_cons_succ, List.getElem_cons_zero, List.setIfInBounds_toArray, List.set_cons_zero, List.set_cons_succ]
  refine wpAnyT_take (i := 11) [12, 13, 14, 15] (v := ?_) rfl (by kernel_rfl) (by kernel_rfl) (by kernel_rfl) (by kernel_rfl) (fun _ _ _ h => h) (.inl ⟨by kernel_rfl, ?_⟩) hHeld ?_
  rotate_left
  · intro w9 hS9; (try dsimp only at hS9); obtain ⟨q1, q2⟩ := hS9; go_simp; try with_reducible rfl
  try simp only [Act.put, List.getElem_toArray, List.getElem_cons_succ, List.getElem_cons_zero, List.setIfInBounds_toArray, List.set_cons_zero, List.set_cons_succ]
  refine wpAnyT_pure (i := 12) (v := ?_) rfl (by kernel_rfl) (by kernel_rfl) (by kernel_rfl) (fun _ _ _ h => h) (.inl ⟨by kernel_rfl, ?_⟩) (fun _ => hHeld) ?_ (by decide)
  rotate_left
  · intro w9; go_simp; try with_reducible rfl
  try simp only [Act.put, List.getElem_toArray, List.getElem_cons_succ, List.getElem_cons_zero, List.setIfInBounds_toArray, List.set_cons_zero, List.set_cons_succ]
  refine wpAnyT_next (i := 13) (by kernel_rfl) rfl ?_
  intro K hK
  go_simp
  refine hK.out _ _ (fun h => absurd ((by kernel_rfl : false = _).trans h) Bool.false_ne_true) ?_
  clear hK K
  refine wpAnyT_pure (i := 14) (v := ?_) rfl (by kernel_rfl) (by kernel_rfl) (by kernel_rfl) (fun _ _ _ h => h) (.inl ⟨by kernel_rfl, ?_⟩) (fun h => absurd ((by kernel_rfl : false = _).trans h) Bool.false_ne_true) ?_ (by decide)
  rotate_left
  · intro w9; go_simp; try with_reducible rfl
  try simp only [Act.put, List.getElem_toArray, List.getElem_cons_succ, List.getElem_cons_zero, List.setIfInBounds_toArray, List.set_cons_zero, List.set_cons_succ]
  refine wpAnyT_next (i := 15) (by kernel_rfl) rfl ?_
  intro K hK
  go_simp
  refine hK.out _ _ (fun h => absurd ((by kernel_rfl : false = _).trans h) Bool.false_ne_true) ?_
  clear hK K
  refine wpAnyT_done (by kernel_rfl) ?_ _
  --swap>
  go_wp2
  go_end0
  exact ⟨rfl, HFIN.out _ rfl⟩
end Go.Proofs.Ytkbmpppendelcaa
