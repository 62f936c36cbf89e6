/- Package lz: note, best. No condition. -/
import Derived.Test.YtkbmpppendelcaaLz3
import Derived.Test.YtkbmpppendelcaaGroups
import Derived.DeepKeys4
import Derived.Test.YtkbmpppendelcaaPrB
namespace Go.Proofs.Ytkbmpppendelcaa
open Go.RowKit

theorem elemIntLz : ElemT Try.prog 29 3 1 8 := ElemT.of Try.underlying29 (z := .int .i64 0) (by kernel_rfl) rfl (by decide)
namespace lzq
theorem laid : laidOutB Try.prog = true := by kernel_rfl
theorem row3 : (68 : TypeId) < Try.prog.types.size := of_decide_eq_true (by kernel_rfl)
theorem klaw : WideMaps.KeyLaw Try.prog 68 := deep_law_laid laid (m := 2) (by omega) row3 (by kernel_rfl) (by rw [Try.underlying68])
theorem keyed : Maps.Keyed Try.prog 68 := Maps.Keyed.of_law klaw
theorem keyT : Try.prog.keyType 68 = true := by kernel_rfl
theorem one_up {n k : Nat} (h : k < n) : ∃ m, n = m + 1 := ⟨n - 1, by omega⟩
theorem tsz : ∃ m, Try.prog.types.size = m + 1 := one_up row3
theorem one5 : Try.prog.cellsOf 5 = 1 := by kernel_rfl
theorem cells3 : Try.prog.cellsOf 68 = 3 := by kernel_rfl
theorem zeroIs (u : World) : (zeroValue 29).run Try.prog u = .ok (.slice none 0 0) u := by kernel_rfl
theorem wf8 (x : UInt8) : (Lit.int .u8 (x.toNat : Int)).wf = true := by
  have := x.toNat_lt
  simp [Lit.wf, IntKind.min, IntKind.max, IntKind.signed, IntKind.bits]
  omega
def keyVal (x y z : UInt8) : Value := .agg #[.int .u8 (x.toNat : Int), .int .u8 (y.toNat : Int), .int .u8 (z.toNat : Int)]
theorem keyOf_val (x y z : UInt8) : ∃ kl, keyOf Try.prog 68 (keyVal x y z) = some kl := by
  obtain ⟨m, hm⟩ := tsz
  refine ⟨.string (keyBytes [.int .u8 x.toNat, .int .u8 y.toNat, .int .u8 z.toNat]), ?_⟩
  unfold keyOf keyVal
  simp only [Try.underlying68]
  rw [if_pos (by simp [keyT, Value.formed, Try.underlying68, cells3]), hm]
  unfold Program.keyLits
  simp only [Try.underlying68, Value.cells]
  rw [if_pos (by rw [cells3]; rfl), show List.range 3 = [0, 1, 2] from rfl, List.mapM_cons, List.mapM_cons, List.mapM_cons, List.mapM_nil]
  simp [one5, Program.keyLits, Try.underlying5, wf8]
/-- the key of a place, as a value -/
def keyV (l : List UInt8) (p : Nat) : Value := keyVal (l.getD p 0) (l.getD (p + 1) 0) (l.getD (p + 2) 0)
theorem keyV_inj {l : List UInt8} {p r : Nat} : keyV l p = keyV l r ↔ key l p = key l r := by
  unfold keyV keyVal key
  constructor
  · intro h
    simp only [Value.agg.injEq, Array.mk.injEq, List.cons.injEq, Value.int.injEq, true_and, and_true] at h
    simp only [Prod.mk.injEq]
    exact ⟨UInt8.toNat_inj.1 (by omega), UInt8.toNat_inj.1 (by omega), UInt8.toNat_inj.1 (by omega)⟩
  · intro h
    simp only [Prod.mk.injEq] at h
    rw [h.1, h.2.1, h.2.2]
open Classical in
/-- the places ahead of k where a value's key stands -/
noncomputable def posV (l : List UInt8) (k : Nat) : Value → List Int := fun v => ((List.range k).filter fun p => decide (p + 3 ≤ l.length ∧ keyV l p = v)).map fun p : Nat => (p : Int)
theorem posV_zero (l : List UInt8) : posV l 0 = fun _ => [] := rfl
theorem posV_len (l : List UInt8) (k : Nat) (v : Value) : (posV l k v).length ≤ k := by
  unfold posV
  rw [List.length_map]
  exact Nat.le_trans (List.length_filter_le _ _) (by simp)
open Classical in
theorem posV_hit {l : List UInt8} {k : Nat} (h : k + 3 ≤ l.length) : posV l (k + 1) = putAt (posV l k) (keyV l k) (posV l k (keyV l k) ++ [(k : Int)]) := by
  funext v
  by_cases hv : v = keyV l k
  · subst hv
    rw [putAt_same]
    unfold posV
    rw [List.range_succ, List.filter_append, List.map_append]
    simp [h]
  · rw [putAt_other _ _ hv]
    unfold posV
    rw [List.range_succ, List.filter_append]
    simp only [List.filter_cons, List.filter_nil]
    rw [if_neg (fun e => hv (of_decide_eq_true e).2.symm), List.append_nil]
open Classical in
theorem posV_miss {l : List UInt8} {k : Nat} (h : l.length < k + 3) : posV l (k + 1) = posV l k := by
  funext v
  unfold posV
  rw [List.range_succ, List.filter_append]
  simp only [List.filter_cons, List.filter_nil]
  rw [if_neg (fun e => by have := (of_decide_eq_true e).1; omega), List.append_nil]
theorem posV_at (l : List UInt8) (a : Nat) : posV l a (keyV l a) = (poss l (key l a) a).map fun p : Nat => (p : Int) := by
  unfold posV poss
  exact congrArg _ (List.filter_congr fun p _ => decide_eq_decide.2 (and_congr_right fun _ => keyV_inj))
end lzq

theorem run_array3 (A : Option Addr) (c : Nat) (W : World) : (Instr.arrayAt 68 (.slice A 3 c)).run Try.prog W = .ok (.pointer A) W := by
  simp [Instr.arrayAt, run_underlying Try.underlying68]
theorem cells_same {w w' : World} {A : Option Addr} {xs : List Value} (h : Cells w A xs) (hk : ∀ g, blkOf A = some g → w'.heap[g]? = w.heap[g]?) : Cells w' A xs := by
  rcases h with h | ⟨b, o, rfl, hc⟩
  · exact .inl h
  · exact .inr ⟨b, o, rfl, fun j u hu => (World.cell?_of_block (hk b rfl)).trans (hc j u hu)⟩

/-- three bytes of a slice, as an array -/
theorem three_at {l : List UInt8} {A : Option Addr} {c k : Nat} {w : World} {S : Nat → Prop} (hl : SlRep Rep.u8 w S l A c) (h : k + 3 ≤ l.length) :
    ∃ b o, cutA A c k 1 = some ⟨b, o, none⟩ ∧ S b ∧ w.cell? ⟨b, o, none⟩ = some (.int .u8 (l.getD k 0).toNat) ∧ w.cell? ⟨b, o + 1, none⟩ = some (.int .u8 (l.getD (k + 1) 0).toNat) ∧ w.cell? ⟨b, o + 2, none⟩ = some (.int .u8 (l.getD (k + 2) 0).toNat) := by
  have hlen : ((l.drop k).take 3).length = 3 := by simp; omega
  obtain ⟨b, o, e, hb, hc⟩ := u8_cells (hl.cut (f := k) (n := 3) h) (by omega)
  have g : ∀ j, j < 3 → ((l.drop k).take 3).getD j 0 = l.getD (k + j) 0 := fun j hj => by
    simp only [List.getD_eq_getElem?_getD, List.getElem?_take, List.getElem?_drop]
    rw [if_pos hj]
  refine ⟨b, o, e, hb, ?_, ?_, ?_⟩
  · have := hc 0 (by omega); rwa [g 0 (by omega)] at this
  · have := hc 1 (by omega); rwa [g 1 (by omega)] at this
  · have := hc 2 (by omega); rwa [g 2 (by omega)] at this

set_option maxRecDepth 100000 in
set_option maxHeartbeats 2000000 in
theorem lz_note (l : List UInt8) (A : Option Addr) (c k b : Nat) (No : Nat → Prop) (w : World) (hl : SlRep Rep.u8 w (· < b) l A c) (hk : k ≤ l.length) (hn : l.length ≤ 4096)
    (hG : Groups Try.prog 68 3 .i64 w b b k No (lzq.posV l k)) (hN : ∀ j, No j → j < w.heap.size) :
    Calls Try.prog 18 #[.map (some b), .slice A l.length c, .int .i64 k] w fun e w' => e = .returned (.tuple #[]) ∧ Groups Try.prog 68 3 .i64 w' b b (k + 1) No (lzq.posV l (k + 1)) ∧ Below b w w' ∧ ∀ j, No j → w'.heap[j]? = w.heap[j]? := by
  have HL := Lib.hid hl
  have HG := Lib.hid hG
  have HN := Lib.hid hN
  have hbs := hG.lt
  clear hl hG hN
  go_enter Try.func18, Try.ntmps18
  by_cases h3 : k + 3 ≤ l.length
  · have h3i : (k : Int) + 3 ≤ (l.length : Int) := by omega
    have HP := Lib.hid (lzq.posV_hit h3)
    rw [show lzq.keyV l k = lzq.keyVal (l.getD k 0) (l.getD (k + 1) 0) (l.getD (k + 2) 0) from rfl] at HP
    obtain ⟨kl, hkl⟩ := lzq.keyOf_val (l.getD k 0) (l.getD (k + 1) 0) (l.getD (k + 2) 0)
    have HK := Lib.hid hkl
    have hcl := fun W => run_cut_lh (P := Try.prog) elemU8 A l.length c k 3 (by have := HL.out.1; omega) (k : Int) ((k : Int) + 3) rfl rfl W
    obtain ⟨bb, o, e1, hbb, hc0, hc1, hc2⟩ := three_at HL.out h3
    rw [e1] at hcl
    have har := run_array3 (some ⟨bb, o, none⟩) (c - k)
    have hbw : bb < w.heap.size := by omega
    clear hkl e1 HL
    generalize l.getD k 0 = x0 at *
    generalize l.getD (k + 1) 0 = x1 at *
    generalize l.getD (k + 2) 0 = x2 at *
    go_wp2_with (first
      | (at_builtin; refine wp_app _ rfl _ _ _ rfl elemIntLz b _ _ _ _ rfl ho1 _ 1 1 [_] rfl rfl hcel (by simp [Value.oneCell']) (by omega) (by unfold maxLen; omega) (by omega) ?_; intro A2 c2 w2 ho2 hg2; have hno2 : ∀ g, blkOf A2 = some g → ¬ No g := fun g hg hNg => (hg2.blk.elim (fun e => (hno1 g (e ▸ hg)).1 hNg) (fun ⟨g', h1, h2⟩ => by have h3 := HN.out g hNg; rw [h2] at hg; cases hg; omega)))
      | (refine wp_mapEntry _ rfl _ _ _ rfl 29 lzq.klaw Try.underlying45 lzq.zeroIs rfl (HG.out.next (by repeat (first | (with_reducible exact Below.refl _ _) | (with_reducible assumption) | (with_reducible refine bset ?_ ?_ _) | (with_reducible refine balloc ?_ _) | (with_reducible refine Below.drew ?_) | (with_reducible refine bdrewN ?_ _) | (with_reducible refine bnext ?_ (by with_reducible assumption)) | exact Nat.le_refl _ | (simp; done) | omega | (simp; omega)))) (by unfold maxLen; omega) (lzq.keyVal x0 x1 x2) kl rfl HK.out ?_; intro A1 m1 c1 st w1 ho1 hno1 hg1 hsz1 hback1; have hm1 : m1 ≤ 4096 := (by have h1 := ho1.len; have h2 := lzq.posV_len l k (lzq.keyVal x0 x1 x2); rw [List.length_map] at h1; omega); have hcel := cells_same (Cells.newAt (w.alloc (.cells #[.int .u8 (x0.toNat : Int), .int .u8 (x1.toNat : Int), .int .u8 (x2.toNat : Int)] 68)) 3 [.int .i64 (k : Int)] (b := w.heap.size + 1) (by simp)) (fun g hg => by cases hg; exact hg1.block _ (by simp) (by simp; omega)); have hsz2 : w1.heap.size = w.heap.size + 2 := hsz1.trans (by simp))
      | (refine wp_entryStore _ rfl _ _ _ _ rfl hback1 rfl rfl rfl hg2.grown.size (fun j hj hne => hg2.grown.block j hj (fun e => hne e.symm)) (zs := lzq.posV l k (lzq.keyVal x0 x1 x2) ++ [(k : Int)]) (by rw [List.map_append]; exact ho2) hg2.blk hno2 ?_; intro w3 hG3 hg3)
      | fail)
    go_end0
    have hw : Below b w ((w.alloc (.cells #[.int .u8 (x0.toNat : Int), .int .u8 (x1.toNat : Int), .int .u8 (x2.toNat : Int)] 68)).alloc (.cells #[.int .i64 (k : Int)] 3)) := ((Below.refl b w).alloc (by omega) _).alloc (by simp; omega) _
    have hs1 := hg1.size
    have hs2 := hg2.grown.size
    simp only [World.size_alloc] at hs1
    refine ⟨rfl, by rw [HP.out]; exact hG3, ((hw.grown hg1 (by simp; omega) (fun j hj => by cases hj; exact Nat.le_refl _)).grown hg2.grown (by omega) (fun j hj => (ho1.lt j hj).1)).grown hg3 (by omega) (fun j hj => by cases hj; exact Nat.le_refl _), fun j hj => ?_⟩
    have hjl := HN.out j hj
    have hjb : j ≠ b := fun e => HG.out.off (e ▸ hj)
    rw [hg3.block j (by omega) (fun e => hjb (by cases e; rfl)), hg2.grown.block j (by omega) (fun e => (hno1 j e.symm).1 hj), hg1.block j (by simp; omega) (fun e => hjb (by cases e; rfl))]
    rw [Below.heap_alloc _ _ j (by simp; omega), Below.heap_alloc _ _ j hjl]
  · have h3i : (l.length : Int) < (k : Int) + 3 := by omega
    have HP := Lib.hid (lzq.posV_miss (l := l) (k := k) (by omega))
    go_wp2
    go_end0
    exact ⟨rfl, by rw [HP.out]; exact HG.out.more (by omega), Below.refl _ _, fun _ _ => rfl⟩
end Go.Proofs.Ytkbmpppendelcaa
