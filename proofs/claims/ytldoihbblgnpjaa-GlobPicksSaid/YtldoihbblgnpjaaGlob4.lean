/- Package glob: the parts of a pattern. No condition. -/
import Derived.Test.YtldoihbblgnpjaaGlob3
import Derived.Test.YtldoihbblgnpjaaSl
namespace Go.Proofs.Ytldoihbblgnpjaa
open Go.RowKit

theorem gl.item_len (it : gl.Item) : (gl.item it).length = 257 := gl.cells_len _ _
theorem gl.item_one (it : gl.Item) : ∀ v ∈ gl.item it, v.oneCell' = true := gl.cells_one _ _
theorem gl.elemP : ElemT Try.prog 35 47 257 257 := ElemT.of Try.underlying35 (z := .agg (gl.cells false gl.no).toArray) (by kernel_rfl) (gl.cells_size _ _) (by decide)
theorem gl.builtRun : (Try.prog.built 47 [(0, .bool true)]).map (·.toList) = some (gl.item .run) := by kernel_rfl
theorem gl.eq_cells (b : UInt8) : gl.cells false (fun i => i == b.toNat) = gl.item (.eq b) := by
  refine gl.cells_congr false fun i hi => ?_
  show _ = (UInt8.ofNat i == b)
  rw [Bool.eq_iff_iff, beq_iff_eq, beq_iff_eq]
  constructor
  · rintro rfl; simp
  · rintro rfl; rw [UInt8.toNat_ofNat']; omega
theorem glob_one_item (b : UInt8) (w : World) : Calls Try.prog 25 #[.int .u8 (b.toNat : Int)] w fun e w' => e = .returned (.agg (gl.item (.eq b)).toArray) ∧ Below w.heap.size w w' := by
  rw [← gl.eq_cells]
  exact glob_one b w
theorem wp_buildOne {P : Program} {o : Oper} {a : Act} {w : World} {K : Act → World → Prop} {Q : Exit → Act → World → Prop} (t e : TypeId) (x : Operand) (ho : o.op = .buildSlice t 1 #[(0, x)]) {size bytes : Nat} (hT : ElemT P t e size bytes) (hs : size ≤ 1000)
    (cs : List Value) (hc : cs.length = size) (hx : a.eval x = .agg cs.toArray)
    (h : K (a.put o.dst (.slice (some ⟨w.heap.size, 0, none⟩) 1 1)) (w.alloc (.cells cs.toArray e))) : o.wp P a w K Q := by
  obtain ⟨i, z, hi, hz, hsize, hby, hzs⟩ := hT.info
  have hpos := hT.pos
  refine wp_buildSlice t e 1 _ ho cs.toArray i z hT.und hi hz (by rw [hsize]; omega) (by rw [hsize]; omega) ?_ h
  rw [hsize]
  simp only [List.map_toArray, List.map_cons, List.map_nil, hx]
  exact fill_one size _ cs hzs hc
def gl.PartsRes (s : List UInt8) (w : World) (e : Ending) (w' : World) : Prop :=
  (∃ A n c, e = .returned (.tuple #[.slice A n c, .bool (gl.parse s).isSome]) ∧ ∀ l, gl.parse s = some l → n = l.length ∧ l.length ≤ 40 ∧ Own w' w.heap.size 47 257 A l.length c (l.flatMap gl.item)) ∧ Below w.heap.size w w'
theorem gl.PartsRes.no {s : List UInt8} {w w' : World} {e : Ending} (h : gl.parse s = none) (he : e = .returned (.tuple #[.slice none 0 0, .bool false])) (hb : Below w.heap.size w w') : gl.PartsRes s w e w' :=
  ⟨⟨none, 0, 0, by rw [h]; exact he, fun l hl => by rw [h] at hl; cases hl⟩, hb⟩
theorem gl.step_set (t : List UInt8) : gl.step 91 t = gl.setOf t := by
  unfold gl.step
  rw [if_neg (by decide), if_neg (by decide), if_pos rfl]
theorem gl.thereZ (w : World) : (w.alloc (.cells (gl.cells false gl.no).toArray 47)).there w.heap.size 0 257 := by
  have h := there_new w (gl.cells false gl.no) 47
  rwa [gl.cells_len] at h
theorem gl.parse_short {s : List UInt8} (h : ¬ 40 < s.length) : gl.parse s = gl.items [] s := if_neg h

set_option maxRecDepth 100000 in
set_option maxHeartbeats 8000000 in
theorem glob_parts (s : List UInt8) (w : World) (hs : s.length ≤ 140737488351232) : Calls Try.prog 16 #[.string (strOf s)] w (gl.PartsRes s w) := by
  by_cases hlong : 40 < s.length
  · have hd : decide ((s.length : Int) > 40) = true := by simp; omega
    have hd' : decide (40 < (s.length : Int)) = true := by simp; omega
    have HX : Hid (gl.parse s = none) := Lib.hid (if_pos hlong)
    clear hlong
    go_enter Try.func16, Try.ntmps16
    go_wp2
    go_ret2
    exact gl.PartsRes.no HX.out rfl (Below.refl _ _)
  · have hd : decide ((s.length : Int) > 40) = false := by simp; omega
    have hd' : decide (40 < (s.length : Int)) = false := by simp; omega
    have hs40 : s.length ≤ 40 := by omega
    have HPS := Lib.hid (gl.parse_short hlong)
    clear hlong hs
    obtain ⟨fs, hu⟩ := gl.isRow
    have HU := Lib.hid hu
    clear hu
    go_enter Try.func16, Try.ntmps16
    go_wp2
    go_loopw [0, 4] (fun s0 s4 wr => ∃ (acc : List gl.Item) (cur : List UInt8) (A : Option Addr) (c : Nat), s0 = .string (strOf cur) ∧ s4 = .slice A acc.length c ∧ cur.length + acc.length ≤ 40 ∧ Hid (gl.items acc cur = gl.items [] s) ∧ Hid (Own wr w.heap.size 47 257 A acc.length c (acc.flatMap gl.item) ∧ Below w.heap.size w wr)) (fun s0 _ _ => gl.strLen s0)
    case atStart => exact ⟨[], s, none, 0, rfl, rfl, by simpa using hs40, Lib.hid rfl, Lib.hid ⟨Own.nil _ _ _ _, Below.refl _ _⟩⟩
    case round =>
      obtain ⟨acc, cur, A, c, rfl, rfl, hcl, HI, HOW⟩ := hrel
      rename World => wr
      have HO := Lib.hid HOW.out.1
      have HW := Lib.hid HOW.out.2
      have hws := HW.out.size
      cases cur with
      | nil =>
        go_wp2
        go_ret2
        have h : gl.parse s = some acc := by rw [HPS.out, ← HI.out, gl.items_nil]
        exact ⟨⟨A, acc.length, c, by rw [h]; rfl, fun l hl => by rw [h] at hl; cases hl; exact ⟨rfl, by omega, HO.out⟩⟩, HW.out⟩
      | cons a t =>
        rw [List.length_cons] at hcl
        have h0 := a.toNat_lt
        by_cases h63 : a = 63
        · subst h63
          have HST : Hid (gl.step 63 t = some (.any, t)) := Lib.hid (by unfold gl.step; rfl)
          go_wp2_with (first
            | (at_builtin; refine wp_app _ rfl _ _ _ rfl gl.elemP w.heap.size A acc.length c _ rfl ((HO.out.next HB5.out).alloc _) _ 1 1 (gl.item .any) rfl (by rw [gl.item_len]) (Cells.newAt _ _ _ rfl) (gl.item_one _) (by omega) (by unfold maxLen; omega) (by have h5 := HB5.out.size; rw [World.size_alloc]; omega) ?_; intro A7 c7 w7 ho7 hg7; have HO7 := Lib.hid ho7; have HG7 := Lib.hid hg7; clear ho7 hg7)
            | ((with_reducible show wpList _ _ _ _ _ _); refine wpList_buildOne rfl 35 47 _ rfl gl.elemP (by decide) (gl.item .any) (gl.item_len _) rfl ?_)
            | (go_at_call 23; refine (glob_any wr).mono ?_; rintro e w5 ⟨rfl, hb5⟩; have HB5 := Lib.hid hb5; clear hb5)
            | fail)
          go_roundw
          case rel => exact ⟨acc ++ [.any], t, A7, c7, rfl, by rw [List.length_append]; rfl, by rw [List.length_append, List.length_singleton]; omega, Lib.hid (by rw [← HI.out]; exact (gl.items_on HST.out).symm), Lib.hid ⟨by rw [List.flatMap_append, List.flatMap_singleton, List.length_append]; exact HO7.out, Grew.step (bnext HW.out (balloc HB5.out _)) HG7.out (fun k hk => (HO.out.lt k hk).1)⟩⟩
          case measure => simp [gl.strLen, strOf_size]
        · obtain ⟨k1, k1'⟩ := u8_no 63 h63 rfl
          by_cases h42 : a = 42
          · subst h42
            have HST : Hid (gl.step 42 t = some (.run, t)) := Lib.hid (by unfold gl.step; rfl)
            have HB5 := Lib.hid (bself wr)
            go_wp2_with (first
              | (at_builtin; refine wp_app _ rfl _ _ _ rfl gl.elemP w.heap.size A acc.length c _ rfl ((HO.out.next HB5.out).alloc _) _ 1 1 (gl.item .run) rfl (by rw [gl.item_len]) (Cells.newAt _ _ _ rfl) (gl.item_one _) (by omega) (by unfold maxLen; omega) (by have h5 := HB5.out.size; rw [World.size_alloc]; omega) ?_; intro A7 c7 w7 ho7 hg7; have HO7 := Lib.hid ho7; have HG7 := Lib.hid hg7; clear ho7 hg7)
              | ((with_reducible show wpList _ _ _ _ _ _); refine wpList_buildOne rfl 35 47 _ rfl gl.elemP (by decide) (gl.item .run) (gl.item_len _) rfl ?_)
              | ((with_reducible show wpList _ _ _ _ _ _); refine wpList_buildAs rfl 47 [(0, .const (.bool true))] rfl (gl.item .run) gl.builtRun ?_)
              | fail)
            go_roundw
            case rel => exact ⟨acc ++ [.run], t, A7, c7, rfl, by rw [List.length_append]; rfl, by rw [List.length_append, List.length_singleton]; omega, Lib.hid (by rw [← HI.out]; exact (gl.items_on HST.out).symm), Lib.hid ⟨by rw [List.flatMap_append, List.flatMap_singleton, List.length_append]; exact HO7.out, Grew.step (bnext HW.out (balloc HB5.out _)) HG7.out (fun k hk => (HO.out.lt k hk).1)⟩⟩
            case measure => simp [gl.strLen, strOf_size]
          · obtain ⟨k2, k2'⟩ := u8_no 42 h42 rfl
            by_cases h91 : a = 91
            · subst h91
              cases hso : gl.setOf t with
              | none =>
                have hsn := gl.setRes_no hso
                have HX : Hid (gl.parse s = none) := Lib.hid (by rw [HPS.out, ← HI.out]; exact gl.items_no (by rw [gl.step_set]; exact hso))
                clear hso
                go_wp2_with fail
                refine (glob_set t wr (by omega)).mono ?_
                rintro e w5 ⟨he, hb5⟩
                rw [hsn] at he
                subst he
                have HB4 := Lib.hid hb5
                clear hb5 hsn
                go_wp2_with (first
                  | ((with_reducible show wpList _ _ _ _ _ _); refine wpList_new rfl 47 rfl (gl.cells false gl.no) gl.zero ?_)
                  | ((with_reducible show wpList _ _ _ _ _ _); refine wpList_store_mid rfl 47 _ _ rfl w5.heap.size 0 (gl.cells false gl.no).toArray rfl rfl (gl.thereA (gl.thereZ _) _ _) (gl.sizeA _ _) (gl.oneA _ _) ?_; generalize hw6 : World.setCells _ _ _ _ = w6; have HW6 := Lib.hid hw6; clear hw6)
                  | fail)
                go_ret2
                exact gl.PartsRes.no HX.out rfl (bnext HW.out (bnext HB4.out (by rw [← HW6.out]; exact below_setCells (Nat.le_refl _) _ _ (balloc (bself w5) _))))
              | some x =>
                obtain ⟨it, r⟩ := x
                have hsn := gl.setRes_ok hso
                have hlen := gl.setOf_len hso
                have HST : Hid (gl.step 91 t = some (it, r)) := Lib.hid (by rw [gl.step_set]; exact hso)
                clear hso
                go_wp2_with fail
                refine (glob_set t wr (by omega)).mono ?_
                rintro e w5 ⟨he, hb5⟩
                rw [hsn] at he
                subst he
                have HB4 := Lib.hid hb5
                clear hb5 hsn
                go_upto_region 17 with (first
                  | ((with_reducible show wpList _ _ _ _ _ _); refine wpList_new rfl 47 rfl (gl.cells false gl.no) gl.zero ?_)
                  | ((with_reducible show wpList _ _ _ _ _ _); refine wpList_store_mid rfl 47 _ _ rfl w5.heap.size 0 (gl.item it).toArray rfl rfl (gl.thereA (gl.thereZ _) _ _) (gl.sizeA _ _) (gl.oneA _ _) ?_; generalize hw6 : World.setCells _ _ _ _ = w6; have HW6 := Lib.hid hw6; clear hw6)
                  | fail)
                have HR6 := Lib.hid (gl.stored (gl.thereZ w5) it.isRun (gl.itemF it))
                have HB5 : Hid (Below wr.heap.size wr w6) := Lib.hid (by rw [← HW6.out]; exact bnext HB4.out (below_setCells (Nat.le_refl _) _ _ (balloc (bself w5) _)))
                have HR7 : Hid (w6.rangeAt w5.heap.size 0 (gl.item it)) := Lib.hid (by rw [← HW6.out]; exact HR6.out)
                go_wp2_with (first
                  | (at_builtin; refine wp_app _ rfl _ _ _ rfl gl.elemP w.heap.size A acc.length c _ rfl ((HO.out.next HB5.out).alloc _) _ 1 1 (gl.item it) rfl (by rw [gl.item_len]) (Cells.newAt _ _ _ rfl) (gl.item_one _) (by omega) (by unfold maxLen; omega) (by have h5 := HB5.out.size; rw [World.size_alloc]; omega) ?_; intro A7 c7 w7 ho7 hg7; have HO7 := Lib.hid ho7; have HG7 := Lib.hid hg7; clear ho7 hg7)
                  | ((with_reducible show wpList _ _ _ _ _ _); refine wpList_buildOne rfl 35 47 _ rfl gl.elemP (by decide) (gl.item it) (gl.item_len _) rfl ?_)
                  | ((with_reducible show wpList _ _ _ _ _ _); refine wpList_load_mid rfl 47 _ rfl w5.heap.size 0 rfl _ _ HR7.out HU.out rfl (gl.sizeL _ _) ?_)
                  | fail)
                go_roundw
                case rel => exact ⟨acc ++ [it], r, A7, c7, rfl, by rw [List.length_append]; rfl, by rw [List.length_append, List.length_singleton]; omega, Lib.hid (by rw [← HI.out]; exact (gl.items_on HST.out).symm), Lib.hid ⟨by rw [List.flatMap_append, List.flatMap_singleton, List.length_append]; exact HO7.out, Grew.step (bnext HW.out (balloc HB5.out _)) HG7.out (fun k hk => (HO.out.lt k hk).1)⟩⟩
                case measure => simp [gl.strLen, strOf_size]; omega
            · obtain ⟨k3, k3'⟩ := u8_no 91 h91 rfl
              by_cases h92 : a = 92
              · subst h92
                cases t with
                | nil =>
                  have HX : Hid (gl.parse s = none) := Lib.hid (by rw [HPS.out, ← HI.out]; exact gl.items_no (by unfold gl.step; rfl))
                  go_wp2
                  go_ret2
                  exact gl.PartsRes.no HX.out rfl HW.out
                | cons b u =>
                  have HST : Hid (gl.step 92 (b :: u) = some ((.eq b), u)) := Lib.hid (by unfold gl.step; rfl)
                  have hsl1 : (1 : Int) ≤ (u.length : Int) + 1 := by omega
                  go_wp2_with fail
                  refine wp_region_tail [] (fun _ => True) (by kernel_rfl) trivial ?_
                  intro _
                  refine wpAnyT_pure (i := 0) (v := ?_) rfl (by kernel_rfl) (by kernel_rfl) (by kernel_rfl) (fun _ _ _ h => h) (.inl ⟨by rfl, ?_⟩) (fun _ => trivial) ?_ (by decide)
                  rotate_left
                  · intro w9; go_simp; try with_reducible rfl
                  simp only [Act.put, List.setIfInBounds_toArray, List.set_cons_zero, List.set_cons_succ]
                  refine wpAnyT_pure (i := 1) (v := ?_) rfl (by kernel_rfl) (by kernel_rfl) (by kernel_rfl) (fun _ _ _ h => h) (.inl ⟨by rfl, ?_⟩) (fun _ => trivial) ?_ (by decide)
                  rotate_left
                  · intro w9; go_simp; try with_reducible rfl
                  simp only [Act.put, List.setIfInBounds_toArray, List.set_cons_zero, List.set_cons_succ]
                  refine wpAnyT_pure (i := 2) (v := ?_) rfl (by kernel_rfl) (by kernel_rfl) (by kernel_rfl) (fun _ _ _ h => h) (.inl ⟨by rfl, ?_⟩) (fun _ => trivial) ?_ (by decide)
                  rotate_left
                  · intro w9; go_simp; try with_reducible rfl
                  simp only [Act.put, List.setIfInBounds_toArray, List.set_cons_zero, List.set_cons_succ]
                  refine wpAnyT_pure (i := 6) (v := ?_) rfl (by kernel_rfl) (by kernel_rfl) (by kernel_rfl) (fun _ _ _ h => h) (.inl ⟨by rfl, ?_⟩) (fun _ => trivial) ?_ (by decide)
                  rotate_left
                  · intro w9; go_simp; try with_reducible rfl
                  simp only [Act.put, List.setIfInBounds_toArray, List.set_cons_zero, List.set_cons_succ]
                  refine wpAnyT_pure (i := 7) (v := ?_) rfl (by kernel_rfl) (by kernel_rfl) (by kernel_rfl) (fun _ _ _ h => h) (.inl ⟨by rfl, ?_⟩) (fun _ => trivial) ?_ (by decide)
                  rotate_left
                  · intro w9; go_simp; try with_reducible rfl
                  simp only [Act.put, List.setIfInBounds_toArray, List.set_cons_zero, List.set_cons_succ]
                  refine wpAnyT_next (i := 3) (by kernel_rfl) rfl ?_
                  intro K hK
                  go_simp
                  go_at_call 25
                  refine (glob_one_item b _).mono ?_
                  rintro e w5 ⟨rfl, hb5⟩
                  have HB5 : Hid (Below wr.heap.size wr w5) := Lib.hid ((bself wr).drew.trans hb5)
                  clear hb5
                  go_simp
                  refine hK.out _ _ (fun _ => trivial) ?_
                  clear hK K
                  try simp only [Act.put, List.setIfInBounds_toArray, List.set_cons_zero, List.set_cons_succ]
                  refine wpAnyT_next (i := 4) (by kernel_rfl) rfl ?_
                  intro K hK
                  rw [if_pos (by rfl)]
                  refine wp_buildOne 35 47 _ rfl gl.elemP (by decide) (gl.item (.eq b)) (gl.item_len _) rfl ?_
                  refine hK.out _ _ (fun _ => trivial) ?_
                  clear hK K
                  simp only [Act.put, List.setIfInBounds_toArray, List.set_cons_zero, List.set_cons_succ]
                  refine wpAnyT_next (i := 5) (by kernel_rfl) rfl ?_
                  intro K hK
                  refine step_app _ (by rfl) _ _ _ (by rfl) gl.elemP w.heap.size A acc.length c _ (by rfl) ((HO.out.next HB5.out).alloc _) _ 1 1 (gl.item (.eq b)) (by rfl) (by rw [gl.item_len]) (Cells.newAt _ _ _ rfl) (gl.item_one _) (by omega) (by unfold maxLen; omega) (by have h5 := HB5.out.size; rw [World.size_alloc]; omega) ?_
                  intro A7 c7 w7 ho7 hg7
                  have HO7 := Lib.hid ho7
                  have HG7 := Lib.hid hg7
                  clear ho7 hg7
                  refine hK.out _ _ (fun _ => trivial) ?_
                  clear hK K
                  simp only [Act.put, List.setIfInBounds_toArray, List.set_cons_zero, List.set_cons_succ]
                  refine wpAnyT_next (i := 8) (by kernel_rfl) rfl ?_
                  intro K hK
                  go_simp
                  refine hK.out _ _ (fun _ => trivial) ?_
                  clear hK K
                  refine wpAnyT_next (i := 9) (by kernel_rfl) rfl ?_
                  intro K hK
                  go_simp
                  refine hK.out _ _ (fun _ => trivial) ?_
                  clear hK K
                  refine wpAnyT_done (by kernel_rfl) ?_ _
                  go_wp2_with fail
                  go_roundw
                  case rel => exact ⟨acc ++ [(.eq b)], u, A7, c7, rfl, by rw [List.length_append]; rfl, by rw [List.length_append, List.length_singleton]; simp at hcl; omega, Lib.hid (by rw [← HI.out]; exact (gl.items_on HST.out).symm), Lib.hid ⟨by rw [List.flatMap_append, List.flatMap_singleton, List.length_append]; exact HO7.out, Grew.step (bnext HW.out (balloc HB5.out _)) HG7.out (fun k hk => (HO.out.lt k hk).1)⟩⟩
                  case measure => simp [gl.strLen, strOf_size]; omega
              · obtain ⟨k4, k4'⟩ := u8_no 92 h92 rfl
                have HST : Hid (gl.step a t = some ((.eq a), t)) := Lib.hid (by unfold gl.step; rw [if_neg h63, if_neg h42, if_neg h91, if_neg h92])
                clear h63 h42 h91 h92
                go_wp2_with (first
                  | (at_builtin; refine wp_app _ rfl _ _ _ rfl gl.elemP w.heap.size A acc.length c _ rfl ((HO.out.next HB5.out).alloc _) _ 1 1 (gl.item (.eq a)) rfl (by rw [gl.item_len]) (Cells.newAt _ _ _ rfl) (gl.item_one _) (by omega) (by unfold maxLen; omega) (by have h5 := HB5.out.size; rw [World.size_alloc]; omega) ?_; intro A7 c7 w7 ho7 hg7; have HO7 := Lib.hid ho7; have HG7 := Lib.hid hg7; clear ho7 hg7)
                  | ((with_reducible show wpList _ _ _ _ _ _); refine wpList_buildOne rfl 35 47 _ rfl gl.elemP (by decide) (gl.item (.eq a)) (gl.item_len _) rfl ?_)
                  | (go_at_call 25; refine (glob_one_item a wr).mono ?_; rintro e w5 ⟨rfl, hb5⟩; have HB5 := Lib.hid hb5; clear hb5)
                  | fail)
                go_roundw
                case rel => exact ⟨acc ++ [(.eq a)], t, A7, c7, rfl, by rw [List.length_append]; rfl, by rw [List.length_append, List.length_singleton]; omega, Lib.hid (by rw [← HI.out]; exact (gl.items_on HST.out).symm), Lib.hid ⟨by rw [List.flatMap_append, List.flatMap_singleton, List.length_append]; exact HO7.out, Grew.step (bnext HW.out (balloc HB5.out _)) HG7.out (fun k hk => (HO.out.lt k hk).1)⟩⟩
                case measure => simp [gl.strLen, strOf_size]
end Go.Proofs.Ytldoihbblgnpjaa
