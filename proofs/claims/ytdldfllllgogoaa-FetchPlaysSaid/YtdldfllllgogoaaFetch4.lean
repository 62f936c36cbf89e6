/- Package fetch: slices.Delete at what is asked for. No condition. -/
import Derived.Test.YtdldfllllgogoaaFetch3
import Derived.Deep.MidRow
namespace Go.Proofs.Ytdldfllllgogoaa
open Go.RowKit

theorem zeroWant (W : World) : (zeroValue 33).run Try.prog W = .ok (.agg #[.int .i64 0, .int .i64 0]) W := Try.zeroValue33 W
theorem zeroWantCells : (Builtin.zeroCells (Value.agg #[.int .i64 0, .int .i64 0]).cells 1).toList = [.int .i64 0, .int .i64 0] := by
  first
  | kernel_rfl
  | (simp [Builtin.zeroCells, Value.cells]; done)
  | decide
set_option maxRecDepth 100000 in
set_option maxHeartbeats 800000 in
theorem fetch_delete_core (i m c B g : Nat) (xs : List Value) (w : World) (hl : Own w B 33 2 (some ⟨g, 0, none⟩) (i + 1 + m) c xs) (h1 : ∀ u ∈ xs, u.oneCell' = true) (hn : i + 1 + m ≤ 1000) :
    Calls Try.prog 38 #[.slice (some ⟨g, 0, none⟩) (i + 1 + m) c, .int .i64 i, .int .i64 ((i : Int) + 1)] w fun e w' => e = .returned (.slice (some ⟨g, 0, none⟩) (i + m) c) ∧ Own w' B 33 2 (some ⟨g, 0, none⟩) (i + m) c (xs.take (i * 2) ++ xs.drop ((i + 1) * 2)) ∧ Stays w w' (fun k => k = g) := by
  obtain ⟨inf, z, hi0, hz, hz1, hby, hzs⟩ := elemWant.info
  have hlen := hl.len
  have hcap := hl.cap
  have HL := Lib.hid hl
  obtain ⟨news, hnews⟩ : ∃ news, news = xs.drop ((i + 1) * 2) := ⟨_, rfl⟩
  have HNEWS := Lib.hid hnews
  have s1 : Hid (news.length = m * 2) := Lib.hid (by rw [hnews, List.length_drop]; omega)
  have s2 : Hid (∀ u ∈ news, u.oneCell' = true) := Lib.hid (fun u hu => h1 u (List.mem_of_mem_drop (hnews ▸ hu)))
  obtain ⟨ad, hA, hsrc⟩ : ∃ ad : Addr, cutA (some ⟨g, 0, none⟩) c (i + 1) 2 = some ad ∧ Hid (∀ j u, news[j]? = some u → w.cell? (ad.add j) = some u) := by
    by_cases hc : c = i + 1
    · refine ⟨⟨g, 0, none⟩, by unfold cutA; rw [if_pos hc], Lib.hid fun j u hu => ?_⟩
      have := (List.getElem?_eq_some_iff.1 hu).1
      have := s1.out
      omega
    · refine ⟨⟨g, (i + 1) * 2, none⟩, by unfold cutA; rw [if_neg hc]; simp [addr_add], Lib.hid fun j u hu => ?_⟩
      rw [hnews, List.getElem?_drop] at hu
      obtain ⟨g', e, _, _, h6⟩ := hl.cell hu
      simp only [Option.some.injEq, Addr.mk.injEq, and_true] at e
      subst e
      rw [addr_add]; exact h6
  have hcl := fun W => run_cut_l (P := Try.prog) elemWant (some ⟨g, 0, none⟩) (i + 1 + m) c (i + 1) (by omega) ((i : Int) + 1) (by omega) W
  have hch := fun W => run_cut_h (P := Try.prog) elemWant (some ⟨g, 0, none⟩) (i + 1 + m) c i (by omega) (i : Int) rfl W
  rw [hA] at hcl
  have s3 : Hid (∀ j, j < news.length → (w.cell? ⟨g, 0 + i * 2 + j, none⟩).isSome = true ∧ w.frozen? ⟨g, 0 + i * 2 + j, none⟩ = false) := Lib.hid (fun j hj => by
    have := s1.out
    rw [Nat.zero_add]
    exact ⟨HL.out.there (by omega), HL.out.frozenAt _⟩)
  have HNE : Hid (i ≠ i + 1) := Lib.hid (by omega)
  have hne : ¬ (i : Int) = (i : Int) + 1 := by omega
  have hsub : i + 1 + m - (i + 1) = m := by omega
  rw [hsub] at hcl
  clear hl h1 hA hnews
  go_enter Try.func38, Try.ntmps38
  go_upto_region 5 with fail
  go_region_law
    (first
      | ((refine step_append_room (by rfl) _ _ _ (by rfl) 33 inf 2 elemWant.und hi0 hz1 g 0 i c (by rfl) ad m _ news (by rfl) s1.out hsrc.out s2.out (by omega) s3.out ?_))
      | fail)
  all_goals
    obtain ⟨W1, hW1⟩ : ∃ W1, W1 = w.drew.setCells g (i * 2) news := ⟨_, rfl⟩
    rw [← hW1]
    have HS := s1.out
    have HO1 := Lib.hid (hW1 ▸ (HL.out.drew.over (o := i * 2) (vs := news) (by omega) (i + m) (by omega) (by omega)))
    have HST : Hid (Stays w W1 (fun k => k = g)) := Lib.hid (hW1 ▸ ((Stays.of_below (Below.drew (bself w)) (fun k => k = g)).trans (Stays.sets w.drew g (i * 2) news) (fun _ _ h => h)))
    have HTH : Hid (∀ j, j < 2 → (W1.cell? ⟨g, (i + m) * 2 + j, none⟩).isSome = true) := Lib.hid (fun j hj => hW1 ▸ World.isSome_setCells g news (i * 2) w.drew ⟨g, (i + m) * 2 + j, none⟩ (HL.out.there (by omega)))
    clear hW1
    have hcut : cutA (some ⟨g, 0, none⟩) c (i + m) 2 = some ⟨g, (i + m) * 2, none⟩ := by unfold cutA; rw [if_neg (by omega)]; simp [addr_add]
    have hcm := fun W => run_cut_lh (P := Try.prog) elemWant (some ⟨g, 0, none⟩) (i + m) c (i + m) 1 (by omega) ((i : Int) + (m : Int)) ((i : Int) + 1 + (m : Int)) (by omega) (by omega) W
    rw [hcut] at hcm
    have hcr : ∀ ty, (Builtin.clear_ #[27] ty #[.slice (some ⟨g, (i + m) * 2, none⟩) 1 (c - (i + m))]).run Try.prog W1 = .ok (.tuple #[]) (W1.setCells g ((i + m) * 2) [.int .i64 0, .int .i64 0]) :=
      fun ty => run_clear_many W1 _ 33 ty _ [.int .i64 0, .int .i64 0] elemWant.und zeroWant 1 zeroWantCells (by simp [Value.oneCell']) g ((i + m) * 2) _ (by decide) HTH.out (fun j _ => HO1.out.frozenAt _)
    clear HS HTH hcut
    go_wp2
    go_ret
    refine ⟨rfl, ?_, HST.out.trans (Stays.sets W1 g _ _) (fun _ _ h => h)⟩
    have hO := HO1.out.past (o := (i + m) * 2) (vs := [.int .i64 0, .int .i64 0]) (Nat.le_refl _) (by simp; omega)
    rw [List.take_of_length_le (by have := s1.out; rw [List.length_append, List.length_take]; omega), HNEWS.out] at hO
    exact hO
theorem oneCell_want (l : List Want) : ∀ u ∈ wantCells l, u.oneCell' = true := by
  intro u hu
  unfold wantCells at hu
  obtain ⟨a, _, h⟩ := List.mem_flatMap.1 hu
  simp only [List.mem_cons, List.not_mem_nil, or_false] at h
  rcases h with rfl | rfl <;> rfl
theorem fetch_delete (l : List Want) (i c B : Nat) (A : Option Addr) (w : World) (hl : Own w B 33 2 A l.length c (wantCells l)) (hi : i < l.length) (hn : l.length ≤ 1000) :
    Calls Try.prog 38 #[.slice A l.length c, .int .i64 i, .int .i64 ((i : Int) + 1)] w fun e w' => e = .returned (.slice A (l.eraseIdx i).length c) ∧ Own w' B 33 2 A (l.eraseIdx i).length c (wantCells (l.eraseIdx i)) ∧ Stays w w' (fun k => blkOf A = some k) := by
  obtain ⟨g, rfl, _⟩ := want_at hl hi
  obtain ⟨m, hm⟩ : ∃ m, l.length = i + 1 + m := ⟨l.length - (i + 1), by omega⟩
  have hE : (l.eraseIdx i).length = i + m := by rw [List.length_eraseIdx, if_pos hi]; omega
  have h := fetch_delete_core i m c B g (wantCells l) w (hm ▸ hl) (oneCell_want l) (by omega)
  rw [← hm] at h
  rw [hE]
  refine h.mono ?_
  rintro e w' ⟨rfl, h2, h3⟩
  rw [wantCells_take, wantCells_drop, ← wantCells_app, ← List.eraseIdx_eq_take_drop_succ] at h2
  exact ⟨rfl, h2, h3.mono fun k _ hk => by rw [hk]; rfl⟩
end Go.Proofs.Ytdldfllllgogoaa
