/- slices: swapRange, rotate and insertion sort at rows of ints of the call's own. No condition. -/
import Derived.Test.YtkbmpppendelcaaPrA
import Derived.Test.YtkbmpppendelcaaPrB
import Derived.RegionTactic
import Derived.BigRegion
import Derived.Deep.LoopGhost
namespace Go.Proofs.Ytkbmpppendelcaa
open Go.RowKit
set_option linter.unusedSimpArgs false

def intv (x : Int) : Value := .int .i64 x
/-- a row of ints of the call's own -/
def OI (w : World) (B g n c : Nat) (xs : List Int) : Prop := Own w B 3 1 (some ⟨g, 0, none⟩) n c (xs.map intv)
theorem OI.len {w : World} {B g n c : Nat} {xs : List Int} (h : OI w B g n c xs) : xs.length = n := by have := Own.len h; simpa using this
theorem OI.at {w : World} {B g n c : Nat} {xs : List Int} (h : OI w B g n c xs) {i : Nat} {x : Int} (hi : xs[i]? = some x) : w.cell? ⟨g, i, none⟩ = some (.int .i64 x) := by
  obtain ⟨g', e, _, _, hc⟩ := Own.cell h (j := i) (u := intv x) (by rw [List.getElem?_map, hi]; rfl)
  simp only [Option.some.injEq, Addr.mk.injEq, and_true] at e
  subst e
  exact hc
theorem OI.set {w : World} {B g n c : Nat} {xs : List Int} (h : OI w B g n c xs) (i : Nat) (x : Int) : OI (w.setCell ⟨g, i, none⟩ (.int .i64 x)) B g n c (xs.set i x) := by
  have := Own.setAt h (j := i) (.int .i64 x)
  unfold OI
  rw [List.map_set]
  exact this
theorem OI.frozen {w : World} {B g n c : Nat} {xs : List Int} (h : OI w B g n c xs) (i : Nat) : w.frozen? ⟨g, i, none⟩ = false := Own.frozenAt h i
theorem OI.stays {w w' : World} {B g n c : Nat} {xs : List Int} {No : Nat → Prop} (h : OI w B g n c xs) (hs : Stays w w' No) (hn : ¬ No g) : OI w' B g n c xs := Own.stays h hs (fun k hk => by cases hk; exact hn)
theorem OI.lt {w : World} {B g n c : Nat} {xs : List Int} (h : OI w B g n c xs) : B ≤ g ∧ g < w.heap.size := Own.lt h g rfl
theorem OI.drew {w : World} {B g n c : Nat} {xs : List Int} (h : OI w B g n c xs) : OI w.drew B g n c xs := h
theorem OI.drewN {w : World} {B g n c : Nat} {xs : List Int} (h : OI w B g n c xs) (k : Nat) : OI (w.drewN k) B g n c xs := h
/-- two elements exchanged -/
theorem so.swap_mid (X Y Z : List Int) (u v : Int) : ((X ++ u :: (Y ++ v :: Z)).set X.length v).set (X.length + 1 + Y.length) u = X ++ v :: (Y ++ u :: Z) := by
  rw [List.set_append_right _ _ (Nat.le_refl _), Nat.sub_self, List.set_cons_zero, List.set_append_right _ _ (by omega), show X.length + 1 + Y.length - X.length = Y.length + 1 by omega, List.set_cons_succ, List.set_append_right _ _ (Nat.le_refl _), Nat.sub_self, List.set_cons_zero]
theorem so.swap_mid' (X Y Z : List Int) (u v : Int) : ((X ++ u :: (Y ++ v :: Z)).set (X.length + 1 + Y.length) u).set X.length v = X ++ v :: (Y ++ u :: Z) := by
  rw [List.set_comm _ _ (by omega), so.swap_mid]

/-- behind a call that sorts: the row holds these numbers -/
def SoPost (w : World) (B g n c : Nat) (xs : List Int) (e : Ending) (w' : World) : Prop := e = .returned (.tuple #[]) ∧ OI w' B g n c xs ∧ Stays w w' (fun j => j = g)
/-- where swapRange stands behind k rounds -/
def so.swapped (P U Q V S : List Int) (k : Nat) : List Int := P ++ V.take k ++ U.drop k ++ Q ++ U.take k ++ V.drop k ++ S
theorem so.swapped_now {P U Q V S : List Int} {j : Nat} {u v : Int} (hu : U[j]? = some u) (hv : V[j]? = some v) : so.swapped P U Q V S j = (P ++ V.take j) ++ u :: ((U.drop (j + 1) ++ Q ++ U.take j) ++ v :: (V.drop (j + 1) ++ S)) := by
  obtain ⟨h1, e1⟩ := List.getElem?_eq_some_iff.1 hu
  obtain ⟨h2, e2⟩ := List.getElem?_eq_some_iff.1 hv
  unfold so.swapped
  rw [List.drop_eq_getElem_cons h1, List.drop_eq_getElem_cons h2, e1, e2]
  simp
theorem so.swapped_then {P U Q V S : List Int} {j : Nat} {u v : Int} (hu : U[j]? = some u) (hv : V[j]? = some v) : so.swapped P U Q V S (j + 1) = (P ++ V.take j) ++ v :: ((U.drop (j + 1) ++ Q ++ U.take j) ++ u :: (V.drop (j + 1) ++ S)) := by
  obtain ⟨h1, e1⟩ := List.getElem?_eq_some_iff.1 hu
  obtain ⟨h2, e2⟩ := List.getElem?_eq_some_iff.1 hv
  unfold so.swapped
  rw [List.take_succ_eq_append_getElem h1, List.take_succ_eq_append_getElem h2, e1, e2]
  simp
theorem so.mid_at1 (X Y : List Int) (u : Int) : (X ++ u :: Y)[X.length]? = some u := by rw [List.getElem?_append_right (Nat.le_refl _), Nat.sub_self]; rfl
theorem so.mid_at2 (X Y Z : List Int) (u v : Int) : (X ++ u :: (Y ++ v :: Z))[X.length + 1 + Y.length]? = some v := by
  rw [List.getElem?_append_right (by omega), show X.length + 1 + Y.length - X.length = Y.length + 1 by omega, List.getElem?_cons_succ, so.mid_at1]
theorem so.swapped_lens {P U Q V S : List Int} {j : Nat} {u v : Int} (hu : U[j]? = some u) (hv : V[j]? = some v) : (P ++ V.take j).length = P.length + j ∧ (P ++ V.take j).length + 1 + (U.drop (j + 1) ++ Q ++ U.take j).length = P.length + U.length + Q.length + j := by
  obtain ⟨h1, e1⟩ := List.getElem?_eq_some_iff.1 hu
  obtain ⟨h2, e2⟩ := List.getElem?_eq_some_iff.1 hv
  simp only [List.length_append, List.length_take, List.length_drop]
  omega

set_option maxRecDepth 100000 in
set_option maxHeartbeats 1000000 in
theorem so_swapRange (P U Q V S : List Int) {xs ys : List Int} (hxs : xs = P ++ U ++ Q ++ V ++ S) (hys : ys = P ++ V ++ Q ++ U ++ S) (hUV : U.length = V.length) (a b k : Int) (ha : a = P.length) (hb : b = (P.length + U.length + Q.length : Nat)) (hk : k = U.length) (cv : Value) (B g n c : Nat) (w : World) (h : OI w B g n c xs) (hn : n ≤ 1000) :
    Calls Try.prog 62 #[.slice (some ⟨g, 0, none⟩) n c, .int .i64 a, .int .i64 b, .int .i64 k, cv] w (SoPost w B g n c ys) := by
  have hlen := h.len
  rw [hxs] at h hlen
  simp only [List.length_append] at hlen
  have HY := Lib.hid hys
  clear hxs hys
  have HO : Hid (OI w B g n c (so.swapped P U Q V S 0)) := Lib.hid (by unfold so.swapped; simpa using h)
  have HA := Lib.hid ha
  have HB := Lib.hid hb
  have HK := Lib.hid hk
  have HUV := Lib.hid hUV
  clear h ha hb hk hUV
  go_enter Try.func62, Try.ntmps62
  go_wp2
  go_loopw [10] (fun i wr => ∃ j : Nat, j ≤ U.length ∧ i = .int .i64 j ∧ Hid (OI wr B g n c (so.swapped P U Q V S j)) ∧ Hid (Stays w wr (fun q => q = g))) (fun i _ => U.length - (intOf i).toNat)
  case atStart => exact ⟨0, by omega, rfl, HO, Lib.hid (Stays.refl _ _)⟩
  case round =>
    obtain ⟨j, hj, rfl, HJ, HS⟩ := hrel
    rename World => wr
    by_cases hlt : j < U.length
    · have ea := HA.out
      have eb := HB.out
      have ek := HK.out
      have euv := HUV.out
      have hjk : (j : Int) < k := by omega
      obtain ⟨u, hu⟩ : ∃ u, U[j]? = some u := ⟨_, List.getElem?_eq_getElem hlt⟩
      obtain ⟨v, hv⟩ : ∃ v, V[j]? = some v := ⟨_, List.getElem?_eq_getElem (by omega)⟩
      obtain ⟨p, hp⟩ : ∃ p : Nat, Hid (p = P.length + j) := ⟨_, Lib.hid rfl⟩
      obtain ⟨q, hq⟩ : ∃ q : Nat, Hid (q = P.length + U.length + Q.length + j) := ⟨_, Lib.hid rfl⟩
      obtain ⟨l1, l2⟩ := so.swapped_lens (P := P) (Q := Q) (S := S) hu hv
      have c1 : wr.cell? ⟨g, p, none⟩ = some (.int .i64 u) := HJ.out.at (by rw [hp.out, so.swapped_now hu hv, ← l1, so.mid_at1])
      have c2 : wr.cell? ⟨g, q, none⟩ = some (.int .i64 v) := HJ.out.at (by rw [hq.out, so.swapped_now hu hv, ← l2, so.mid_at2])
      have HNX : Hid (OI ((wr.setCell ⟨g, p, none⟩ (.int .i64 v)).setCell ⟨g, q, none⟩ (.int .i64 u)) B g n c (so.swapped P U Q V S (j + 1))) := Lib.hid (by
        have h := (HJ.out.set p v).set q u
        rw [hp.out, hq.out, so.swapped_now hu hv, ← l1, ← l2, so.swap_mid, ← so.swapped_then hu hv] at h
        rw [hp.out, hq.out, ← l1, ← l2]
        exact h)
      have e1 : a + (j : Int) = (p : Int) := by have := hp.out; omega
      have e2 : b + (j : Int) = (q : Int) := by have := hq.out; omega
      have f1 := HJ.out.frozen p
      have f2 := HJ.out.frozen q
      have hpq : p ≠ q := by have := hp.out; have := hq.out; omega
      have hpn : (p : Int) < (n : Int) := by have := hp.out; omega
      have hqn : (q : Int) < (n : Int) := by have := hq.out; omega
      clear ea eb ek euv l1 l2 hu hv HJ HO
      go_wp2
      go_region
      go_wp2
      go_roundw
      case rel => exact ⟨j + 1, by omega, by go_num, Lib.hid HNX.out.drew, Lib.hid (HS.out.comp (((Stays.set _ _ _ _).comp (Stays.set _ _ _ _)).comp (Stays.of_below (Below.drew (bself _)) _)))⟩
      case measure => simp [intOf]; omega
    · obtain rfl : j = U.length := by omega
      have hjk : ¬ ((U.length : Int) < k) := by have := HK.out; omega
      have HE : Hid (OI wr B g n c ys) := Lib.hid (by
        rw [HY.out]
        have h := HJ.out
        unfold so.swapped at h
        rwa [List.take_length, List.drop_length, HUV.out, List.take_length, List.drop_length, List.append_nil, List.append_nil] at h)
      clear HO HJ
      go_wp2
      go_end0
      exact ⟨rfl, HE.out, HS.out⟩

/-! ### rotate -/
set_option maxRecDepth 100000 in
set_option maxHeartbeats 1000000 in
theorem so_rotate (P L R S : List Int) {xs ys : List Int} (hxs : xs = P ++ L ++ R ++ S) (hys : ys = P ++ R ++ L ++ S) (hL : 0 < L.length) (hR : 0 < R.length) (a m b : Int) (ha : a = P.length) (hm : m = (P.length + L.length : Nat)) (hb : b = (P.length + L.length + R.length : Nat)) (cv : Value) (B g n c : Nat) (w : World) (h : OI w B g n c xs) (hn : n ≤ 1000) :
    Calls Try.prog 60 #[.slice (some ⟨g, 0, none⟩) n c, .int .i64 a, .int .i64 m, .int .i64 b, cv] w (SoPost w B g n c ys) := by
  have hlen := h.len
  rw [hxs] at h hlen
  simp only [List.length_append] at hlen
  have HY := Lib.hid hys
  have HA := Lib.hid ha
  have HM := Lib.hid hm
  have HB := Lib.hid hb
  have e1 : m - a = (L.length : Int) := by omega
  have e2 : b - m = (R.length : Int) := by omega
  have hm0 : 0 ≤ m ∧ m ≤ 1000 := by omega
  have HX : Hid (OI w B g n c (P ++ L ++ R ++ S)) := Lib.hid h
  clear hxs hys ha hm hb h
  go_enter Try.func60, Try.ntmps60
  go_wp2
  go_loopg [10, 11] (L.length + R.length) (fun gn i j wr => ∃ (X U V Y : List Int), i = .int .i64 (U.length : Int) ∧ j = .int .i64 (V.length : Int) ∧ Hid (OI wr B g n c (X ++ U ++ V ++ Y) ∧ ys = X ++ V ++ U ++ Y ∧ 0 < U.length ∧ 0 < V.length ∧ X.length + U.length = P.length + L.length ∧ gn = U.length + V.length ∧ U.length + V.length ≤ L.length + R.length ∧ Stays w wr (fun q => q = g)))
  case atStart => exact ⟨P, L, R, S, rfl, rfl, Lib.hid ⟨HX.out, HY.out, hL, hR, rfl, rfl, Nat.le_refl _, Stays.refl _ _⟩⟩
  case round =>
    obtain ⟨X, U, V, Y, rfl, rfl, HJ⟩ := hrel
    rename World => wr
    obtain ⟨hO, hy, hU, hV, hXU, hgn, hle, hst⟩ := HJ.out
    have HO := Lib.hid hO
    have HYS := Lib.hid hy
    have HST := Lib.hid hst
    have HGN := Lib.hid hgn
    have HXU := Lib.hid hXU
    clear hO hy hst hgn hXU HX HJ e1 e2
    have em := HM.out
    have exu := HXU.out
    have em2 : m - (U.length : Int) = (X.length : Int) := by omega
    have hmx : m = ((X.length + U.length : Nat) : Int) := by omega
    have HMX := Lib.hid hmx
    clear em exu hmx
    rcases Nat.lt_trichotomy U.length V.length with hlt | heq | hgt
    · have hne : ¬ ((U.length : Int) = (V.length : Int)) := by omega
      have hne' : ((U.length : Int) != (V.length : Int)) = true := by simp; omega
      have hng : ¬ ((V.length : Int) < (U.length : Int)) := by omega
      have HC := Lib.hid (fun (b' : Int) (hb' : b' = (X.length + U.length + (V.take (V.length - U.length)).length : Nat)) => so_swapRange X U (V.take (V.length - U.length)) (V.drop (V.length - U.length)) Y (xs := X ++ U ++ V ++ Y) (ys := X ++ V.drop (V.length - U.length) ++ V.take (V.length - U.length) ++ U ++ Y) (by simp only [List.append_assoc]; rw [← List.append_assoc (V.take _), List.take_append_drop]) rfl (by rw [List.length_drop]; omega) (X.length : Int) b' (U.length : Int) rfl hb' rfl cv B g n c wr HO.out hn)
      go_wp2_with (go_at_call 62; refine (HC.out _ (by have := HMX.out; rw [List.length_take]; omega)).mono ?_; rintro e w2 ⟨rfl, ho2, hs2⟩; have HO2 := Lib.hid ho2; have HS2 := Lib.hid hs2; clear ho2 hs2)
      go_roundg (V.length)
      case measure => have := HGN.out; omega
      case rel => exact ⟨X, V.drop (V.length - U.length), V.take (V.length - U.length), U ++ Y, by rw [List.length_drop, show V.length - (V.length - U.length) = U.length by omega], by rw [List.length_take]; congr 1; omega, Lib.hid ⟨by have h := HO2.out; simpa only [List.append_assoc] using h, by rw [HYS.out]; simp only [List.append_assoc]; rw [← List.append_assoc (V.take _), List.take_append_drop], by rw [List.length_drop]; omega, by rw [List.length_take]; omega, by rw [List.length_drop]; have := HXU.out; omega, by rw [List.length_drop, List.length_take]; omega, by rw [List.length_drop, List.length_take]; omega, HST.out.comp HS2.out⟩⟩
    · have heq' : (U.length : Int) = (V.length : Int) := by omega
      have hne' : ((U.length : Int) != (V.length : Int)) = false := by simp; omega
      have HC := Lib.hid (fun (k : Int) (hk : k = (U.length : Int)) => so_swapRange X U [] V Y (xs := X ++ U ++ V ++ Y) (ys := ys) (by simp) (by rw [HYS.out]; simp) heq (X.length : Int) m k rfl (by rw [HMX.out]; simp) hk cv B g n c wr HO.out hn)
      have HEQ := Lib.hid heq'
      have HEN := Lib.hid heq
      clear heq heq'
      go_wp2_with (go_at_call 62; refine (HC.out _ (by rfl)).mono ?_; rintro e w2 ⟨rfl, ho2, hs2⟩; have HO2 := Lib.hid ho2; have HS2 := Lib.hid hs2; clear ho2 hs2)
      go_end0
      exact ⟨rfl, HO2.out, HST.out.comp HS2.out⟩
    · have hne : ¬ ((U.length : Int) = (V.length : Int)) := by omega
      have hne' : ((U.length : Int) != (V.length : Int)) = true := by simp; omega
      have hng : (V.length : Int) < (U.length : Int) := by omega
      have HC := Lib.hid (so_swapRange X (U.take V.length) (U.drop V.length) V Y (xs := X ++ U ++ V ++ Y) (ys := X ++ V ++ U.drop V.length ++ U.take V.length ++ Y) (by simp only [List.append_assoc]; rw [← List.append_assoc (U.take _), List.take_append_drop]) rfl (by rw [List.length_take]; omega) (X.length : Int) m (V.length : Int) rfl (by rw [HMX.out, List.length_take, List.length_drop]; congr 1; omega) (by rw [List.length_take]; congr 1; omega) cv B g n c wr HO.out hn)
      go_wp2_with (go_at_call 62; refine (HC.out).mono ?_; rintro e w2 ⟨rfl, ho2, hs2⟩; have HO2 := Lib.hid ho2; have HS2 := Lib.hid hs2; clear ho2 hs2)
      go_roundg (U.length)
      case measure => have := HGN.out; omega
      case rel => exact ⟨X ++ V, U.drop V.length, U.take V.length, Y, by rw [List.length_drop]; congr 1; omega, by rw [List.length_take]; congr 1; omega, Lib.hid ⟨HO2.out, by rw [HYS.out]; simp only [List.append_assoc]; rw [← List.append_assoc (U.take _), List.take_append_drop], by rw [List.length_drop]; omega, by rw [List.length_take]; omega, by rw [List.length_append, List.length_drop]; have := HXU.out; omega, by rw [List.length_drop, List.length_take]; omega, by rw [List.length_drop, List.length_take]; omega, HST.out.comp HS2.out⟩⟩
end Go.Proofs.Ytkbmpppendelcaa
