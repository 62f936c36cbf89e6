/- Package msg: the parts of a reply are read. No condition. -/
import Derived.Test.YtcpbgiikfabaaaaMsgR3
import Derived.Test.YtcpbgiikfabaaaaMsgRQ
import Derived.Test.YtcpbgiikfabaaaaMsgU
namespace Go.Proofs.Ytcpbgiikfabaaaa
open Go.RowKit

/-- w' is w but for the blocks B, B + 1, B + 2 and new ones -/
structure mr.Upd (B : Nat) (w w' : World) : Prop where
  os : w'.os = w.os
  tape : w'.tape = w.tape
  output : w'.output = w.output
  size : w.heap.size ≤ w'.heap.size
  block : ∀ k, k < w.heap.size → (k < B ∨ B + 3 ≤ k) → w'.heap[k]? = w.heap[k]?
theorem mr.Upd.refl (B : Nat) (w : World) : mr.Upd B w w := ⟨rfl, rfl, rfl, Nat.le_refl _, fun _ _ _ => rfl⟩
theorem mr.Upd.trans {B : Nat} {a b c : World} (h : mr.Upd B a b) (k : mr.Upd B b c) : mr.Upd B a c :=
  ⟨k.os.trans h.os, k.tape.trans h.tape, k.output.trans h.output, Nat.le_trans h.size k.size, fun i hi hB => (k.block i (Nat.lt_of_lt_of_le hi h.size) hB).trans (h.block i hi hB)⟩
theorem mr.Upd.of {B : Nat} {a b : World} (h : Below a.heap.size a b) : mr.Upd B a b := ⟨h.os, h.tape, h.output, h.size, fun k hk _ => h.block k hk⟩
theorem mr.Upd.set {B P o : Nat} {a b : World} (h : mr.Upd B a b) (hP : B ≤ P ∧ P < B + 3) (v : Value) : mr.Upd B a (b.setCell ⟨P, o, none⟩ v) :=
  ⟨h.os, h.tape, h.output, by rw [World.size_setCell]; exact h.size, fun k hk hB => (mg.heap_set (by omega)).trans (h.block k hk hB)⟩
theorem mr.Upd.below {B n : Nat} {w a b : World} (h : Below n w a) (k : mr.Upd B a b) (hn : n ≤ B) (hs : n ≤ a.heap.size) : Below n w b :=
  h.trans ⟨k.os, k.tape, k.output, k.size, fun i hi => k.block i (by omega) (.inl (by omega))⟩

/-- a reply in block B, its code in B + 1, its count in B + 2, its data behind them -/
structure mr.Rq (w : World) (B : Nat) (x : mr.St) (Ad : Option Addr) (cd : Nat) : Prop where
  at_ : mr.At w B x.r Ad cd none 0
  c : mr.Box w (B + 1) x.code
  d : mr.Box w (B + 2) x.count
  data : SlRep Rep.u8 w (fun k => B + 3 ≤ k ∧ k < w.heap.size) x.r.data Ad cd
theorem mr.Rq.next {w w' : World} {B : Nat} {x : mr.St} {Ad : Option Addr} {cd : Nat} (h : mr.Rq w B x Ad cd) (hb : Below w.heap.size w w') : mr.Rq w' B x Ad cd :=
  ⟨h.at_.next hb, h.c.next hb, h.d.next hb, h.data.keep fun k hk => ⟨⟨hk.1, Nat.lt_of_lt_of_le hk.2 hb.size⟩, hb.block k hk.2⟩⟩
theorem mr.Box.set {w : World} {C : Nat} {n m : Int} (h : mr.Box w C n) : mr.Box (w.setCell ⟨C, 0, none⟩ (.int .i64 m)) C m :=
  ⟨World.cell?_setCell_same' w _ _ (by rw [h.cell]; rfl), by rw [World.frozen?_setCell]; exact h.free⟩
theorem mr.Box.block {w w' : World} {C : Nat} {n : Int} (h : mr.Box w C n) (hB : w'.heap[C]? = w.heap[C]?) : mr.Box w' C n := ⟨(World.cell?_of_block (a := ⟨C, 0, none⟩) hB).trans h.cell, (World.frozen?_of_block (a := ⟨C, 0, none⟩) hB).trans h.free⟩
theorem mr.At.set {w : World} {B : Nat} {r r' : Reply} {Ad Ad' An An' : Option Addr} {cd cd' cn cn' o : Nat} {v : Value} (h : mr.At w B r Ad cd An cn) (ho : o < 7) (he : mr.vals r' Ad' cd' An' cn' = (mr.vals r Ad cd An cn).set o v) : mr.At (w.setCell ⟨B, o, none⟩ v) B r' Ad' cd' An' cn' := by
  refine ⟨fun j => ?_, fun j => by rw [World.frozen?_setCell]; exact h.free j⟩
  rw [he, List.getElem?_set]
  have hoff : o < (mr.vals r Ad cd An cn).length := by simpa [mr.vals] using ho
  by_cases e : o = j
  · subst e
    rw [if_pos rfl, if_pos hoff]
    exact World.cell?_setCell_same' w _ _ (by rw [h.cell o, List.getElem?_eq_getElem hoff]; rfl)
  · rw [if_neg e, mg.set_other _ (by intro e2; cases e2; exact e rfl)]
    exact h.cell j
/-- a cell of the reply is set -/
theorem mr.Rq.set {w : World} {B o : Nat} {x x' : mr.St} {Ad Ad' : Option Addr} {cd cd' : Nat} {v : Value} (h : mr.Rq w B x Ad cd) (ho : o < 7) (he : mr.vals x'.r Ad' cd' none 0 = (mr.vals x.r Ad cd none 0).set o v) (hc : x'.code = x.code) (hd : x'.count = x.count)
    (hdt : SlRep Rep.u8 w (fun k => B + 3 ≤ k ∧ k < w.heap.size) x'.r.data Ad' cd') : mr.Rq (w.setCell ⟨B, o, none⟩ v) B x' Ad' cd' :=
  ⟨h.at_.set ho he, by rw [hc]; exact h.c.block (mg.heap_set (by omega)), by rw [hd]; exact h.d.block (mg.heap_set (by omega)), hdt.keep fun k hk => ⟨⟨hk.1, by rw [World.size_setCell]; exact hk.2⟩, mg.heap_set (by omega)⟩⟩
theorem mr.Rq.setc {w : World} {B : Nat} {x x' : mr.St} {Ad : Option Addr} {cd : Nat} {n : Int} (h : mr.Rq w B x Ad cd) (hr : x'.r = x.r) (hc : x'.code = n) (hd : x'.count = x.count) : mr.Rq (w.setCell ⟨B + 1, 0, none⟩ (.int .i64 n)) B x' Ad cd :=
  ⟨by rw [hr]; exact h.at_.block (mg.heap_set (by omega)), by rw [hc]; exact h.c.set, by rw [hd]; exact h.d.block (mg.heap_set (by omega)), by rw [hr]; exact h.data.keep fun k hk => ⟨⟨hk.1, by rw [World.size_setCell]; exact hk.2⟩, mg.heap_set (by omega)⟩⟩
theorem mr.Rq.setd {w : World} {B : Nat} {x x' : mr.St} {Ad : Option Addr} {cd : Nat} {n : Int} (h : mr.Rq w B x Ad cd) (hr : x'.r = x.r) (hc : x'.code = x.code) (hd : x'.count = n) : mr.Rq (w.setCell ⟨B + 2, 0, none⟩ (.int .i64 n)) B x' Ad cd :=
  ⟨by rw [hr]; exact h.at_.block (mg.heap_set (by omega)), by rw [hc]; exact h.c.block (mg.heap_set (by omega)), by rw [hd]; exact h.d.set, by rw [hr]; exact h.data.keep fun k hk => ⟨⟨hk.1, by rw [World.size_setCell]; exact hk.2⟩, mg.heap_set (by omega)⟩⟩
/-- what reading leaves -/
def mr.GetRes (B : Nat) (S : Nat → Prop) (y : Option (List UInt8 × mr.St)) (w : World) (e : Ending) (w' : World) : Prop :=
  match y with
  | none => mg.Gone w e w'
  | some (b', x') => ∃ Ab' cb' A' c', e = .returned (.tuple #[.slice Ab' b'.length cb', .bool true]) ∧ SlRep Rep.u8 w' S b' Ab' cb' ∧ mr.Rq w' B x' A' c' ∧ mr.Upd B w w'
theorem mr.had_get {B P o n m : Nat} {S : Nat → Prop} {w : World} {Ab : Option Addr} {ok : Bool} {V : World → Value → Prop} {y : Option (List UInt8 × mr.St)} {e : Ending} {w' : World} (hP : B ≤ P ∧ P < B + 3)
    (h0 : ok = false → y = none) (h1 : ok = true → ∃ b' x', y = some (b', x') ∧ n = b'.length ∧ SlRep Rep.u8 w S b' Ab m ∧ (∀ k, S k → k < B ∧ k < w.heap.size) ∧
      ∀ w2 v, Below w.heap.size w w2 → V w2 v → ∃ A' c', mr.Rq (w2.setCell ⟨P, o, none⟩ v) B x' A' c')
    (h : mg.Had w P o n m Ab ok V e w') : mr.GetRes B S y w e w' := by
  cases ok with
  | false =>
    rw [h0 rfl]
    exact h
  | true =>
    obtain ⟨b', x', rfl, rfl, hs, hS, hv⟩ := h1 rfl
    obtain ⟨rfl, w2, v, hb, hV, rfl⟩ := h
    obtain ⟨A', c', hq⟩ := hv w2 v hb hV
    refine ⟨Ab, m, A', c', rfl, hs.keep fun k hk => ⟨hk, ?_⟩, hq, (mr.Upd.of hb).set hP v⟩
    rw [mg.heap_set (by have := (hS k hk).1; omega)]
    exact hb.block k (hS k hk).2
theorem mr.get_of_num {s : mr.Sel} (hs : s.isNum = true) (b : List UInt8) (x : mr.St) : ((!decide (b.length < s.wide)) = false → mr.getS s b x = none) ∧ ((!decide (b.length < s.wide)) = true → mr.getS s b x = some (b.drop s.wide, mr.setS x s (feed.be (b.take s.wide)) [])) := by
  unfold mr.getS
  rw [if_pos hs]
  by_cases h : b.length < s.wide
  · rw [if_pos h, decide_eq_true h]; exact ⟨fun _ => rfl, fun h => by cases h⟩
  · rw [if_neg h, decide_eq_false h]; exact ⟨(fun h => by cases h), fun _ => rfl⟩
theorem mr.get_of_text (b : List UInt8) : ((!decide (b.length < 2) && !decide (b.length - 2 < feed.be (b.take 2))) = false → mr.getT b = none) ∧
    ((!decide (b.length < 2) && !decide (b.length - 2 < feed.be (b.take 2))) = true → ¬ b.length < 2 ∧ ¬ b.length - 2 < feed.be (b.take 2) ∧ mr.getT b = some ((b.drop 2).drop (feed.be (b.take 2)), (b.drop 2).take (feed.be (b.take 2)))) := by
  unfold mr.getT
  by_cases h : b.length < 2
  · rw [if_pos h, decide_eq_true h]; exact ⟨fun _ => rfl, fun h => by cases h⟩
  · rw [if_neg h, decide_eq_false h]
    by_cases h2 : b.length - 2 < feed.be (b.take 2)
    · rw [if_pos h2, decide_eq_true h2]; exact ⟨fun _ => rfl, fun h => by cases h⟩
    · rw [if_neg h2, decide_eq_false h2]; exact ⟨(fun h => by cases h), fun _ => ⟨h, h2, rfl⟩⟩
theorem mr_get (B : Nat) (x : mr.St) (Ad : Option Addr) (cd : Nat) (s : mr.Sel) (b : List UInt8) (Ab : Option Addr) (cb : Nat) (S : Nat → Prop) (w : World) (hR : mr.Rq w B x Ad cd) (hl : SlRep Rep.u8 w S b Ab cb) (hS : ∀ k, S k → k < B ∧ k < w.heap.size) (hn : b.length ≤ 140737488351232) :
    Calls Try.prog 34 #[.agg (mr.cells B (B + 1) (B + 2) s).toArray, .slice Ab b.length cb] w (mr.GetRes B S (mr.getS s b x) w) := by
  have hlw : SlRep Rep.u8 w (· < w.heap.size) b Ab cb := hl.keep fun k hk => ⟨(hS k hk).2, rfl⟩
  have hn' : b.length ≤ 9223372036854775807 := by omega
  have hD := hR.d.lt
  match s with
  | .mark =>
    have hg := mr.get_of_num (s := .mark) rfl b x
    refine (get_num B 0 4 (by omega) x.r.mark b Ab cb w hlw hn' (hR.at_.cell 0) (hR.at_.free 0)).mono fun e w' h => mr.had_get (by omega) hg.1 (fun h => ⟨_, _, hg.2 h, (List.length_drop).symm, hl.drop (f := 4) (by have h2 := of_decide_eq_false (Bool.not_eq_true' _ ▸ h); simp only [mr.Sel.wide] at h2; omega), hS, fun w2 v hb hv => ⟨Ad, cd, by rw [hv]; exact (hR.next hb).set (by omega) rfl rfl rfl (hR.next hb).data⟩⟩) h
  | .code =>
    have hg := mr.get_of_num (s := .code) rfl b x
    refine (get_num (B + 1) 0 1 (by omega) x.code b Ab cb w hlw hn' (hR.c.cell) (hR.c.free)).mono fun e w' h => mr.had_get (by omega) hg.1 (fun h => ⟨_, _, hg.2 h, (List.length_drop).symm, hl.drop (f := 1) (by have h2 := of_decide_eq_false (Bool.not_eq_true' _ ▸ h); simp only [mr.Sel.wide] at h2; omega), hS, fun w2 v hb hv => ⟨Ad, cd, by rw [hv]; exact (hR.next hb).setc rfl rfl rfl⟩⟩) h
  | .handle =>
    have hg := mr.get_of_num (s := .handle) rfl b x
    refine (get_num B 2 4 (by omega) x.r.handle b Ab cb w hlw hn' (hR.at_.cell 2) (hR.at_.free 2)).mono fun e w' h => mr.had_get (by omega) hg.1 (fun h => ⟨_, _, hg.2 h, (List.length_drop).symm, hl.drop (f := 4) (by have h2 := of_decide_eq_false (Bool.not_eq_true' _ ▸ h); simp only [mr.Sel.wide] at h2; omega), hS, fun w2 v hb hv => ⟨Ad, cd, by rw [hv]; exact (hR.next hb).set (by omega) rfl rfl rfl (hR.next hb).data⟩⟩) h
  | .kind =>
    have hg := mr.get_of_num (s := .kind) rfl b x
    refine (get_num B 3 1 (by omega) x.r.kind b Ab cb w hlw hn' (hR.at_.cell 3) (hR.at_.free 3)).mono fun e w' h => mr.had_get (by omega) hg.1 (fun h => ⟨_, _, hg.2 h, (List.length_drop).symm, hl.drop (f := 1) (by have h2 := of_decide_eq_false (Bool.not_eq_true' _ ▸ h); simp only [mr.Sel.wide] at h2; omega), hS, fun w2 v hb hv => ⟨Ad, cd, by rw [hv]; exact (hR.next hb).set (by omega) rfl rfl rfl (hR.next hb).data⟩⟩) h
  | .size =>
    have hg := mr.get_of_num (s := .size) rfl b x
    refine (get_num B 4 4 (by omega) x.r.size b Ab cb w hlw hn' (hR.at_.cell 4) (hR.at_.free 4)).mono fun e w' h => mr.had_get (by omega) hg.1 (fun h => ⟨_, _, hg.2 h, (List.length_drop).symm, hl.drop (f := 4) (by have h2 := of_decide_eq_false (Bool.not_eq_true' _ ▸ h); simp only [mr.Sel.wide] at h2; omega), hS, fun w2 v hb hv => ⟨Ad, cd, by rw [hv]; exact (hR.next hb).set (by omega) rfl rfl rfl (hR.next hb).data⟩⟩) h
  | .count =>
    have hg := mr.get_of_num (s := .count) rfl b x
    refine (get_num (B + 2) 0 1 (by omega) x.count b Ab cb w hlw hn' (hR.d.cell) (hR.d.free)).mono fun e w' h => mr.had_get (by omega) hg.1 (fun h => ⟨_, _, hg.2 h, (List.length_drop).symm, hl.drop (f := 1) (by have h2 := of_decide_eq_false (Bool.not_eq_true' _ ▸ h); simp only [mr.Sel.wide] at h2; omega), hS, fun w2 v hb hv => ⟨Ad, cd, by rw [hv]; exact (hR.next hb).setd rfl rfl rfl⟩⟩) h
  | .data =>
    have hg := mr.get_of_text b
    refine (get_data B 5 Ad x.r.data.length cd b Ab cb w hlw hn (hR.at_.cell 5) (hR.at_.free 5)).mono fun e w' h => mr.had_get (by omega) (fun h => by unfold mr.getS; rw [if_neg (by decide), hg.1 h]) (fun h => ⟨_, mr.setS x .data 0 ((b.drop 2).take (feed.be (b.take 2))), by unfold mr.getS; rw [if_neg (by decide), (hg.2 h).2.2], by simp only [List.length_drop], (hl.drop (f := 2) (by have := (hg.2 h).1; omega)).drop (by have h1 := (hg.2 h).1; have h2 := (hg.2 h).2.1; rw [List.length_drop]; omega), hS, fun w2 v hb hv => ?_⟩) h
    obtain ⟨A', c', rfl, ho⟩ := hv
    have h1 := (hg.2 h).1
    have h2 := (hg.2 h).2.1
    have hlen : ((b.drop 2).take (feed.be (b.take 2))).length = feed.be (b.take 2) := by rw [List.length_take, List.length_drop]; omega
    refine ⟨A', c', (hR.next hb).set (by omega) ?_ rfl rfl (ho.u8.2.keep fun k hk => ⟨⟨by omega, hk.2⟩, rfl⟩)⟩
    show mr.vals (mr.setS x .data 0 ((b.drop 2).take (feed.be (b.take 2)))).r A' c' none 0 = _
    simp only [mr.vals, mr.setS, hlen]
    rfl
theorem mr.getT_len {b b' s : List UInt8} (h : mr.getT b = some (b', s)) : b'.length ≤ b.length ∧ s.length ≤ 65535 := by
  unfold mr.getT at h
  split at h
  · cases h
  · split at h
    · cases h
    · cases h
      have := feed.be_lt b 2
      exact ⟨by rw [List.length_drop, List.length_drop]; omega, by rw [List.length_take]; omega⟩
theorem mr.getS_len {s : mr.Sel} {b b' : List UInt8} {x x' : mr.St} (h : mr.getS s b x = some (b', x')) : b'.length ≤ b.length := by
  unfold mr.getS at h
  split at h
  · split at h
    · cases h
    · cases h; rw [List.length_drop]; omega
  · cases hg : mr.getT b with
    | none => rw [hg] at h; cases h
    | some y =>
      rw [hg] at h
      cases h
      exact (mr.getT_len hg).1
theorem mr.take_step {l : List mr.Sel} {k : Nat} (hk : k < l.length) (b : List UInt8) (x : mr.St) : mr.takeS (l.drop k) b x = match mr.getS (l.getD k .mark) b x with | none => none | some (b', x') => mr.takeS (l.drop (k + 1)) b' x' := by
  rw [drop_getD l .mark hk]
  rfl
def mr.TakeRes (B : Nat) (S : Nat → Prop) (y : Option (List UInt8 × mr.St)) (w : World) (e : Ending) (w' : World) : Prop :=
  match y with
  | none => e = .returned (.tuple #[.slice none 0 0, .bool false]) ∧ mr.Upd B w w' ∧ ∃ x' A' c', mr.Rq w' B x' A' c'
  | some (b', x') => ∃ Ab' cb' A' c', e = .returned (.tuple #[.slice Ab' b'.length cb', .bool true]) ∧ SlRep Rep.u8 w' S b' Ab' cb' ∧ mr.Rq w' B x' A' c' ∧ mr.Upd B w w'
theorem mr.TakeRes.no {B : Nat} {S : Nat → Prop} {y : Option (List UInt8 × mr.St)} {w w' : World} {x' : mr.St} {A' : Option Addr} {c' : Nat} (h : y = none) (hg : mr.Upd B w w') (hR : mr.Rq w' B x' A' c') : mr.TakeRes B S y w (.returned (.tuple #[.slice none 0 0, .bool false])) w' := by
  subst h; exact ⟨rfl, hg, _, _, _, hR⟩
theorem mr.TakeRes.yes {B : Nat} {S : Nat → Prop} {y : Option (List UInt8 × mr.St)} {w w' : World} {b' : List UInt8} {x' : mr.St} {Ab' A' : Option Addr} {cb' c' : Nat} (h : y = some (b', x')) (h1 : SlRep Rep.u8 w' S b' Ab' cb') (h2 : mr.Rq w' B x' A' c') (hg : mr.Upd B w w') :
    mr.TakeRes B S y w (.returned (.tuple #[.slice Ab' b'.length cb', .bool true])) w' := by
  subst h; exact ⟨_, _, _, _, rfl, h1, h2, hg⟩

set_option maxHeartbeats 4000000 in
theorem mr_take (B : Nat) (x : mr.St) (Ad : Option Addr) (cd : Nat) (Al : Option Addr) (cl lbase : Nat) (b : List UInt8) (Ab : Option Addr) (cb : Nat) (S : Nat → Prop) (w : World) (hR : mr.Rq w B x Ad cd)
    (hrow : Own w lbase 50 4 Al 7 cl (mr.all7.flatMap (mr.cells B (B + 1) (B + 2)))) (hlb : B + 3 ≤ lbase) (hl : SlRep Rep.u8 w S b Ab cb) (hS : ∀ k, S k → k < B ∧ k < w.heap.size) (hn : b.length ≤ 140737488351232) :
    Calls Try.prog 27 #[.slice Ab b.length cb, .slice Al 7 cl] w (mr.TakeRes B S (mr.takeS mr.all7 b x) w) := by
  have HS := Lib.hid hS
  have H0 := Lib.hid (And.intro hR (And.intro hrow hl))
  clear hR hrow hl hS
  go_enter Try.func27, Try.ntmps27
  go_wp2
  go_loopw [0, 12] (fun s0 s12 wr => ∃ (k : Nat) (bk : List UInt8) (xk : mr.St) (Abk : Option Addr) (cbk : Nat) (Ak : Option Addr) (ck : Nat), s0 = .slice Abk bk.length cbk ∧ s12 = .int .i64 k ∧ k ≤ 7 ∧ bk.length ≤ 140737488351232 ∧ Hid (mr.takeS (mr.all7.drop k) bk xk = mr.takeS mr.all7 b x)
    ∧ Hid (SlRep Rep.u8 wr S bk Abk cbk) ∧ Hid (mr.Rq wr B xk Ak ck) ∧ Hid (Own wr lbase 50 4 Al 7 cl (mr.all7.flatMap (mr.cells B (B + 1) (B + 2)))) ∧ Hid (mr.Upd B w wr)) (fun _ s12 _ => 7 - (intOf s12).toNat)
  case atStart => exact ⟨0, b, x, Ab, cb, Ad, cd, rfl, rfl, by omega, hn, Lib.hid rfl, Lib.hid H0.out.2.2, Lib.hid H0.out.1, Lib.hid H0.out.2.1, Lib.hid (mr.Upd.refl B w)⟩
  case round =>
    obtain ⟨k, bk, xk, Abk, cbk, Ak, ck, rfl, rfl, hk, hbk, HT, HB, HR, HO, HG⟩ := hrel
    clear H0
    rename World => wr
    by_cases hlt : k < 7
    · obtain ⟨g, rfl, hg1, hg2, hgc⟩ := mr.row_at_g (l := mr.all7) mr.Sel.mark (fun a => by obtain ⟨_, _, _, _, e⟩ := mr.cells_four B (B + 1) (B + 2) a; rw [e]; rfl) HO.out hlt
      have HST := Lib.hid (mr.take_step (l := mr.all7) hlt bk xk)
      generalize hsl : mr.all7.getD k .mark = s at *
      clear hsl
      have HC : Hid (∀ o, Calls Try.prog 34 #[.agg (mr.cells B (B + 1) (B + 2) s).toArray, .slice Abk bk.length cbk] (wr.alloc o) (mr.GetRes B S (mr.getS s bk xk) (wr.alloc o))) := Lib.hid (fun o =>
        mr_get B xk Ak ck s bk Abk cbk S (wr.alloc o) (HR.out.next (balloc (bself wr) o)) (HB.out.keep fun k hk => ⟨hk, (balloc (bself wr) o).block k (Nat.lt_of_lt_of_le (HS.out k hk).2 HG.out.size)⟩) (fun k hk => ⟨(HS.out k hk).1, by rw [World.size_alloc]; have := (HS.out k hk).2; have := HG.out.size; omega⟩) hbk)
      obtain ⟨a1, a2, a3, a4, hcs⟩ := mr.cells_four B (B + 1) (B + 2) s
      rw [hcs] at HC
      have x0 := hgc 0 (by omega)
      have x1 := hgc 1 (by omega)
      have x2 := hgc 2 (by omega)
      have x3 := hgc 3 (by omega)
      simp only [hcs, List.getElem?_cons_zero, List.getElem?_cons_succ, Nat.add_zero] at x0 x1 x2 x3
      clear hgc hcs
      cases hgr : mr.getS s bk xk with
      | none =>
        rw [hgr] at HC HST
        have HE : Hid (mr.takeS mr.all7 b x = none) := Lib.hid (by rw [← HT.out, HST.out])
        clear hgr
        go_wp2_with (first | (go_at_call 34; refine (HC.out _).mono ?_; rintro e w6 ⟨rfl, hb6⟩; have HB6 := Lib.hid hb6; clear hb6) | fail)
        go_ret2
        have hb : Below wr.heap.size wr w6 := (balloc (bself wr) _).trans (HB6.out.mono (by simp))
        exact mr.TakeRes.no HE.out (HG.out.trans (mr.Upd.of hb)) (HR.out.next hb)
      | some y =>
        obtain ⟨b', x'⟩ := y
        rw [hgr] at HC HST
        have hbl := mr.getS_len hgr
        have HT2 : Hid (mr.takeS (mr.all7.drop (k + 1)) b' x' = mr.takeS mr.all7 b x) := Lib.hid (by rw [← HT.out, HST.out])
        clear hgr
        go_wp2_with (first | (go_at_call 34; refine (HC.out _).mono ?_; rintro e w6 ⟨Ab6, cb6, A6, c6, rfl, hs6, hr6, hg6⟩; have HS6 := Lib.hid hs6; have HR6 := Lib.hid hr6; have HG6 := Lib.hid hg6; clear hs6 hr6 hg6) | fail)
        go_roundw
        case rel =>
          refine ⟨k + 1, b', x', Ab6, cb6, A6, c6, rfl, by simp, by omega, by omega, HT2, HS6, HR6, Lib.hid ?_, Lib.hid ((HG.out.trans (mr.Upd.of (balloc (bself wr) _))).trans HG6.out)⟩
          have h1 := HO.out.alloc (.cells #[.int .i64 a1, .pointer a2, .pointer a3, .pointer a4] 50)
          obtain ⟨hl1, hr1⟩ := h1
          refine ⟨hl1, ?_⟩
          rcases hr1 with h2 | ⟨g', cap, cur, e1, e2, e3, e4⟩
          · exact .inl h2
          · exact .inr ⟨g', cap, cur, e1, e2, (HG6.out.block g' (Array.getElem?_eq_some_iff.1 e3).1 (.inr (by omega))).trans e3, e4⟩
        case measure => simp [intOf]; omega
    · obtain rfl : k = 7 := by omega
      have HE : Hid (mr.takeS mr.all7 b x = some (bk, xk)) := Lib.hid HT.out.symm
      go_wp2
      go_ret2
      exact mr.TakeRes.yes HE.out HB.out HR.out HG.out
end Go.Proofs.Ytcpbgiikfabaaaa
