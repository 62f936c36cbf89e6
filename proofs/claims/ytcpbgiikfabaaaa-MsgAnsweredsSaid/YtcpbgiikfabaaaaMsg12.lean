/- Package ref: MsgAsk. No condition. -/
import Derived.Test.YtcpbgiikfabaaaaMsg11
namespace Go.Proofs.Ytcpbgiikfabaaaa
open Go.RowKit

theorem Own.iterAt {w : World} {base : Nat} {e : TypeId} {size n c : Nat} {A : Option Addr} {xs : List Value} (h : Own w base e size A n c xs) {I : Nat} (hne : blkOf A ≠ Option.some I) (s : ByteArray) (pos : Nat) : Own (w.iterAt I s pos) base e size A n c xs := by
  refine h.kept (row := Option.some I) ⟨rfl, rfl, rfl, by rw [Lib.iterAt_size]; exact Nat.le_refl _, fun j _ hne => Lib.iterAt_other _ _ _ _ _ (fun e => hne (by rw [e]))⟩ (.inr hne)
theorem mg.fit_fields {r : Request} (hf : mg.refFault r = 0) : ∀ s, s ∈ mg.fields r → mg.fit r s = 0 := by
  have h := mg.ask_eq r
  rw [if_pos hf] at h
  unfold mg.ask at h
  split at h
  · cases h
  · split at h
    · cases h
    · split at h
      · cases h
      · rename_i h3
        exact mg.allTo_zero (Decidable.not_not.1 h3)
theorem mg.kind_of {r : Request} (hf : mg.refFault r = 0) : ¬ (r.kind < 1 ∨ 10 < r.kind) := by
  intro h
  unfold mg.refFault at hf
  rw [if_pos h] at hf
  cases hf
theorem mg.fit_numb {r : Request} {s : mg.Sel} (hs : s.srt = .num) (h : mg.fit r s = 0) : 0 ≤ mg.num r s ∧ mg.num r s ≤ 9223372036854775807 := by
  simp only [mg.fit, hs] at h
  by_cases h2 : mg.num r s < 0 ∨ 256 ^ s.wide ≤ mg.num r s
  · rw [if_pos h2] at h; cases h
  · have h3 : (256 : Int) ^ s.wide ≤ 256 ^ 4 := by cases s <;> decide
    omega

theorem mg.At.below {w w' : World} {B B' : Nat} {r : Request} {A : Option Addr} {c : Nat} (h : mg.At w B r A c) (hb : Below B' w w') (hB : B < B') : mg.At w' B r A c :=
  ⟨fun j => (hb.cell (p := ⟨B, j, none⟩) hB).trans (h.cell j), fun j => (hb.frozen (p := ⟨B, j, none⟩) hB).trans (h.free j)⟩
/-- within the loop: k letters are done, the iterator in block I stands at p -/
structure mg.AskRel (w : World) (r : Request) (A : Option Addr) (c I p k : Nat) (xs : List UInt8) (Ao : Option Addr) (co : Nat) (wr : World) : Prop where
  kn : k ≤ (mg.parts r.kind).length
  eq : xs = ([mg.Sel.kind, .mark] ++ (mg.parts r.kind).take k).flatMap (mg.put r)
  it : wr.heap[I]? = Option.some (.stringIter (strOf ((mg.parts r.kind).map mg.letter)) p)
  own : Own wr (w.heap.size + 1) 5 1 Ao xs.length co (xs.map u8v)
  ne : blkOf Ao ≠ Option.some I
  at_ : mg.At wr w.heap.size r A c
  hb : Below w.heap.size w wr
  hI : w.heap.size < I
theorem mg.AskRel.lt {w : World} {r : Request} {A : Option Addr} {c I p k : Nat} {xs : List UInt8} {Ao : Option Addr} {co : Nat} {wr : World} (h : mg.AskRel w r A c I p k xs Ao co wr) : I < wr.heap.size := (Array.getElem?_eq_some_iff.1 h.it).1
theorem mg.AskRel.next {w : World} {r : Request} {A : Option Addr} {c I p k : Nat} {xs : List UInt8} {Ao : Option Addr} {co : Nat} {wr : World} (h : mg.AskRel w r A c I p k xs Ao co wr) (q : Nat) : mg.AskRel w r A c I q k xs Ao co (wr.iterAt I (strOf ((mg.parts r.kind).map mg.letter)) q) :=
  ⟨h.kn, h.eq, Lib.iterAt_heap _ _ _ _ _ h.it, h.own.iterAt h.ne _ _, h.ne, h.at_.below (Lib.below_iterAt (Below.refl I wr) (Nat.le_refl _) _ _) h.hI, Lib.below_iterAt h.hb (Nat.le_of_lt h.hI) _ _, h.hI⟩
theorem mg.AskRel.step {w : World} {r : Request} {A : Option Addr} {c I p k : Nat} {xs : List UInt8} {Ao : Option Addr} {co : Nat} {wi w6 w7 : World} {A7 : Option Addr} {m c7 : Nat} {s : mg.Sel} (h : mg.AskRel w r A c I p k xs Ao co wi) (hlt : k < (mg.parts r.kind).length) (hs : (mg.parts r.kind).getD k .kind = s)
    (hb6 : Below wi.heap.size wi w6) (hg7 : Grew w6 w7 Ao A7) (ho7 : Own w7 (w.heap.size + 1) 5 1 A7 m c7 (xs.map u8v ++ (mg.put r s).map u8v)) : m = (xs ++ mg.put r s).length ∧ mg.AskRel w r A c I p (k + 1) (xs ++ mg.put r s) A7 c7 w7 := by
  have hm : m = (xs ++ mg.put r s).length := by have := ho7.len; simp at this ⊢; omega
  have hI : I < wi.heap.size := (Array.getElem?_eq_some_iff.1 h.it).1
  have hB : Below (w.heap.size + 1) wi w7 := (hb6.mono (by have := h.hI; omega)).trans (hg7.below (by have := hb6.size; have := h.hI; omega) (fun k hk => (h.own.lt k hk).1))
  refine ⟨hm, ⟨hlt, ?_, ?_, ?_, ?_, h.at_.below hB (by omega), h.hb.trans (hB.mono (by omega)), h.hI⟩⟩
  · have e : (mg.parts r.kind).take (k + 1) = (mg.parts r.kind).take k ++ [s] := by
      rw [List.take_add_one, ← hs, List.getD_eq_getElem?_getD, List.getElem?_eq_getElem hlt]; rfl
    rw [e, ← List.append_assoc, List.flatMap_append, ← h.eq]
    simp
  · rw [hg7.grown.block I (Nat.lt_of_lt_of_le hI hb6.size) (fun e => h.ne e.symm), hb6.block I hI]
    exact h.it
  · subst hm
    rw [List.map_append]
    exact ho7
  · intro e
    rcases hg7.blk with hb | ⟨g, hg, hb⟩
    · exact h.ne (hb ▸ e)
    · rw [e] at hb
      injection hb with hb
      have := hb6.size
      omega
theorem mg.iterPos_of {w : World} {k : Nat} {s : ByteArray} {p : Nat} (h : w.heap[k]? = Option.some (.stringIter s p)) : w.iterPos k = p := by simp [World.iterPos, h]
theorem mg.run_next {w : World} {I k : Nat} {P : List mg.Sel} (h : w.heap[I]? = Option.some (.stringIter (strOf (P.map mg.letter)) k)) (hk : k < P.length) (ty : TypeId) :
    (Instr.next (.pointer (Option.some ⟨I, 0, none⟩)) true ty).run Try.prog w = .ok (.tuple #[.bool true, .int .i64 k, .int .i32 ((mg.letter (P.getD k .kind)).toNat : Int)]) (w.iterAt I (strOf (P.map mg.letter)) (k + 1)) := by
  have hs : k < (strOf (P.map mg.letter)).size := by rw [strOf_size, List.length_map]; exact hk
  have e : (strOf (P.map mg.letter))[k]'hs = mg.letter (P.getD k .kind) := by
    rw [strOf_get]
    simp [List.getD_eq_getElem?_getD, List.getElem?_eq_getElem hk]
  have h128 : ∀ s : mg.Sel, (mg.letter s).toNat < 128 := fun s => by cases s <;> decide
  have h2 := Lib.run_next_ascii_at (P := Try.prog) w I _ k ty h hs (by rw [e]; exact h128 _)
  rw [e] at h2
  exact h2
theorem mg.run_next_end {w : World} {I k : Nat} {P : List mg.Sel} (h : w.heap[I]? = Option.some (.stringIter (strOf (P.map mg.letter)) k)) (hk : ¬ k < P.length) (ty : TypeId) :
    (Instr.next (.pointer (Option.some ⟨I, 0, none⟩)) true ty).run Try.prog w = .ok (.tuple #[.bool false]) w :=
  Lib.run_next_end_at w I _ k ty h (by rw [strOf_size, List.length_map]; exact hk)

def mg.InI (n : Int) : Prop := 0 ≤ n ∧ n ≤ 9223372036854775807
theorem ref_bytes1 (n : Int) (w : World) (hn : mg.InI n) :
    Calls Try.prog 24 #[.int .i64 n, .int .i64 1] w fun e w' => ∃ A c, e = .returned (.slice A 1 c) ∧ Own w' w.heap.size 5 1 A 1 c ((beBytes n 1).map u8v) ∧ Below w.heap.size w w' :=
  ref_bytesOf n 1 w hn (by omega)
theorem ref_bytes2 (n : Int) (w : World) (hn : mg.InI n) :
    Calls Try.prog 24 #[.int .i64 n, .int .i64 2] w fun e w' => ∃ A c, e = .returned (.slice A 2 c) ∧ Own w' w.heap.size 5 1 A 2 c ((beBytes n 2).map u8v) ∧ Below w.heap.size w w' :=
  ref_bytesOf n 2 w hn (by omega)
theorem ref_bytes4 (n : Int) (w : World) (hn : mg.InI n) :
    Calls Try.prog 24 #[.int .i64 n, .int .i64 4] w fun e w' => ∃ A c, e = .returned (.slice A 4 c) ∧ Own w' w.heap.size 5 1 A 4 c ((beBytes n 4).map u8v) ∧ Below w.heap.size w w' :=
  ref_bytesOf n 4 w hn (by omega)

set_option maxRecDepth 100000 in
set_option maxHeartbeats 8000000 in
theorem ref_MsgAsk (r : Request) (A : Option Addr) (c : Nat) (w : World) (hd : SlRep Rep.u8 w (· < w.heap.size) r.data A c) :
    Calls Try.prog 8 #[.agg (mg.vals r A c).toArray] w (BytesRes (mg.ask r) w) := by
  have HN := Lib.hid (mg.At.new w r A c)
  have HD := Lib.hid hd
  clear hd
  by_cases hf : mg.refFault r = 0
  · have HE : Hid (mg.ask r = .ok (mg.bytes r)) := Lib.hid (by rw [mg.ask_eq, if_pos hf])
    have HF := Lib.hid hf
    have hk := mg.kind_of hf
    have HNM := Lib.hid (fun w => ref_msgNames r.kind hk w)
    have HP := Lib.hid (mg.parts_len r.kind)
    have hm := mg.fit_numb (s := .mark) rfl (mg.fit_fields hf .mark (by simp [mg.fields]))
    have HI1 : mg.InI r.kind := ⟨by omega, by omega⟩
    have HI4 : mg.InI r.mark := hm
    clear hm
    clear hf
    unfold mg.vals
    go_enter Try.func8, Try.ntmps8
    go_wp2_with (first
      | (go_at_call 23; refine (ref_askFault r A c _).mono ?_; rintro e w1 ⟨rfl, hb1⟩; rw [HF.out]; have HB1 := Lib.hid hb1; have ha := HN.out.next hb1; clear hb1; have HA := Lib.hid ha; have y0 := ha.cell 0; have y1 := ha.cell 1; simp only [mg.vals, List.getElem?_cons_zero, List.getElem?_cons_succ] at y0 y1; clear ha)
      | fail)
    go_region_held3 (fun w' => w'.cell? ⟨w.heap.size, 0, none⟩ = some (.int .i64 r.kind) ∧ w'.cell? ⟨w.heap.size, 1, none⟩ = some (.int .i64 r.mark))
      (first
        | go_keep
        | (go_split_ands
           refine ⟨?_, ?_⟩ <;> (first
             | (rw [hg4.cell _ (Nat.lt_of_lt_of_le HA.out.lt (by have := hb2.size; have := hb3.size; (try simp only [World.size_drew] at *); omega)) (fun x hx => by have h1 := (ho2.lt x hx).1; have h2 := HA.out.lt; (try simp only [World.size_drew] at h1); omega)]; assumption)
             | (rw [hb3.cell (Nat.lt_of_lt_of_le HA.out.lt (by have := hb2.size; (try simp only [World.size_drew] at this); exact this))]; assumption)
             | (rw [hb2.cell (by first | exact HA.out.lt | (simp only [World.size_drew]; exact HA.out.lt))]; assumption)
             | fail))
        | fail)
      (first
        | (go_at_call 24; ((with_reducible refine (ref_bytes1 r.kind _ HI1).mono ?_); rintro e w2 ⟨A2, c2, rfl, ho2, hb2⟩))
        | (go_at_call 24; ((with_reducible refine (ref_bytes4 r.mark _ HI4).mono ?_); rintro e w3 ⟨A3, c3, rfl, ho3, hb3⟩))
        | ((refine step_app _ (by rfl) _ _ _ (by rfl) elemU8 _ A2 1 c2 _ (by rfl) (ho2.next hb3) A3 4 _ (List.map u8v (beBytes r.mark 4)) (by rfl) (by simp [mg.be_len]) ho3.cells (oneCell_u8 _) (by omega) (by unfold maxLen; omega) (by have := hb2.size; have := hb3.size; simp at *; omega) ?_; intro A4 c4 w4 hO4 hg4))
        | fail)
    have hz1 := HA.out.lt
    have hz2 := hb2.size
    have hz3 := hb3.size
    simp only [World.size_drew] at hz2
    have hb14 : Below (w.heap.size + 1) w1 w4 := (((Below.refl _ w1).drew.trans (hb2.mono (by first | exact hz1 | (simp only [World.size_drew]; exact hz1)))).trans (hb3.mono (by omega))).trans (hg4.below (by omega) (fun k hk => by have := (ho2.lt k hk).1; simp only [World.size_drew] at this; omega))
    have HW4 : Hid (Below w.heap.size w w4) := Lib.hid (((balloc (bself w) _).trans (HB1.out.mono (by simp))).trans (hb14.mono (by omega)))
    have HA4 : Hid (mg.At w4 w.heap.size r A c) := Lib.hid (HA.out.below hb14 (by omega))
    have HO4 : Hid (Own w4 (w.heap.size + 1) 5 1 A4 5 c4 (([mg.Sel.kind, .mark].flatMap (mg.put r)).map u8v)) := Lib.hid (by
      have h := hO4.base_le (b' := w.heap.size + 1) (by first | exact hz1 | (simp only [World.size_drew]; exact hz1))
      rw [← List.map_append] at h
      exact h)
    have hz4 := HA4.out.lt
    clear hb2 hb3 hb14 hg4 hO4 ho2 ho3 y0 y1 HB1 HA HN
    go_wp2_with (first
      | (go_at_call 25; refine (HNM.out _).mono ?_; rintro e w5 ⟨rfl, hb5⟩; have HB5 := Lib.hid hb5; have hz5 := hb5.size; clear hb5)
      | fail)
    have HR5 : Hid (mg.AskRel w r A c w5.heap.size 0 0 ([mg.Sel.kind, .mark].flatMap (mg.put r)) A4 c4 (w5.iter (strOf ((mg.parts r.kind).map mg.letter)) 0)) := Lib.hid (by
      have hlen : ([mg.Sel.kind, .mark].flatMap (mg.put r)).length = 5 := by simp [mg.put, mg.Sel.srt, mg.be_len, mg.Sel.wide]
      refine ⟨Nat.zero_le _, by simp, World.iter_heap _ _ _, ?_, ?_, (HA4.out.next HB5.out).next (balloc (bself w5) _), balloc (bnext HW4.out HB5.out) _, by omega⟩
      · rw [hlen]
        exact (HO4.out.next HB5.out).next (balloc (bself w5) _)
      · intro e
        have := (HO4.out.lt _ e).2
        omega)
    generalize hI : w5.heap.size = I at *
    clear hI
    generalize w5.iter (strOf ((mg.parts r.kind).map mg.letter)) 0 = w5' at *
    have hl4 : ([mg.Sel.kind, .mark].flatMap (mg.put r)).length = 5 := by simp [mg.put, mg.Sel.srt, mg.be_len, mg.Sel.wide]
    have HL4 := Lib.hid hl4
    have HFF := Lib.hid (mg.fit_fields HF.out)
    have HBL := Lib.hid (fun (l : List mg.Sel) (h : ∀ s, s ∈ l → mg.fit r s = 0) => mg.bytes_len h)
    have HNN : Hid (∀ s, s ∈ mg.parts r.kind → s ∈ mg.fields r) := Lib.hid (fun s hs => by simp [mg.fields, hs])
    clear hl4 HB5 HO4 HA4 HW4 hk HNM
    go_loopw [5] (fun s5 wr => ∃ (k : Nat) (xs : List UInt8) (Ao : Option Addr) (co : Nat), s5 = .slice Ao xs.length co ∧ Hid (mg.AskRel w r A c I k k xs Ao co wr)) (fun _ wr => (mg.parts r.kind).length - wr.iterPos I)
    case atStart => exact ⟨0, _, A4, c4, by rw [HL4.out], HR5⟩
    case round =>
      obtain ⟨k, xs, Ao, co, rfl, HR⟩ := hrel
      clear HR5
      rename World => wr
      by_cases hlt : k < (mg.parts r.kind).length
      · have hnx := mg.run_next HR.out.it hlt
        have hpos := mg.iterPos_of HR.out.it
        have HRN := Lib.hid (HR.out.next (k + 1))
        have hxl : xs.length ≤ 1048576 := by
          rw [HR.out.eq]
          have h1 := HBL.out ([mg.Sel.kind, .mark] ++ (mg.parts r.kind).take k) (fun s hs => HFF.out s (by
            rcases List.mem_append.1 hs with h | h
            · simp [mg.fields] at h ⊢; rcases h with h | h <;> simp [h]
            · exact HNN.out s (List.mem_of_mem_take h)))
          have h2 := HP.out
          rw [List.length_append, List.length_take] at h1
          simp only [List.length_cons, List.length_nil] at h1
          omega
        clear HR
        generalize wr.iterAt I (strOf ((mg.parts r.kind).map mg.letter)) (k + 1) = wi at *
        have HR := HRN
        clear HRN
        have hmem : (mg.parts r.kind).getD k .kind ∈ mg.parts r.kind := by
          rw [List.getD_eq_getElem?_getD, List.getElem?_eq_getElem hlt]
          exact List.getElem_mem hlt
        have hfit := HFF.out _ (HNN.out _ hmem)
        have hno := mg.parts_num hmem
        have hsl' : ∃ s, (mg.parts r.kind).getD k .kind = s := ⟨_, rfl⟩
        obtain ⟨s, hsl⟩ := hsl'
        rw [hsl] at hnx hfit hno
        clear hmem
        match s with
        | .kind => exact absurd rfl hno.1
        | .mark => exact absurd rfl hno.2
        | .path =>
          obtain ⟨pl, HPL⟩ : ∃ pl, Hid (pl = r.path.data.toList) := ⟨_, Lib.hid rfl⟩
          have y2 : wi.cell? ⟨w.heap.size, 2, none⟩ = some (.string (strOf pl)) := by rw [HPL.out, mg.str]; exact HR.out.at_.cell 2
          have HL1 : Hid (pl.length ≤ 1000) := Lib.hid (by have := mg.fit_text (s := .path) rfl hfit; simp only [mg.txt] at this; rw [HPL.out]; omega)
          have hl1 := HL1.out
          have HPP : Hid (mg.put r .path = beBytes (pl.length : Int) 2 ++ pl) := Lib.hid (by rw [HPL.out]; rfl)
          go_wp2_with (first
            | (go_at_call 26; ((with_reducible refine (ref_textOf pl _ HL1.out).mono ?_); rintro e w6 ⟨A6, c6, rfl, ho6, hb6⟩))
            | (at_builtin; refine wp_app _ rfl _ _ _ rfl elemU8 (w.heap.size + 1) Ao xs.length co _ rfl (HR.out.own.next hb6) A6 _ c6 ((mg.put r mg.Sel.path).map u8v) rfl (by rw [HPP.out]; simp [mg.be_len] <;> omega) (by rw [HPP.out]; exact ho6.cells) (oneCell_u8 _) (by omega) (by unfold maxLen; omega) (by have := hb6.size; have := HR.out.lt; have := HR.out.hI; omega) ?_; intro A7 c7 w7 ho7 hg7; obtain ⟨hm, h7⟩ := HR.out.step hlt hsl hb6 hg7 ho7; have HM := Lib.hid hm; have H7 := Lib.hid h7; clear hm h7 ho7 hg7 ho6 hb6)
            | fail)
          go_roundw
          case rel => exact ⟨k + 1, _, A7, c7, by rw [← HM.out]; try rfl, H7⟩
          case measure => rw [mg.iterPos_of H7.out.it, hpos]; omega
        | .to =>
          obtain ⟨pl, HPL⟩ : ∃ pl, Hid (pl = r.to.data.toList) := ⟨_, Lib.hid rfl⟩
          have y3 : wi.cell? ⟨w.heap.size, 3, none⟩ = some (.string (strOf pl)) := by rw [HPL.out, mg.str]; exact HR.out.at_.cell 3
          have HL1 : Hid (pl.length ≤ 1000) := Lib.hid (by have := mg.fit_text (s := .to) rfl hfit; simp only [mg.txt] at this; rw [HPL.out]; omega)
          have hl1 := HL1.out
          have HPP : Hid (mg.put r .to = beBytes (pl.length : Int) 2 ++ pl) := Lib.hid (by rw [HPL.out]; rfl)
          go_wp2_with (first
            | (go_at_call 26; ((with_reducible refine (ref_textOf pl _ HL1.out).mono ?_); rintro e w6 ⟨A6, c6, rfl, ho6, hb6⟩))
            | (at_builtin; refine wp_app _ rfl _ _ _ rfl elemU8 (w.heap.size + 1) Ao xs.length co _ rfl (HR.out.own.next hb6) A6 _ c6 ((mg.put r mg.Sel.to).map u8v) rfl (by rw [HPP.out]; simp [mg.be_len] <;> omega) (by rw [HPP.out]; exact ho6.cells) (oneCell_u8 _) (by omega) (by unfold maxLen; omega) (by have := hb6.size; have := HR.out.lt; have := HR.out.hI; omega) ?_; intro A7 c7 w7 ho7 hg7; obtain ⟨hm, h7⟩ := HR.out.step hlt hsl hb6 hg7 ho7; have HM := Lib.hid hm; have H7 := Lib.hid h7; clear hm h7 ho7 hg7 ho6 hb6)
            | fail)
          go_roundw
          case rel => exact ⟨k + 1, _, A7, c7, by rw [← HM.out]; try rfl, H7⟩
          case measure => rw [mg.iterPos_of H7.out.it, hpos]; omega
        | .how =>
          have y4 : wi.cell? ⟨w.heap.size, 4, none⟩ = some (.int .i64 r.how) := HR.out.at_.cell 4
          have HI : mg.InI r.how := mg.fit_numb (s := .how) rfl hfit
          go_wp2_with (first
            | (go_at_call 24; ((with_reducible refine (ref_bytes1 r.how _ HI).mono ?_); rintro e w6 ⟨A6, c6, rfl, ho6, hb6⟩))
            | (at_builtin; refine wp_app _ rfl _ _ _ rfl elemU8 (w.heap.size + 1) Ao xs.length co _ rfl (HR.out.own.next hb6) A6 _ c6 ((mg.put r mg.Sel.how).map u8v) rfl (by simp [mg.put, mg.Sel.srt, mg.be_len, mg.txt, mg.Sel.wide]) ho6.cells (oneCell_u8 _) (by omega) (by unfold maxLen; omega) (by have := hb6.size; have := HR.out.lt; have := HR.out.hI; omega) ?_; intro A7 c7 w7 ho7 hg7; obtain ⟨hm, h7⟩ := HR.out.step hlt hsl hb6 hg7 ho7; have HM := Lib.hid hm; have H7 := Lib.hid h7; clear hm h7 ho7 hg7 ho6 hb6)
            | fail)
          go_roundw
          case rel => exact ⟨k + 1, _, A7, c7, by rw [← HM.out]; try rfl, H7⟩
          case measure => rw [mg.iterPos_of H7.out.it, hpos]; omega
        | .handle =>
          have y5 : wi.cell? ⟨w.heap.size, 5, none⟩ = some (.int .i64 r.handle) := HR.out.at_.cell 5
          have HI : mg.InI r.handle := mg.fit_numb (s := .handle) rfl hfit
          go_wp2_with (first
            | (go_at_call 24; ((with_reducible refine (ref_bytes4 r.handle _ HI).mono ?_); rintro e w6 ⟨A6, c6, rfl, ho6, hb6⟩))
            | (at_builtin; refine wp_app _ rfl _ _ _ rfl elemU8 (w.heap.size + 1) Ao xs.length co _ rfl (HR.out.own.next hb6) A6 _ c6 ((mg.put r mg.Sel.handle).map u8v) rfl (by simp [mg.put, mg.Sel.srt, mg.be_len, mg.txt, mg.Sel.wide]) ho6.cells (oneCell_u8 _) (by omega) (by unfold maxLen; omega) (by have := hb6.size; have := HR.out.lt; have := HR.out.hI; omega) ?_; intro A7 c7 w7 ho7 hg7; obtain ⟨hm, h7⟩ := HR.out.step hlt hsl hb6 hg7 ho7; have HM := Lib.hid hm; have H7 := Lib.hid h7; clear hm h7 ho7 hg7 ho6 hb6)
            | fail)
          go_roundw
          case rel => exact ⟨k + 1, _, A7, c7, by rw [← HM.out]; try rfl, H7⟩
          case measure => rw [mg.iterPos_of H7.out.it, hpos]; omega
        | .at_ =>
          have y6 : wi.cell? ⟨w.heap.size, 6, none⟩ = some (.int .i64 r.at_) := HR.out.at_.cell 6
          have HI : mg.InI r.at_ := mg.fit_numb (s := .at_) rfl hfit
          go_wp2_with (first
            | (go_at_call 24; ((with_reducible refine (ref_bytes4 r.at_ _ HI).mono ?_); rintro e w6 ⟨A6, c6, rfl, ho6, hb6⟩))
            | (at_builtin; refine wp_app _ rfl _ _ _ rfl elemU8 (w.heap.size + 1) Ao xs.length co _ rfl (HR.out.own.next hb6) A6 _ c6 ((mg.put r mg.Sel.at_).map u8v) rfl (by simp [mg.put, mg.Sel.srt, mg.be_len, mg.txt, mg.Sel.wide]) ho6.cells (oneCell_u8 _) (by omega) (by unfold maxLen; omega) (by have := hb6.size; have := HR.out.lt; have := HR.out.hI; omega) ?_; intro A7 c7 w7 ho7 hg7; obtain ⟨hm, h7⟩ := HR.out.step hlt hsl hb6 hg7 ho7; have HM := Lib.hid hm; have H7 := Lib.hid h7; clear hm h7 ho7 hg7 ho6 hb6)
            | fail)
          go_roundw
          case rel => exact ⟨k + 1, _, A7, c7, by rw [← HM.out]; try rfl, H7⟩
          case measure => rw [mg.iterPos_of H7.out.it, hpos]; omega
        | .count =>
          have y7 : wi.cell? ⟨w.heap.size, 7, none⟩ = some (.int .i64 r.count) := HR.out.at_.cell 7
          have HI : mg.InI r.count := mg.fit_numb (s := .count) rfl hfit
          go_wp2_with (first
            | (go_at_call 24; ((with_reducible refine (ref_bytes2 r.count _ HI).mono ?_); rintro e w6 ⟨A6, c6, rfl, ho6, hb6⟩))
            | (at_builtin; refine wp_app _ rfl _ _ _ rfl elemU8 (w.heap.size + 1) Ao xs.length co _ rfl (HR.out.own.next hb6) A6 _ c6 ((mg.put r mg.Sel.count).map u8v) rfl (by simp [mg.put, mg.Sel.srt, mg.be_len, mg.txt, mg.Sel.wide]) ho6.cells (oneCell_u8 _) (by omega) (by unfold maxLen; omega) (by have := hb6.size; have := HR.out.lt; have := HR.out.hI; omega) ?_; intro A7 c7 w7 ho7 hg7; obtain ⟨hm, h7⟩ := HR.out.step hlt hsl hb6 hg7 ho7; have HM := Lib.hid hm; have H7 := Lib.hid h7; clear hm h7 ho7 hg7 ho6 hb6)
            | fail)
          go_roundw
          case rel => exact ⟨k + 1, _, A7, c7, by rw [← HM.out]; try rfl, H7⟩
          case measure => rw [mg.iterPos_of H7.out.it, hpos]; omega
        | .data =>
          have y8 : wi.cell? ⟨w.heap.size, 8, none⟩ = some (.slice A r.data.length c) := HR.out.at_.cell 8
          have HL1 : Hid (r.data.length ≤ 1000) := Lib.hid (by have := mg.fit_data (s := .data) rfl hfit; simp only [mg.txt] at this; omega)
          have hl1 := HL1.out
          have hcv := run_string (HD.out.next HR.out.hb)
          go_wp2_with (first
            | (go_at_call 26; ((with_reducible refine (ref_textOf r.data _ HL1.out).mono ?_); rintro e w6 ⟨A6, c6, rfl, ho6, hb6⟩))
            | (at_builtin; refine wp_app _ rfl _ _ _ rfl elemU8 (w.heap.size + 1) Ao xs.length co _ rfl (HR.out.own.next hb6) A6 _ c6 ((mg.put r mg.Sel.data).map u8v) rfl (by simp [mg.put, mg.Sel.srt, mg.be_len, mg.txt, mg.Sel.wide]) ho6.cells (oneCell_u8 _) (by omega) (by unfold maxLen; omega) (by have := hb6.size; have := HR.out.lt; have := HR.out.hI; omega) ?_; intro A7 c7 w7 ho7 hg7; obtain ⟨hm, h7⟩ := HR.out.step hlt hsl hb6 hg7 ho7; have HM := Lib.hid hm; have H7 := Lib.hid h7; clear hm h7 ho7 hg7 ho6 hb6)
            | fail)
          go_roundw
          case rel => exact ⟨k + 1, _, A7, c7, by rw [← HM.out]; try rfl, H7⟩
          case measure => rw [mg.iterPos_of H7.out.it, hpos]; omega
      · have hnx := mg.run_next_end HR.out.it hlt
        have HE2 : Hid (mg.ask r = .ok xs) := Lib.hid (by
          rw [HE.out, HR.out.eq, List.take_of_length_le (by omega)]
          rfl)
        go_wp2
        go_ret2
        exact BytesRes.yes HE2.out (HR.out.own.base_le (by omega)) HR.out.hb
  · have HE : Hid (mg.ask r = .error (mg.refFault r)) := Lib.hid (by rw [mg.ask_eq, if_neg hf])
    generalize hfv : mg.refFault r = f at *
    have HF := Lib.hid hfv
    have q1 : (f != 0) = true := bne_iff_ne.2 hf
    clear hf hfv
    unfold mg.vals
    go_enter Try.func8, Try.ntmps8
    go_wp2_with (first
      | (go_at_call 23; refine (ref_askFault r A c _).mono ?_; rintro e w1 ⟨rfl, hb1⟩; rw [HF.out]; have HB1 := Lib.hid hb1; clear hb1)
      | fail)
    go_ret2
    exact BytesRes.no HE.out ((balloc (bself w) _).trans (HB1.out.mono (by simp)))
end Go.Proofs.Ytcpbgiikfabaaaa
