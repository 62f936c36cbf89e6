/- Package ref: MsgAnswer. No condition. -/
import Derived.Test.YtcpbgiikfabaaaaMsgR4
import Derived.Test.YtcpbgiikfabaaaaMsg12
namespace Go.Proofs.Ytcpbgiikfabaaaa
open Go.RowKit
set_option linter.unusedSimpArgs false

theorem Cells.drew {w : World} {A : Option Addr} {xs : List Value} (h : Cells w A xs) : Cells w.drew A xs := h
theorem Cells.grew {w w' : World} {A B B' : Option Addr} {xs : List Value} (h : Cells w A xs) (hg : Grew w w' B B') (hA : ∀ k, blkOf A = some k → k < w.heap.size ∧ blkOf B ≠ some k) : Cells w' A xs := by
  rcases h with rfl | ⟨b, o, rfl, hc⟩
  · exact .inl rfl
  · exact .inr ⟨b, o, rfl, fun j u hu => (World.cell?_of_block (a := ⟨b, o + j, none⟩) (hg.grown.block b (hA b rfl).1 (fun e => (hA b rfl).2 e.symm))).trans (hc j u hu)⟩
theorem mr.bytes7 (r : Reply) : mr.all7.flatMap (mr.put r (r.names.length : Int)) = (((((beBytes r.mark 4 ++ beBytes r.code 1) ++ beBytes r.handle 4) ++ beBytes r.kind 1) ++ beBytes r.size 4) ++ (beBytes (r.data.length : Int) 2 ++ r.data)) ++ beBytes (r.names.length : Int) 1 := by
  simp [mr.all7, mr.put, mr.Sel.isNum, mr.num, mr.Sel.wide]
theorem mr.bounds {r : Reply} (hf : mr.fault r = 0) : (0 ≤ r.code ∧ r.code ≤ 255) ∧ (0 ≤ r.kind ∧ r.kind ≤ 255) ∧ mg.InI r.mark ∧ mg.InI r.handle ∧ mg.InI r.size := by
  have h := fun s hs => mr.fit_zero hf s hs
  have hc := h .code (by decide)
  have hk := h .kind (by decide)
  refine ⟨?_, ?_, mr.num_ok hf 0 .mark rfl (by decide), mr.num_ok hf 0 .handle rfl (by decide), mr.num_ok hf 0 .size rfl (by decide)⟩
  · by_cases h2 : r.code < 0 ∨ 256 ^ 1 ≤ r.code
    · exact absurd hc (by show ¬ (if r.code < 0 ∨ 256 ^ 1 ≤ r.code then (2 : Int) else 0) = 0; rw [if_pos h2]; decide)
    · omega
  · by_cases h2 : r.kind < 0 ∨ 256 ^ 1 ≤ r.kind
    · exact absurd hk (by show ¬ (if r.kind < 0 ∨ 256 ^ 1 ≤ r.kind then (2 : Int) else 0) = 0; rw [if_pos h2]; decide)
    · omega
theorem mr.one_byte {n : Int} (h : 0 ≤ n ∧ n ≤ 255) : (beBytes n 1).map u8v = [.int .u8 n] := by
  simp only [beBytes, List.map_cons, List.map_nil, u8v, byteOf_toNat]
  congr 2
  simp
  omega

set_option maxRecDepth 100000 in
set_option maxHeartbeats 8000000 in
theorem ref_MsgAnswer_res (r : Reply) (Ad : Option Addr) (cd : Nat) (An : Option Addr) (cn : Nat) (w : World) (hd : SlRep Rep.u8 w (· < w.heap.size) r.data Ad cd) (hl : SlRep Rep.str w (· < w.heap.size) r.names An cn) (hn : r.names.length ≤ 140737488351232) (hs : ∀ s ∈ r.names, s.size ≤ 140737488351232) :
    Calls Try.prog 14 #[.agg (mr.vals r Ad cd An cn).toArray] w (BytesRes (mr.answer r) w) := by
  have HN := Lib.hid (mr.At.new w r Ad cd An cn)
  have HD := Lib.hid hd
  have HL := Lib.hid hl
  have HFC := Lib.hid (fun w' (hb : Below w.heap.size w w') => ref_answerFault r Ad cd An cn w' (hl.next hb) hn hs)
  clear hd hl hs hn
  by_cases hf : mr.fault r = 0
  · have HE : Hid (mr.answer r = .ok (mr.bytes r)) := Lib.hid (by unfold mr.answer; rw [if_neg (fun h => h hf)])
    have HF := Lib.hid hf
    rw [hf] at HFC
    have hp := mr.fault_parts hf
    obtain ⟨⟨b1, b2⟩, ⟨b3, b4⟩, HI1, HI2, HI3⟩ := mr.bounds hf
    have hw1 : IntKind.u8.wrap r.code = r.code := IntWalk.u8_in _ (by omega)
    clear hf
    unfold mr.vals
    go_enter Try.func14, Try.ntmps14
    go_upto_region 4 with (first
      | (go_at_call 33; refine (HFC.out _ (by exact balloc (bself w) _)).mono ?_; rintro e w1 ⟨rfl, hb1⟩; have HA1 := Lib.hid (HN.out.next hb1); have HB1 := Lib.hid (bnext (balloc (bself w) _) hb1); have z0 := HA1.out.cell 0; have z1 := HA1.out.cell 1; simp only [mr.vals, List.getElem?_cons_zero, List.getElem?_cons_succ] at z0 z1; have hz1 : w.heap.size < w1.heap.size := HA1.out.lt; clear hb1)
      | fail)
    go_cut [5] (fun s5 wx => ∃ A3 c3, s5 = .slice A3 5 c3 ∧ Hid (Own wx (w.heap.size + 1) 5 1 A3 5 c3 ((beBytes r.mark 4 ++ beBytes r.code 1).map u8v) ∧ Below (w.heap.size + 1) w1 wx))
    case first =>
      go_region_held3 (fun w' => w'.cell? ⟨w.heap.size, 0, none⟩ = some (.int .i64 r.mark) ∧ w'.cell? ⟨w.heap.size, 1, none⟩ = some (.int .i64 r.code))
        (first
          | go_keep
          | (go_split_ands
             refine ⟨?_, ?_⟩ <;> (first
               | (rw [hg3.cell _ (by have := hb2.size; (try simp only [World.size_drew, World.size_alloc] at *); omega) (fun x hx => by have := (ho2.lt x hx).1; (try simp only [World.size_drew, World.size_alloc] at *); omega)]; assumption)
               | (rw [hg3.cell _ (by have := hb2.size; (try simp only [World.size_drew, World.size_alloc] at *); omega) (fun x hx => by have := (ho2.lt x hx).1; (try simp only [World.size_drew, World.size_alloc] at *); omega)]; simp [go_sem, *]; done)
               | (rw [hb2.cell (by (try simp only [World.size_drew, World.size_alloc] at *); omega)]; assumption)
               | (rw [hb2.cell (by (try simp only [World.size_drew, World.size_alloc] at *); omega)]; simp [go_sem, *]; done)
               | fail))
          | fail)
        (first
          | (go_at_call 24; ((with_reducible refine (ref_bytes4 r.mark _ HI1).mono ?_); rintro e w2 ⟨A2, c2, rfl, ho2, hb2⟩))
          | (refine step_app _ (by rfl) _ _ _ (by rfl) elemU8 _ A2 4 c2 _ (by rfl) (ho2.alloc _) _ 1 1 [Value.int .u8 r.code] (by rfl) rfl (Cells.newAt _ _ _ rfl) (by simp [Value.oneCell']) (by omega) (by unfold maxLen; omega) (by have := hb2.size; (try simp only [World.size_drew, World.size_alloc] at *); omega) ?_; intro A3 c3 w3 hO3 hg3)
          | (refine step_app _ (by rfl) _ _ _ (by rfl) elemU8 _ A2 4 c2 _ (by rfl) ho2 _ 1 1 [Value.int .u8 r.code] (by rfl) rfl ((Cells.newAt w1 _ _ rfl).drew.below hb2 (fun k hk => by cases hk; simp)) (by simp [Value.oneCell']) (by omega) (by unfold maxLen; omega) (by have := hb2.size; (try simp only [World.size_drew, World.size_alloc] at *); omega) ?_; intro A3 c3 w3 hO3 hg3)
          | fail)
      all_goals
        go_wp2
        go_meet
        refine ⟨A3, c3, rfl, Lib.hid ⟨?_, ?_⟩⟩
        · have h := hO3.base_le (b' := w.heap.size + 1) (by (try simp only [World.size_drew, World.size_alloc] at *); omega)
          rw [List.map_append, mr.one_byte ⟨b1, b2⟩]
          exact h
        · first
            | exact (((Below.refl _ w1).drew.trans (hb2.mono (by (try simp only [World.size_drew, World.size_alloc] at *); omega))).alloc (by have := hb2.size; (try simp only [World.size_drew, World.size_alloc] at *); omega) _).trans (hg3.below (by have := hb2.size; (try simp only [World.size_drew, World.size_alloc] at *); omega) (fun k hk => by have := (ho2.lt k hk).1; (try simp only [World.size_drew, World.size_alloc] at *); omega))
            | exact ((((Below.refl _ w1).alloc (by omega) _).drew.trans (hb2.mono (by (try simp only [World.size_drew, World.size_alloc] at *); omega)))).trans (hg3.below (by have := hb2.size; (try simp only [World.size_drew, World.size_alloc] at *); omega) (fun k hk => by have := (ho2.lt k hk).1; (try simp only [World.size_drew, World.size_alloc] at *); omega))
    case rest =>
      obtain ⟨A3, c3, rfl, HF3⟩ := hcut
      rename World => w3
      have HO3 := Lib.hid HF3.out.1
      have HA3 : Hid (mr.At w3 w.heap.size r Ad cd An cn) := Lib.hid (HA1.out.block (HF3.out.2.block _ (by omega)))
      have HB3 := Lib.hid (HB1.out.trans (HF3.out.2.mono (by omega)))
      have hz3 : w.heap.size < w3.heap.size := HA3.out.lt
      clear z0 z1 HA1 HB1 hw1 HF3 HI1
      have z2 := HA3.out.cell 2
      have z3 := HA3.out.cell 3
      have z4 := HA3.out.cell 4
      simp only [mr.vals, List.getElem?_cons_zero, List.getElem?_cons_succ] at z2 z3 z4
      have hw2 : IntKind.u8.wrap r.kind = r.kind := IntWalk.u8_in _ (by omega)
      go_upto_region 5 with fail
      go_cut [5] (fun s5 wx => ∃ A8 c8, s5 = .slice A8 14 c8 ∧ Hid (Own wx (w.heap.size + 1) 5 1 A8 14 c8 ((((beBytes r.mark 4 ++ beBytes r.code 1) ++ beBytes r.handle 4) ++ beBytes r.kind 1) ++ beBytes r.size 4 |>.map u8v) ∧ Below (w.heap.size + 1) w3 wx))
      case first =>
        go_region_held3 (fun w' => w'.cell? ⟨w.heap.size, 2, none⟩ = some (.int .i64 r.handle) ∧ w'.cell? ⟨w.heap.size, 3, none⟩ = some (.int .i64 r.kind) ∧ w'.cell? ⟨w.heap.size, 4, none⟩ = some (.int .i64 r.size))
          (first
            | go_keep
            | (go_split_ands
               refine ⟨?_, ?_, ?_⟩ <;> (first
                 | (rw [hg8.cell _ (by have := hb4.size; have := hg5.grown.size; have := hg6.grown.size; have := hb7.size; (try simp only [World.size_drew, World.size_alloc] at *); omega) (fun x hx => by have := (hO6.lt x hx).1; omega)]; first | assumption | (simp [go_sem, *]; done))
                 | (rw [hb7.cell (by have := hb4.size; have := hg5.grown.size; have := hg6.grown.size; (try simp only [World.size_drew, World.size_alloc] at *); omega)]; first | assumption | (simp [go_sem, *]; done))
                 | (rw [hg6.cell _ (by have := hb4.size; have := hg5.grown.size; (try simp only [World.size_drew, World.size_alloc] at *); omega) (fun x hx => by have := (hO5.lt x hx).1; omega)]; first | assumption | (simp [go_sem, *]; done))
                 | (rw [hg5.cell _ (by have := hb4.size; (try simp only [World.size_drew, World.size_alloc] at *); omega) (fun x hx => by have := (HO3.out.lt x hx).1; omega)]; first | assumption | (simp [go_sem, *]; done))
                 | (rw [hb4.cell (by (try simp only [World.size_drew, World.size_alloc] at *); omega)]; first | assumption | (simp [go_sem, *]; done))
                 | fail))
            | fail)
          (first
            | (go_at_call 24; ((with_reducible refine (ref_bytes4 r.handle _ HI2).mono ?_); rintro e w4 ⟨A4, c4, rfl, ho4, hb4⟩))
            | (go_at_call 24; ((with_reducible refine (ref_bytes4 r.size _ HI3).mono ?_); rintro e w7 ⟨A7, c7, rfl, ho7, hb7⟩))
            | (refine step_app _ (by rfl) _ _ _ (by rfl) elemU8 (w.heap.size + 1) A6 _ c6 _ (by rfl) (hO6.next hb7) A7 4 c7 (List.map u8v (beBytes r.size 4)) (by rfl) (by simp [mg.be_len]) ho7.cells (oneCell_u8 _) (by omega) (by unfold maxLen; omega) (by have := hb4.size; have := hg5.grown.size; have := hg6.grown.size; have := hb7.size; (try simp only [World.size_drew, World.size_alloc] at *); omega) ?_; intro A8 c8 w8 hO8 hg8)
            | (refine step_app _ (by rfl) _ _ _ (by rfl) elemU8 (w.heap.size + 1) A5 _ c5 _ (by rfl) (by first | exact hO5 | exact hO5.alloc _) (some ⟨_, 0, none⟩) 1 1 [Value.int .u8 r.kind] (by rfl) rfl (by first
                | exact Cells.newAt _ _ _ rfl
                | exact (Cells.newAt w4 _ _ rfl).grew hg5 (fun k hk => by cases hk; exact ⟨by simp, fun e => absurd (HO3.out.lt _ e).2 (Nat.not_lt.2 (show w3.heap.size ≤ w4.heap.size from by have := hb4.size; (try simp only [World.size_drew, World.size_alloc] at *); omega))⟩)
                | exact ((Cells.newAt w3 _ _ rfl).drew.below hb4 (fun k hk => by cases hk; simp)).grew hg5 (fun k hk => by cases hk; exact ⟨by have := hb4.size; (try simp only [World.size_drew, World.size_alloc] at *); omega, fun e => absurd (HO3.out.lt _ e).2 (Nat.lt_irrefl _)⟩)) (by simp [Value.oneCell']) (by omega) (by unfold maxLen; omega) (by have := hb4.size; have := hg5.grown.size; (try simp only [World.size_drew, World.size_alloc] at *); omega) ?_; intro A6 c6 w6 hO6 hg6)
            | (refine step_app _ (by rfl) _ _ _ (by rfl) elemU8 (w.heap.size + 1) A3 5 c3 _ (by rfl) (by first | exact (HO3.out.drew.next hb4) | exact ((HO3.out.alloc _).drew.next hb4) | exact (HO3.out.drew.next hb4).alloc _) A4 4 c4 (List.map u8v (beBytes r.handle 4)) (by rfl) (by simp [mg.be_len]) (by first | exact ho4.cells | exact (ho4.alloc _).cells) (oneCell_u8 _) (by omega) (by unfold maxLen; omega) (by have := hb4.size; (try simp only [World.size_drew, World.size_alloc] at *); omega) ?_; intro A5 c5 w5 hO5 hg5)
            | fail)
        all_goals
          go_wp2
          go_meet
          have hB4 : Below (w.heap.size + 1) w3 w4 := by
            first
              | exact (Below.refl _ w3).drew.trans (hb4.mono (by (try simp only [World.size_drew, World.size_alloc] at *); omega))
              | exact ((Below.refl _ w3).alloc (by omega) _).drew.trans (hb4.mono (by (try simp only [World.size_drew, World.size_alloc] at *); omega))
          have hB5 : Below (w.heap.size + 1) w3 w5 := by
            first
              | exact hB4.trans (hg5.below (by have := hb4.size; (try simp only [World.size_drew, World.size_alloc] at *); omega) (fun k hk => (HO3.out.lt k hk).1))
              | exact (hB4.alloc (by have := hb4.size; (try simp only [World.size_drew, World.size_alloc] at *); omega) _).trans (hg5.below (by have := hb4.size; (try simp only [World.size_drew, World.size_alloc] at *); omega) (fun k hk => (HO3.out.lt k hk).1))
          have hB6 : Below (w.heap.size + 1) w3 w6 := by
            first
              | exact hB5.trans (hg6.below (by have := hb4.size; have := hg5.grown.size; (try simp only [World.size_drew, World.size_alloc] at *); omega) (fun k hk => (hO5.lt k hk).1))
              | exact (hB5.alloc (by have := hb4.size; have := hg5.grown.size; (try simp only [World.size_drew, World.size_alloc] at *); omega) _).trans (hg6.below (by have := hb4.size; have := hg5.grown.size; (try simp only [World.size_drew, World.size_alloc] at *); omega) (fun k hk => (hO5.lt k hk).1))
          refine ⟨A8, c8, rfl, Lib.hid ⟨?_, (hB6.trans (hb7.mono (by have := hb4.size; have := hg5.grown.size; have := hg6.grown.size; (try simp only [World.size_drew, World.size_alloc] at *); omega))).trans (hg8.below (by have := hb4.size; have := hg5.grown.size; have := hg6.grown.size; have := hb7.size; (try simp only [World.size_drew, World.size_alloc] at *); omega) (fun k hk => (hO6.lt k hk).1))⟩⟩
          simp only [List.map_append, mr.one_byte (⟨b3, b4⟩ : 0 ≤ r.kind ∧ r.kind ≤ 255)] at hO8 ⊢
          exact hO8
      case rest =>
        obtain ⟨A8, c8, rfl, HF8⟩ := hcut
        rename World => w8
        have HO8 := Lib.hid HF8.out.1
        have HA8 : Hid (mr.At w8 w.heap.size r Ad cd An cn) := Lib.hid (HA3.out.block (HF8.out.2.block _ (by omega)))
        have HB8 := Lib.hid (HB3.out.trans (HF8.out.2.mono (by omega)))
        have hz8 : w.heap.size < w8.heap.size := HA8.out.lt
        clear z2 z3 z4 HA3 HB3 hw2 HF8 HO3 HI2 HI3
        have z5 := HA8.out.cell 5
        have z6 := HA8.out.cell 6
        simp only [mr.vals, List.getElem?_cons_zero, List.getElem?_cons_succ] at z5 z6
        have hw3 : IntKind.u8.wrap (r.names.length : Int) = (r.names.length : Int) := IntWalk.u8_in _ (by omega)
        have hcv1 := run_string ((HD.out.next HB8.out).next (Below.drew (bself w8)))
        have hcv2 := fun o => run_string ((HD.out.next HB8.out).next (Below.drew (balloc (bself w8) o)))
        have hpn : r.names.length ≤ 40 := hp.2.1
        have hpd : r.data.length ≤ 1000 := by omega
        go_upto_region 6 with fail
        go_cut [5] (fun s5 wx => ∃ A12 c12, s5 = .slice A12 (17 + r.data.length) c12 ∧ Hid (Own wx (w.heap.size + 1) 5 1 A12 (17 + r.data.length) c12 ((mr.all7.flatMap (mr.put r (r.names.length : Int))).map u8v) ∧ Below (w.heap.size + 1) w8 wx))
        case first =>
          have HDW : Hid (SlRep Rep.u8 w8 (· < w.heap.size) r.data Ad cd) := Lib.hid (HD.out.keep fun k hk => ⟨hk, HB8.out.block k hk⟩)
          clear hcv1 hcv2
          have hcv0 := run_string (HDW.out.keep (w' := w8.drew) (S' := (· < w.heap.size)) fun k hk => ⟨hk, rfl⟩)
          have hcv0a := fun o => run_string (HDW.out.keep (w' := (w8.alloc o).drew) (S' := (· < w.heap.size)) fun k hk => ⟨hk, (balloc (bself w8) o).block k (by omega)⟩)
          go_region_held3 (fun w' => w'.cell? ⟨w.heap.size, 5, none⟩ = some (.slice Ad r.data.length cd) ∧ w'.cell? ⟨w.heap.size, 6, none⟩ = some (.slice An r.names.length cn) ∧ (convert 22 9 (.slice Ad r.data.length cd)).run Try.prog w' = .ok (.string (strOf r.data)) w')
            (first
              | (go_keep; done)
              | (go_split_ands
                 (repeat' apply And.intro) <;> (first
                   | assumption
                   | exact hcv0a _
                   | exact hcv10a _
                   | exact hcv11a _
                   | (rw [hg12.cell _ (by have := hb10.size; have := hg11.grown.size; (try simp only [World.size_drew, World.size_alloc] at *); omega) (fun x hx => by have := (hO11.lt x hx).1; omega)]; first | assumption | (simp [go_sem, *]; done))
                   | (rw [hg11.cell _ (by have := hb10.size; (try simp only [World.size_drew, World.size_alloc] at *); omega) (fun x hx => by have := (HO8.out.lt x hx).1; omega)]; first | assumption | (simp [go_sem, *]; done))
                   | (rw [hb10.cell (by (try simp only [World.size_drew, World.size_alloc] at *); omega)]; first | assumption | (simp [go_sem, *]; done))
                   | assumption
                   | (simp [go_sem, *]; done)
                   | fail))
              | assumption
              | exact hcv0a _
              | exact hcv10a _
              | exact hcv11a _
              | fail)
            (first
              | (go_at_call 26; ((with_reducible refine (ref_textOf r.data _ hpd).mono ?_); rintro e w10 ⟨A10, c10, rfl, ho10, hb10⟩; have HQ10 : Hid (∀ k, k < w.heap.size → w10.heap[k]? = w8.heap[k]?) := Lib.hid (fun k hk => (hb10.block k (by (try simp only [World.size_drew, World.size_alloc] at *); omega)).trans (by first | rfl | exact (balloc (bself w8) _).block k (by omega)))); have hcv10 := run_string (HDW.out.keep (w' := w10) (S' := (· < w.heap.size)) fun k hk => ⟨hk, HQ10.out k hk⟩); have hcv10a := (fun o => run_string (HDW.out.keep (w' := w10.alloc o) (S' := (· < w.heap.size)) fun k hk => ⟨hk, ((balloc (bself w10) o).block k (by have := hb10.size; (try simp only [World.size_drew, World.size_alloc] at *); omega)).trans (HQ10.out k hk)⟩)))
              | (refine step_app _ (by rfl) _ _ _ (by rfl) elemU8 (w.heap.size + 1) A11 _ c11 _ (by rfl) (by first | exact hO11 | exact hO11.alloc _) (some ⟨_, 0, none⟩) 1 1 [Value.int .u8 (r.names.length : Int)] (by rfl) rfl (by first
                  | exact Cells.newAt _ _ _ rfl
                  | exact (Cells.newAt w10 _ _ rfl).grew hg11 (fun k hk => by cases hk; exact ⟨by simp, fun e => absurd (HO8.out.lt _ e).2 (Nat.not_lt.2 (show w8.heap.size ≤ w10.heap.size from by have := hb10.size; (try simp only [World.size_drew, World.size_alloc] at *); omega))⟩)
                  | exact ((Cells.newAt w8 _ _ rfl).drew.below hb10 (fun k hk => by cases hk; simp)).grew hg11 (fun k hk => by cases hk; exact ⟨by have := hb10.size; (try simp only [World.size_drew, World.size_alloc] at *); omega, fun e => absurd (HO8.out.lt _ e).2 (Nat.lt_irrefl _)⟩)) (by simp [Value.oneCell']) (by omega) (by unfold maxLen; omega) (by have := hb10.size; have := hg11.grown.size; (try simp only [World.size_drew, World.size_alloc] at *); omega) ?_; intro A12 c12 w12 hO12 hg12; have HQ12 : Hid (∀ k, k < w.heap.size → w12.heap[k]? = w8.heap[k]?) := Lib.hid (fun k hk => (hg12.grown.block k (by have := hb10.size; have := hg11.grown.size; (try simp only [World.size_drew, World.size_alloc] at *); omega) (fun e => by have := (hO11.lt k e.symm).1; omega)).trans (by first | exact HQ11.out k hk | exact ((balloc (bself w11) _).block k (by have := hb10.size; have := hg11.grown.size; (try simp only [World.size_drew, World.size_alloc] at *); omega)).trans (HQ11.out k hk))); have hcv12 := run_string (HDW.out.keep (w' := w12) (S' := (· < w.heap.size)) fun k hk => ⟨hk, HQ12.out k hk⟩); have hcv12a := (fun o => run_string (HDW.out.keep (w' := w12.alloc o) (S' := (· < w.heap.size)) fun k hk => ⟨hk, ((balloc (bself w12) o).block k (by have := hb10.size; have := hg11.grown.size; have := hg12.grown.size; (try simp only [World.size_drew, World.size_alloc] at *); omega)).trans (HQ12.out k hk)⟩)))
              | (refine step_app _ (by rfl) _ _ _ (by rfl) elemU8 (w.heap.size + 1) A8 14 c8 _ (by rfl) (by first | exact (HO8.out.drew.next hb10) | exact ((HO8.out.alloc _).drew.next hb10) | exact (HO8.out.drew.next hb10).alloc _) A10 (2 + r.data.length) c10 (List.map u8v (beBytes (r.data.length : Int) 2 ++ r.data)) (by rfl) (by simp [mg.be_len]) (by first | exact ho10.cells | exact (ho10.alloc _).cells) (oneCell_u8 _) (by omega) (by unfold maxLen; omega) (by have := hb10.size; (try simp only [World.size_drew, World.size_alloc] at *); omega) ?_; intro A11 c11 w11 hO11 hg11; have HQ11 : Hid (∀ k, k < w.heap.size → w11.heap[k]? = w8.heap[k]?) := Lib.hid (fun k hk => (hg11.grown.block k (by have := hb10.size; (try simp only [World.size_drew, World.size_alloc] at *); omega) (fun e => by have := (HO8.out.lt k e.symm).1; omega)).trans (by first | exact HQ10.out k hk | exact ((balloc (bself w10) _).block k (by have := hb10.size; (try simp only [World.size_drew, World.size_alloc] at *); omega)).trans (HQ10.out k hk))); have hcv11 := run_string (HDW.out.keep (w' := w11) (S' := (· < w.heap.size)) fun k hk => ⟨hk, HQ11.out k hk⟩); have hcv11a := (fun o => run_string (HDW.out.keep (w' := w11.alloc o) (S' := (· < w.heap.size)) fun k hk => ⟨hk, ((balloc (bself w11) o).block k (by have := hb10.size; have := hg11.grown.size; (try simp only [World.size_drew, World.size_alloc] at *); omega)).trans (HQ11.out k hk)⟩)))
              | fail)
          all_goals
            go_wp2
            go_meet
            have hB10 : Below (w.heap.size + 1) w8 w10 := by
              first
                | exact (Below.refl _ w8).drew.trans (hb10.mono (by (try simp only [World.size_drew, World.size_alloc] at *); omega))
                | exact ((Below.refl _ w8).alloc (by omega) _).drew.trans (hb10.mono (by (try simp only [World.size_drew, World.size_alloc] at *); omega))
            have hB11 : Below (w.heap.size + 1) w8 w11 := by
              first
                | exact hB10.trans (hg11.below (by have := hb10.size; (try simp only [World.size_drew, World.size_alloc] at *); omega) (fun k hk => (HO8.out.lt k hk).1))
                | exact (hB10.alloc (by have := hb10.size; (try simp only [World.size_drew, World.size_alloc] at *); omega) _).trans (hg11.below (by have := hb10.size; (try simp only [World.size_drew, World.size_alloc] at *); omega) (fun k hk => (HO8.out.lt k hk).1))
            have hB12 : Below (w.heap.size + 1) w8 w12 := by
              first
                | exact hB11.trans (hg12.below (by have := hb10.size; have := hg11.grown.size; (try simp only [World.size_drew, World.size_alloc] at *); omega) (fun k hk => (hO11.lt k hk).1))
                | exact (hB11.alloc (by have := hb10.size; have := hg11.grown.size; (try simp only [World.size_drew, World.size_alloc] at *); omega) _).trans (hg12.below (by have := hb10.size; have := hg11.grown.size; (try simp only [World.size_drew, World.size_alloc] at *); omega) (fun k hk => (hO11.lt k hk).1))
            have e17 : 14 + (2 + r.data.length) + 1 = 17 + r.data.length := by omega
            refine ⟨A12, c12, by rw [e17], Lib.hid ⟨?_, hB12⟩⟩
            rw [e17] at hO12
            rw [mr.bytes7]
            simp only [List.map_append, mr.one_byte (⟨by omega, by omega⟩ : 0 ≤ (r.names.length : Int) ∧ (r.names.length : Int) ≤ 255)] at hO12 ⊢
            exact hO12
        case rest =>
          obtain ⟨A12, c12, rfl, HF12⟩ := hcut
          rename World => w12
          have HO12 := Lib.hid HF12.out.1
          have HA12 : Hid (mr.At w12 w.heap.size r Ad cd An cn) := Lib.hid (HA8.out.block (HF12.out.2.block _ (by omega)))
          have HB12 := Lib.hid (HB8.out.trans (HF12.out.2.mono (by omega)))
          have hz12 : w.heap.size < w12.heap.size := HA12.out.lt
          have HL12 : Hid (SlRep Rep.str w12 (· < w.heap.size) r.names An cn) := Lib.hid (HL.out.keep fun k hk => ⟨hk, HB12.out.block k hk⟩)
          clear z5 z6 HA8 HB8 hw3 HF12 HO8 hcv1 hcv2
          have z6 := HA12.out.cell 6
          simp only [mr.vals, List.getElem?_cons_zero, List.getElem?_cons_succ] at z6
          have hlen : 17 + r.data.length = (mr.all7.flatMap (mr.put r (r.names.length : Int))).length := by have := HO12.out.len; rw [List.length_map] at this; omega
          rw [hlen] at HO12 ⊢
          have HX7 : Hid (∃ xs, xs = mr.all7.flatMap (mr.put r (r.names.length : Int))) := Lib.hid ⟨_, rfl⟩
          obtain ⟨xs, hxs⟩ := HX7.out
          rw [← hxs] at HO12 ⊢
          have HX := Lib.hid hxs
          clear hxs hlen HX7 HL HD HN HFC
          go_wp2_with fail
          go_loopw [5, 7, 50] (fun s5 _ s50 wr => ∃ (k : Nat) (ys : List UInt8) (Ao : Option Addr) (co : Nat), s5 = .slice Ao ys.length co ∧ s50 = .int .i64 k ∧ k ≤ r.names.length ∧ Hid (ys = xs ++ ((mr.lists r.names).take k).flatMap mr.text)
            ∧ Hid (Own wr (w.heap.size + 1) 5 1 Ao ys.length co (ys.map u8v)) ∧ Hid (Below (w.heap.size + 1) w12 wr)) (fun _ _ s50 _ => r.names.length - (intOf s50).toNat)
          case atStart => exact ⟨0, xs, A12, c12, rfl, rfl, by omega, Lib.hid (by simp), HO12, Lib.hid (Below.refl _ _)⟩
          case round =>
            obtain ⟨k, ys, Ao, co, rfl, rfl, hk, HYS, HO, HW⟩ := hrel
            clear HO12
            rename_i wr
            by_cases hlt : k < r.names.length
            · obtain ⟨bn, on, rfl, hbn, hcn⟩ := str_at (HL12.out.keep (w' := wr) (S' := (· < w.heap.size)) (fun k hk => ⟨hk, HW.out.block k (by omega)⟩)) hlt
              obtain ⟨s, hs1, hs2⟩ := pa.of_strs hlt
              rw [hs2] at hcn
              have hmem : s ∈ mr.lists r.names := by rw [hs1]; exact List.mem_map.2 ⟨_, by rw [List.getD_eq_getElem?_getD, List.getElem?_eq_getElem hlt]; exact List.getElem_mem hlt, rfl⟩
              have hsl := mr.names_len HF.out s hmem
              have hll : k < (mr.lists r.names).length := by unfold mr.lists; rw [List.length_map]; exact hlt
              have HS : Hid (((mr.lists r.names).take (k + 1)).flatMap mr.text = ((mr.lists r.names).take k).flatMap mr.text ++ mr.text s) := Lib.hid (by
                rw [mr.flat_take mr.text [] hll]
                congr 2
                rw [hs1]
                exact pa.lists_at hlt)
              have hxl : ys.length ≤ 1048576 := by
                rw [HYS.out, HX.out, List.length_append]
                have h1 := mr.bytes_len HF.out (r.names.length : Int) mr.all7
                have h2 := mr.texts_len ((mr.lists r.names).take k) (fun s hs => mr.names_len HF.out s (List.mem_of_mem_take hs))
                rw [List.length_take] at h2
                have h3 : mr.all7.length = 7 := rfl
                omega
              clear hs1 hs2 hmem hbn hll
              have hz := HW.out.size
              go_wp2_with (first
                | (go_at_call 26; refine (ref_textOf s _ (by omega)).mono ?_; rintro e w5 ⟨A5, c5, rfl, ho5, hb5⟩; have HO5 := Lib.hid ho5; have HOO := Lib.hid (HO.out.next hb5); have HB5 := Lib.hid hb5; have hz5 := hb5.size; clear ho5 hb5)
                | (at_builtin; refine wp_app _ rfl _ _ _ rfl elemU8 (w.heap.size + 1) Ao ys.length co _ rfl HOO.out A5 (2 + s.length) c5 ((beBytes (s.length : Int) 2 ++ s).map u8v) rfl (by simp [mg.be_len]) HO5.out.cells (oneCell_u8 _) (by omega) (by unfold maxLen; omega) (by omega) ?_; intro A6 c6 w6 ho6 hg6; have HO6 := Lib.hid ho6; have HG6 := Lib.hid hg6; clear ho6 hg6)
                | fail)
              go_roundw
              case rel => exact ⟨k + 1, ys ++ mr.text s, A6, c6, by simp [mr.text, mg.be_len], by simp, by omega, Lib.hid (by rw [HS.out, HYS.out, List.append_assoc]), Lib.hid (by have h := HO6.out; rw [← List.map_append] at h; exact (by simp only [mr.text, List.length_append, mg.be_len]; exact h)), Lib.hid ((HW.out.trans (HB5.out.mono (by omega))).trans (HG6.out.below (by omega) (fun k hk => (HO.out.lt k hk).1)))⟩
              case measure => simp [intOf]; omega
            · obtain rfl : k = r.names.length := by omega
              have HX2 : Hid (mr.bytes r = ys) := Lib.hid (by
                unfold mr.bytes
                rw [HYS.out, HX.out, List.take_of_length_le (by unfold mr.lists; rw [List.length_map]; exact Nat.le_refl _)])
              go_wp2
              go_ret2
              exact BytesRes.yes (by rw [HE.out, HX2.out]) (HO.out.base_le (by omega)) (HB12.out.trans (HW.out.mono (by omega)))
  · obtain ⟨f, HF⟩ : ∃ f, Hid (mr.fault r = f) := ⟨_, Lib.hid rfl⟩
    have HE : Hid (mr.answer r = .error f) := Lib.hid (by unfold mr.answer; rw [if_pos hf, HF.out])
    have q1 : (f != 0) = true := bne_iff_ne.2 (by rw [← HF.out]; exact hf)
    rw [HF.out] at HFC
    clear hf
    unfold mr.vals
    go_enter Try.func14, Try.ntmps14
    go_wp2_with (first
      | (go_at_call 33; refine (HFC.out _ (by exact balloc (bself w) _)).mono ?_; rintro e w1 ⟨rfl, hb1⟩; have HB1 := Lib.hid (bnext (balloc (bself w) _) hb1); clear hb1)
      | fail)
    all_goals (go_ret2; exact BytesRes.no HE.out HB1.out)
end Go.Proofs.Ytcpbgiikfabaaaa
