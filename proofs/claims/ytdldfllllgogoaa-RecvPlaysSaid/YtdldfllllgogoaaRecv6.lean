/- Package recv: Do. No condition. -/
import Derived.Test.YtdldfllllgogoaaRecv5
namespace Go.Proofs.Ytdldfllllgogoaa
open Go.RowKit
set_option linter.unusedSimpArgs false

def TellRes (w : World) (B F : Nat) (room : Int) (l : List Rng) (r : Told × rv.St) (D M : Option Addr) (e : Ending) (w' : World) : Prop :=
  ∃ cs D1 dc1 M1 mc1, e = .returned (.agg cs.toArray) ∧ Told.rep.rep w' (fun k => w.heap.size ≤ k ∧ k < w'.heap.size ∧ ¬ HF F D1 M1 r.2.more k) r.1 cs ∧ HAt w' B F room r.2 D1 dc1 M1 mc1 ∧ Stays w w' (HF F D M l) ∧ ∀ k, HF F D1 M1 r.2.more k → HF F D M l k ∨ w.heap.size ≤ k
def rv.zt : Array Value := #[.int .i64 0, .int .i64 0, .int .i64 0, .slice none 0 0, .slice none 0 0, .bool false]
/-- behind the switch of Do -/
structure DoMid (w wx : World) (B F : Nat) (room : Int) (l : List Rng) (D M : Option Addr) (dt : List UInt8) (s' : rv.St) (D1 : Option Addr) (dc1 : Nat) (M1 : Option Addr) (mc1 : Nat) (E : Option Addr) (ec : Nat) (bx : Array Value) : Prop where
  lt : ∀ k, HF F D M l k → k < w.heap.size
  at_ : HAt wx B F room s' D1 dc1 M1 mc1
  box : BlkA wx (w.heap.size + 1 + 1) 41 bx
  res : BlkA wx (w.heap.size + 1) 41 #[.int .i64 0, .int .i64 0, .int .i64 0, .slice none 0 0, .slice none 0 0, .bool false]
  own : Own wx (w.heap.size + 1 + 1 + 1) 5 1 E dt.length ec (dt.map rv.u8v)
  far : ∀ k, blkOf E = some k → ¬ HF F D1 M1 s'.more k
  stay : Stays w wx (HF F D M l)
  nm : ∀ k, HF F D1 M1 s'.more k → HF F D M l k ∨ w.heap.size + 1 + 1 + 1 ≤ k

theorem DoMid.nohf {w wx : World} {B F : Nat} {room : Int} {l : List Rng} {D M : Option Addr} {dt : List UInt8} {s' : rv.St} {D1 : Option Addr} {dc1 : Nat} {M1 : Option Addr} {mc1 : Nat} {E : Option Addr} {ec : Nat} {bx : Array Value} (h : DoMid w wx B F room l D M dt s' D1 dc1 M1 mc1 E ec bx) {k : Nat} (hk : HF F D1 M1 s'.more k) : k ≠ w.heap.size + 1 + 1 ∧ k ≠ w.heap.size + 1 := by
  rcases h.nm k hk with e | e
  · have := h.lt k e; omega
  · omega
theorem DoMid.touch {w wx wy : World} {B F : Nat} {room : Int} {l : List Rng} {D M : Option Addr} {dt : List UInt8} {s' : rv.St} {D1 : Option Addr} {dc1 : Nat} {M1 : Option Addr} {mc1 : Nat} {E : Option Addr} {ec : Nat} {bx bx' : Array Value} (h : DoMid w wx B F room l D M dt s' D1 dc1 M1 mc1 E ec bx) (hs : Stays wx wy (fun k => k = w.heap.size + 1 + 1)) (hb : BlkA wy (w.heap.size + 1 + 1) 41 bx') : DoMid w wy B F room l D M dt s' D1 dc1 M1 mc1 E ec bx' :=
  ⟨h.lt, h.at_.stays hs (fun k hk e => (h.nohf hk).1 e), hb, h.res.stays hs (fun e => by omega), h.own.stays hs (fun k hk e => by have := (h.own.lt k hk).1; omega), h.far, h.stay.trans hs (fun k hk e => by omega), h.nm⟩
section
variable (B F : Nat) (room : Int) (s : rv.St) (D : Option Addr) (dc : Nat) (M : Option Addr) (mc : Nat) (a : Arrival) (G : Option Addr) (gc : Nat) (S : Nat → Prop) (w : World)
set_option maxRecDepth 100000 in
set_option maxHeartbeats 2000000 in
theorem recv_Do (h : HAt w B F room s D dc M mc) (hi : rv.Inv room s) (hr : 1 ≤ room ∧ room ≤ 4096) (hG : SlRep Rep.u8 w S a.data G gc) (hS : ∀ k, S k → k < w.heap.size ∧ ¬ HF F D M s.more k) (ha : IntOk a.from_) (hd : a.data.length ≤ 140737488351232) :
    Calls Try.prog 21 #[.pointer (some ⟨F, 0, none⟩), .agg #[.int .i64 a.kind, .int .i64 a.from_, .slice G a.data.length gc, .bool a.fin, .int .i64 a.count]] w (TellRes w B F room s.more (rv.doIt room s a) D M) := by
  obtain ⟨ak, af, ad, an, ac⟩ := a
  simp only at hG ha hd ⊢
  have H := Lib.hid h
  have HI := Lib.hid hi
  have hFl := h.blk.lt
  have HLT := Lib.hid (fun k => h.hf_lt (k := k))
  obtain ⟨ca, hca⟩ : ∃ ca : Array Value, ca = #[.int .i64 ak, .int .i64 af, .slice G ad.length gc, .bool an, .int .i64 ac] := ⟨_, rfl⟩
  obtain ⟨zt, hzt⟩ : ∃ zt : Array Value, zt = #[.int .i64 0, .int .i64 0, .int .i64 0, .slice none 0 0, .slice none 0 0, .bool false] := ⟨_, rfl⟩
  obtain ⟨w3, hw3⟩ : ∃ w3, w3 = ((w.alloc (.cells ca 73)).alloc (.cells zt 41)).alloc (.cells zt 41) := ⟨_, rfl⟩
  have hb3 : Below w.heap.size w w3 := by rw [hw3]; exact balloc (balloc (balloc (bself w) _) _) _
  have hs3 : w3.heap.size = w.heap.size + 1 + 1 + 1 := by rw [hw3]; simp
  have hA3 : BlkA w3 w.heap.size 73 ca := by rw [hw3]; exact ((BlkA.new w 73 _).alloc _).alloc _
  have hR3 : BlkA w3 (w.heap.size + 1) 41 zt := by
    rw [hw3]
    have h := (BlkA.new (w.alloc (.cells ca 73)) 41 zt).alloc (.cells zt 41)
    simpa using h
  have hT3 : BlkA w3 (w.heap.size + 1 + 1) 41 zt := by
    rw [hw3]
    have h := BlkA.new ((w.alloc (.cells ca 73)).alloc (.cells zt 41)) 41 zt
    simpa using h
  have h3 := h.next hb3
  have HARR := Lib.hid (recv_arrive B F room s D dc M mc ⟨ak, af, ad, an, ac⟩ G gc S w3 h3 hi hr (hG.keep fun k hk => ⟨hk, hb3.block k (hS k hk).1⟩) (fun k hk => ⟨Nat.lt_of_lt_of_le (hS k hk).1 hb3.size, (hS k hk).2⟩) ha hd)
  have HNO := Lib.hid (fun hc => recv_take_no B F room s D dc M mc ac w3 h3 hc)
  have HOK := Lib.hid (fun hc => recv_take_ok B F room s D dc M mc ac w3 h3 hi hc)
  subst hca hzt
  have HB3 := Lib.hid hb3
  have HS3 := Lib.hid hs3
  have HA3 := Lib.hid hA3
  have HR3 := Lib.hid hR3
  have HT3 := Lib.hid hT3
  have H3 := Lib.hid h3
  have HIN := Lib.hid (hi.step ⟨ak, af, ad, an, ac⟩)
  simp only at HARR
  have y0 := hA3.get 0
  have y1 := hA3.get 1
  have y2 := hA3.get 2
  have y3 := hA3.get 3
  have y4 := hA3.get 4
  simp only [List.getElem?_toArray, List.getElem?_cons_succ, List.getElem?_cons_zero] at y0 y1 y2 y3 y4
  clear h hi hG hS hA3 hR3 hT3 h3 hb3
  go_enter Try.func21, Try.ntmps21
  go_upto_region 3 with (fail)
  rw [← hw3]
  clear hw3
  go_upto_block 0 with (fail)
  go_cut [6] (fun s6 wx => ∃ c dt b s' D1 dc1 M1 mc1 E ec, s6 = .int .i64 (rv.lastOf ⟨ak, af, ad, an, ac⟩) ∧ Hid (rv.step room s ⟨ak, af, ad, an, ac⟩ = (⟨c, 0, 0, [], dt, b⟩, s')) ∧ Hid (DoMid w wx B F room s.more D M dt s' D1 dc1 M1 mc1 E ec #[.int .i64 c, .int .i64 0, .int .i64 0, .slice none 0 0, .slice E (List.length dt) ec, .bool b]))
  case first =>
    by_cases k1 : ak = 1
    · subst k1
      go_wp2_with (first
        | (go_at_call 39; ((with_reducible refine HARR.out.mono ?_); rintro e w4 ⟨D1, dc1, M1, mc1, rfl, q1, q2, q3⟩; have Q1 := Lib.hid q1; have Q2 := Lib.hid q2; have Q3 := Lib.hid q3; have z1 := HA3.out.stays q2 (fun e => absurd (HLT.out _ e).2 (Nat.lt_irrefl _)); have z2 := HT3.out.stays q2 (fun e => absurd (HLT.out _ e).2 (by omega)); have zc := z1.get; have zd := z2.get; have ze := z2.frozen; clear q1 q2 q3))
        | fail)
      go_meet
      refine ⟨(rv.arrive room s ⟨1, af, ad, an, ac⟩).1, [], false, (rv.arrive room s ⟨1, af, ad, an, ac⟩).2, D1, dc1, M1, mc1, none, 0, rfl, Lib.hid (by unfold rv.step; rw [if_pos rfl]), Lib.hid ?_⟩
      have hno : ¬ HF F D1 M1 (rv.arrive room s ⟨1, af, ad, an, ac⟩).2.more (w.heap.size + 1 + 1) := fun e => by
        rcases Q3.out _ e with e | e
        · have := (HLT.out _ e).2; omega
        · have := HS3.out; omega
      refine ⟨fun k hk => (HLT.out k hk).2, Q1.out.stays (Stays.set _ _ _ _) (fun k hk e => hno (e ▸ hk)), by simpa using z2.set 0 (.int .i64 (rv.arrive room s ⟨1, af, ad, an, ac⟩).1), ((HR3.out.stays Q2.out (fun e => absurd (HLT.out _ e).2 (by omega))).setCell (by simp) _), Own.nil _ _ _ _, (fun k hk => by cases hk), ((Stays.of_below HB3.out _).trans Q2.out (fun k hk e => e)).trans (Stays.set _ _ _ _) (fun k hk e => by omega), fun k hk => (Q3.out k hk).imp id (fun e => by have := HS3.out; omega)⟩
    · by_cases k2 : ak = 2
      · subst k2
        obtain ⟨c, dt, b, s', hst, hmo, hca⟩ : ∃ c dt b s', rv.step room s ⟨2, af, ad, an, ac⟩ = (⟨c, 0, 0, [], dt, b⟩, s') ∧ s'.more = s.more ∧ Calls Try.prog 40 #[.pointer (some ⟨F, 0, none⟩), .int .i64 ac] w3 (TakeRes w3 B F room s c dt b s' D dc M mc) := by
          by_cases hc : ac < 0 ∨ 4096 < ac
          · exact ⟨2, [], false, s, by unfold rv.step; rw [if_neg (by simp), if_pos rfl, if_pos hc], rfl, HNO.out hc⟩
          · exact ⟨0, _, _, { s with taken := s.taken + rv.takeOf s ac }, by unfold rv.step; rw [if_neg (by simp), if_pos rfl, if_neg hc], rfl, HOK.out (by omega)⟩
        have HCA := Lib.hid hca
        have HST := Lib.hid hst
        have HMO := Lib.hid hmo
        clear hst hmo hca HARR HOK HNO
        go_wp2_with (first
          | (go_at_call 40; ((with_reducible refine HCA.out.mono ?_); rintro e w4 ⟨E, ec, rfl, q0, q1, q2⟩; have Q0 := Lib.hid q0; have Q1 := Lib.hid q1; have Q2 := Lib.hid q2; have z2 := HT3.out.stays q2 (fun e => by omega); have zd := z2.get; have ze := z2.frozen; clear q0 q1 q2))
          | fail)
        go_meet
        have hlt1 := Q0.out.lt
        have hhf : ∀ k, HF F D M s'.more k → k < w.heap.size := fun k hk => (HLT.out k (by rw [HMO.out] at hk; exact hk)).2
        refine ⟨c, dt, b, s', D, dc, M, mc, E, ec, rfl, HST, Lib.hid ⟨fun k hk => (HLT.out k hk).2, Q1.out.stays (Stays.six _ _ _ _ _ _ _ _) (fun k hk e => by have := hhf k hk; omega), z2.six _ _ _ _ _ _, (HR3.out.stays Q2.out (fun e => by omega)).stays (Stays.six _ _ _ _ _ _ _ _) (fun e => by omega), ?_, (fun k hk e => by have := hhf k e; have := (hlt1 k hk).1; have := HS3.out; omega), ?_, fun k hk => .inl (by rw [HMO.out] at hk; exact hk)⟩⟩
        · have h := Q0.out.stays (Stays.six w4 (w.heap.size + 1 + 1) (.int .i64 c) (.int .i64 0) (.int .i64 0) (.slice none 0 0) (.slice E dt.length ec) (.bool b)) (fun k hk e => by have := (hlt1 k hk).1; have := HS3.out; omega)
          rw [HS3.out] at h
          exact h
        · exact (((Stays.of_below HB3.out _).trans (Q2.out.mono fun k _ e => .inl e) (fun k hk e => e))).trans (Stays.six _ _ _ _ _ _ _ _) (fun k hk e => by omega)
      · have k1' : (ak == 1) = false := by simpa using k1
        have k2' : (ak == 2) = false := by simpa using k2
        have hl : rv.lastOf ⟨ak, af, ad, an, ac⟩ = -1 := if_neg k1
        have HLA := Lib.hid hl
        have HST : Hid (rv.step room s ⟨ak, af, ad, an, ac⟩ = (⟨3, 0, 0, [], [], false⟩, s)) := Lib.hid (by unfold rv.step; rw [if_neg k1, if_neg k2])
        have zd := HT3.out.get
        have ze := HT3.out.frozen
        clear hl HARR HOK HNO
        go_wp2
        go_meet
        refine ⟨3, [], false, s, D, dc, M, mc, none, 0, by rw [HLA.out], HST, Lib.hid ⟨fun k hk => (HLT.out k hk).2, H3.out.stays (Stays.set _ _ _ _) (fun k hk e => by have := (HLT.out k hk).2; omega), by simpa using HT3.out.set 0 (.int .i64 3), HR3.out.setCell (by simp) _, Own.nil _ _ _ _, (fun k hk => by cases hk), (Stays.of_below HB3.out _).trans (Stays.set _ _ _ _) (fun k hk e => by omega), fun k hk => .inl hk⟩⟩
  case rest =>
    obtain ⟨c, dt, b, s', D1, dc1, M1, mc1, E, ec, rfl, HST, HM⟩ := hcut
    rename World => w5
    have hI2 := HIN.out
    rw [HST.out] at hI2
    simp only at hI2
    have HI2 := Lib.hid hI2
    have hlo := hI2.lo
    have htop := hI2.top
    clear HIN HARR HOK HNO hI2 y0 y1 y2 y3 y4
    have r0 := HM.out.at_.blk.get 0
    have r2 := HM.out.at_.blk.get 2
    have r3 := HM.out.at_.blk.get 3
    have r4 := HM.out.at_.blk.get 4
    have r5 := HM.out.at_.blk.get 5
    simp only [List.getElem?_toArray, List.getElem?_cons_succ, List.getElem?_cons_zero] at r0 r2 r3 r4 r5
    have hF5 := HM.out.at_.blk.lt
    have hT5 := HM.out.box.lt
    have hR5 := HM.out.res.lt
    have tc := HM.out.box.get
    have tf := HM.out.box.frozen
    have n1 : F ≠ w.heap.size + 1 + 1 := by omega
    have n2 : w.heap.size + 1 + 1 ≠ F := by omega
    obtain ⟨dn, hdn⟩ : ∃ dn, s'.done = dn := ⟨_, rfl⟩
    obtain ⟨tk, htk⟩ : ∃ tk, s'.taken = tk := ⟨_, rfl⟩
    obtain ⟨en, hen⟩ : ∃ en, s'.end_ = en := ⟨_, rfl⟩
    rw [hdn] at hlo htop r2
    rw [htk] at hlo r4
    rw [hen] at r5
    have HDN := Lib.hid hdn
    have HTK := Lib.hid htk
    have HEN := Lib.hid hen
    clear hdn htk hen
    have e1 : IntKind.i64.wrap (tk + room) = tk + room := IntWalk.i64_in _ (by omega)
    have e2 : IntKind.i64.wrap (tk + room - dn) = tk + room - dn := IntWalk.i64_in _ (by omega)
    go_upto_region 10 with (fail)
    go_cut [] (fun wx => Hid (DoMid w wx B F room s.more D M dt s' D1 dc1 M1 mc1 E ec #[.int .i64 c, .int .i64 dn, .int .i64 (tk + room - dn), .slice none 0 0, .slice E (List.length dt) ec, .bool b]))
    case first =>
      go_region_held3 (fun w' => w'.cell? ⟨F, 0, none⟩ = some (.int .i64 room) ∧ w'.cell? ⟨F, 2, none⟩ = some (.int .i64 dn) ∧ w'.cell? ⟨F, 4, none⟩ = some (.int .i64 tk)) ((first | (go_keep; done) | (refine ⟨?_, ?_, ?_⟩ <;> (simp [go_sem, *]; done)) | fail)) (fail)
      all_goals
        (try go_wp2)
        go_meet
        exact Lib.hid (HM.out.touch (((Stays.set _ _ _ _).comp (Stays.set _ _ _ _)).comp (Stays.of_below (Below.drew (bself _)) _)) (by simpa using ((HM.out.box.set 1 (.int .i64 dn)).set 2 (.int .i64 (tk + room - dn))).drew))
    case rest =>
      rename World => w6
      have HM6 := hcut
      clear hcut r0 r2 r3 r4 r5 tc tf hF5 hT5 hR5 e1 e2 HM
      obtain ⟨wd, hwd⟩ : ∃ wd, wd = tk + room - dn := ⟨_, rfl⟩
      rw [← hwd] at HM6
      have HWD := Lib.hid hwd
      clear hwd
      obtain ⟨ack, HAK⟩ : ∃ ack, Hid (ack = if dn = en then dn + 1 else dn) := ⟨_, Lib.hid rfl⟩
      have r2 := HM6.out.at_.blk.get 2
      have r5 := HM6.out.at_.blk.get 5
      simp only [List.getElem?_toArray, List.getElem?_cons_succ, List.getElem?_cons_zero] at r2 r5
      rw [HDN.out] at r2
      rw [HEN.out] at r5
      have hF5 := HM6.out.at_.blk.lt
      have hT5 := HM6.out.box.lt
      have hR5 := HM6.out.res.lt
      have tc := HM6.out.box.get
      have tf := HM6.out.box.frozen
      go_wp2
      go_quiet (fail)
      go_upto_if 52 with (fail)
      go_cut [] (fun wx => Hid (DoMid w wx B F room s.more D M dt s' D1 dc1 M1 mc1 E ec #[.int .i64 c, .int .i64 ack, .int .i64 wd, .slice none 0 0, .slice E (List.length dt) ec, .bool b]))
      case first =>
        by_cases he : dn = en
        · have hak : ack = dn + 1 := by rw [HAK.out, if_pos he]
          have he' : (dn == en) = true := by simpa using he
          have HAK2 := Lib.hid hak
          clear hak he
          go_wp2
          go_meet
          rw [HAK2.out]
          exact Lib.hid (HM6.out.touch ((Stays.of_below (bdrewN (bself _) _) _).comp (Stays.set _ _ _ _)) (by simpa using (HM6.out.box.drewN _).set 1 (.int .i64 (dn + 1))))
        · have hak : ack = dn := by rw [HAK.out, if_neg he]
          have he' : (dn == en) = false := by simpa using he
          have HAK2 := Lib.hid hak
          clear hak he
          go_wp2
          go_meet
          rw [HAK2.out]
          exact Lib.hid (HM6.out.touch (Stays.of_below (bdrewN (bself _) _) _) (HM6.out.box.drewN _))
      case rest =>
        rename World => w7
        have HM7 := hcut
        clear hcut r2 r5 tc tf hF5 hT5 hR5 HM6
        have r2 := HM7.out.at_.blk.get 2
        have r3 := HM7.out.at_.blk.get 3
        simp only [List.getElem?_toArray, List.getElem?_cons_succ, List.getElem?_cons_zero] at r2 r3
        rw [HDN.out] at r2
        have hF7 := HM7.out.at_.blk.lt
        have hT7 := HM7.out.box.lt
        have hR7 := HM7.out.res.lt
        have HSK := Lib.hid (fun wz (hb : Below w7.heap.size w7 wz) => show Calls Try.prog 41 #[.int .i64 dn, .slice M1 s'.more.length mc1, .int .i64 (rv.lastOf ⟨ak, af, ad, an, ac⟩), .int .i64 3] wz (fun e w' => ∃ A c, e = .returned (.tuple #[.slice A (sacks (rv.lastOf ⟨ak, af, ad, an, ac⟩) 3 s'.more).length c, .int .i64 0]) ∧ SlRep Rng.rep w' (fun k => wz.heap.size ≤ k ∧ k < w'.heap.size) (sacks (rv.lastOf ⟨ak, af, ad, an, ac⟩) 3 s'.more) A c ∧ Below wz.heap.size wz w') from by
          have h := hole_Sacks_res s'.done s'.more (rv.lastOf ⟨ak, af, ad, an, ac⟩) 3 M1 mc1 wz ((HM7.out.at_.next hb).moreLt) (by have := HI2.out.few; omega)
          rw [rv.sack_of HI2.out, HDN.out] at h
          exact h)
        have HFIN : Hid (∀ A cA wx w8, Below w7.heap.size w7 w8 → SlRep Rng.rep w8 (fun k => w7.heap.size ≤ k ∧ k < w8.heap.size) (sacks (rv.lastOf ⟨ak, af, ad, an, ac⟩) 3 s'.more) A cA → Stays w8 wx (fun k => k = w.heap.size + 1 + 1 ∨ k = w.heap.size + 1) → TellRes w B F room s.more (rv.doIt room s ⟨ak, af, ad, an, ac⟩) D M (.returned (.agg #[.int .i64 c, .int .i64 ack, .int .i64 wd, .slice A (sacks (rv.lastOf ⟨ak, af, ad, an, ac⟩) 3 s'.more).length cA, .slice E dt.length ec, .bool b])) wx) := Lib.hid (fun A cA wx w8 hb8 hA hs => by
          unfold rv.doIt
          rw [HST.out]
          simp only
          rw [HDN.out, HTK.out, HEN.out, ← HAK.out, ← HWD.out]
          have hlt := HM7.out.own.lt
          refine ⟨[.int .i64 c, .int .i64 ack, .int .i64 wd, .slice A (sacks (rv.lastOf ⟨ak, af, ad, an, ac⟩) 3 s'.more).length cA, .slice E dt.length ec, .bool b], D1, dc1, M1, mc1, rfl, Told.rep_iff.2 ⟨A, cA, E, ec, rfl, ?_, ?_⟩, (HM7.out.at_.next hb8).stays hs (fun k hk e => ?_), ?_, fun k hk => (HM7.out.nm k hk).imp id (fun e => by omega)⟩
          · refine hA.keep fun k hk => ⟨⟨by omega, Nat.lt_of_lt_of_le hk.2 hs.size, fun e => ?_⟩, hs.block k hk.2 (fun e => by omega)⟩
            have := (HM7.out.at_.hf_lt e).2
            omega
          · have hd := ((HM7.out.own.next hb8).stays hs (fun k hk e => by have := (hlt k hk).1; omega))
            refine ((Own.u8 hd).2.tight flat_u8).keep fun k hk => ⟨⟨by have := (hlt k hk).1; omega, (hd.lt k hk).2, HM7.out.far k hk⟩, rfl⟩
          · have h2 := HM7.out.nohf hk
            rcases e with e | e
            · exact h2.1 e
            · exact h2.2 e
          · exact (HM7.out.stay.comp (Stays.of_below hb8 _)).trans hs (fun k hk e => by omega))
        go_wp2_with fail
        go_region_held3 (fun w' => w'.cell? ⟨F, 2, none⟩ = some (.int .i64 dn) ∧ w'.cell? ⟨F, 3, none⟩ = some (.slice M1 s'.more.length mc1)) ((first | (go_keep; done) | (refine ⟨?_, ?_⟩ <;> (simp [go_sem, *]; done)) | fail))
          (first
            | (go_at_call 41; refine (HSK.out _ (by exact (by repeat (first | (with_reducible exact Below.refl _ _) | (with_reducible assumption) | (with_reducible refine bset ?_ ?_ _) | (with_reducible refine balloc ?_ _) | (with_reducible refine Below.drew ?_) | (with_reducible refine bdrewN ?_ _) | (with_reducible refine bnext ?_ (by with_reducible assumption)) | exact Nat.le_refl _ | (simp; done) | omega | (simp; omega))))).mono ?_; rintro e w8 ⟨A8, c8, rfl, hA8, hb8⟩; have B8 : Below w7.heap.size w7 w8 := (by repeat (first | (with_reducible exact Below.refl _ _) | (with_reducible assumption) | (with_reducible refine bset ?_ ?_ _) | (with_reducible refine balloc ?_ _) | (with_reducible refine Below.drew ?_) | (with_reducible refine bdrewN ?_ _) | (with_reducible refine bnext ?_ (by with_reducible assumption)) | exact Nat.le_refl _ | (simp; done) | omega | (simp; omega))); have x2 := (B8.cell (p := ⟨F, 2, none⟩) hF7).trans r2; have x3 := (B8.cell (p := ⟨F, 3, none⟩) hF7).trans r3; have b8 := HM7.out.box.next B8; have tc := b8.get; have tf := b8.frozen; have b9 := HM7.out.res.next B8; have uc := b9.get; have uf := b9.frozen; have S8 := Lib.hid hA8; clear hA8 hb8 b8 b9)
            | fail)
        all_goals
          go_wp2
          refine bodyPost_ret (v := .agg #[.int .i64 c, .int .i64 ack, .int .i64 wd, .slice A8 (sacks (rv.lastOf ⟨ak, af, ad, an, ac⟩) 3 s'.more).length c8, .slice E dt.length ec, .bool b]) (by simp [results, Try.results21, go_sem, *]) rfl (HFIN.out _ _ _ w8 B8 (S8.out.within fun k hk => ⟨Nat.le_trans (by first | exact Nat.le_refl _ | (simp; done) | (simp; omega)) hk.1, hk.2⟩) ?_)
          exact ((Stays.set _ _ _ _).mono fun k _ hk => .inl hk).comp ((Stays.six _ _ _ _ _ _ _ _).mono fun k _ hk => .inr hk)
end
end Go.Proofs.Ytdldfllllgogoaa
