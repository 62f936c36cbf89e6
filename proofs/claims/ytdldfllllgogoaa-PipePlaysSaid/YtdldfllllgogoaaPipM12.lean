/- Texts in one: SegD3, Str, SegD4, SegD5, Pipe5, PipeR3. No condition. -/
import Derived.Test.YtdldfllllgogoaaPipM11
import Derived.Deep.RegionLaw
import Derived.Test.YtdldfllllgogoaaPipM1
import Derived.Laws.BytesArg
import Derived.Deep.DeepCutAuto
namespace Go.Proofs.Ytdldfllllgogoaa
open Go.RowKit
theorem blank_cells {w:World} {base:Nat} {A:Option Addr} {n c:Nat} {b:List UInt8} (h10:10≤b.length) (h:Own w base 5 1 A n c (b.map u8v)) :
  ∃ g v8 v9,A=some ⟨g,0,none⟩∧base≤g∧w.cell? ⟨g,8,none⟩=some v8∧w.cell? ⟨g,9,none⟩=some v9∧(∀ o,w.frozen? ⟨g,o,none⟩=false)∧g<w.heap.size:=by
 obtain ⟨g,e,hb,hg,hc⟩:=h.cell (j:=8) (u:=u8v (b[8]'(by omega))) (by rw [List.getElem?_map,List.getElem?_eq_getElem (by omega)];rfl)
 obtain ⟨g',e',_,_,hc'⟩:=h.cell (j:=9) (u:=u8v (b[9]'(by omega))) (by rw [List.getElem?_map,List.getElem?_eq_getElem (by omega)];rfl)
 subst e
 simp only [Option.some.injEq,Addr.mk.injEq,and_true] at e'
 subst e'
 exact ⟨g,_,_,rfl,hb,hc,hc',h.frozen_,hg⟩
theorem blank_own {w:World} {base g n c:Nat} {b:List UInt8} (h:Own w base 5 1 (some ⟨g,0,none⟩) n c (b.map u8v)) :
  Own ((w.setCell ⟨g,8,none⟩ (.int .u8 0)).setCell ⟨g,9,none⟩ (.int .u8 0)) base 5 1 (some ⟨g,0,none⟩) n c ((sg.blank b).map u8v):=by
 have h2:=(h.set (j:=8) (.int .u8 0)).set (j:=9) (.int .u8 0)
 rw [sg.blank,List.map_set,List.map_set]
 exact h2
theorem blank_length (b:List UInt8):(sg.blank b).length=b.length:=by simp [sg.blank]
set_option maxRecDepth 100000 in
set_option maxHeartbeats 2000000 in
theorem seg_Decode_sum (b:List UInt8) (A:Option Addr) (c:Nat) (w:World) (hl:SlRep Rep.u8 w (· < w.heap.size) b A c) (hn:b.length≤140737488351232) (h10:10≤b.length) (hs:sg.sumOf (sg.blank b)≠sg.w16 b 8) :
  Calls Try.prog 101 #[.slice A b.length c] w (SegRes (.error 6) w):=by
 have HL:=Lib.hid hl
 have HCL:=Lib.hid (fun w' (hb:Below w.heap.size w w')=>clone_u8 b.length A c (b.map u8v) w' (by simp) (fun w'' hb''=>(hl.below (bnext hb hb'')).cells_u8) (oneCell_u8 _) hn)
 have h10':¬ ((b.length:Int)<10):=by omega
 have h8':(8:Int)<(b.length:Int):=by omega
 have h9':(9:Int)<(b.length:Int):=by omega
 clear hl
 go_enter Try.func101,Try.ntmps101
 go_wp2_with (go_at_call 36;refine (HCL.out _ (by repeat (first | (with_reducible first | exact Below.refl _ _ | assumption | refine bset ?_ ?_ _ | refine balloc ?_ _ | refine Below.drew ?_ | refine bdrewN ?_ _ | refine bnext ?_ (by with_reducible assumption)) | exact Nat.le_refl _ | (simp;done) | omega | (simp;omega)))).mono ?_;rintro e w3 ⟨A3,c3,rfl,ho3,hb3⟩;obtain ⟨g,v8,v9,rfl,hg,z8,z9,hzf,hzl⟩:=blank_cells h10 ho3;have HO3:=Lib.hid ho3;clear ho3;have B3:Below w.heap.size w w3:=(by repeat (first | (with_reducible first | exact Below.refl _ _ | assumption | refine bset ?_ ?_ _ | refine balloc ?_ _ | refine Below.drew ?_ | refine bdrewN ?_ _ | refine bnext ?_ (by with_reducible assumption)) | exact Nat.le_refl _ | (simp;done) | omega | (simp;omega)));have ha3:∀ b o,b<w.heap.size→w3.cell? ⟨b,o,none⟩=w.cell? ⟨b,o,none⟩:=fun b o h=>B3.cell (p:=⟨b,o,none⟩) h;have hk3:∀ k,k<w.heap.size→k<w3.heap.size:=fun _ h=>Nat.lt_of_lt_of_le h B3.size;have hz3:=hb3.size;(try simp at hz3);have hl3_w0:w.heap.size<w3.heap.size:=Nat.lt_of_lt_of_le (by first | (simp;done) | (simp;omega) | omega) hb3.size;have hc3_w0:=fun o=>hb3.cell (p:=⟨w.heap.size,o,none⟩) (by first | (simp;done) | (simp;omega) | omega);have hf3_w0:=fun o=>hb3.frozen (p:=⟨w.heap.size,o,none⟩) (by first | (simp;done) | (simp;omega) | omega);(try simp [go_sem, *] at hc3_w0);(try simp [go_sem, *] at hf3_w0);have hl3_w1:w.heap.size+1<w3.heap.size:=Nat.lt_of_lt_of_le (by first | (simp;done) | (simp;omega) | omega) hb3.size;have hc3_w1:=fun o=>hb3.cell (p:=⟨w.heap.size+1,o,none⟩) (by first | (simp;done) | (simp;omega) | omega);have hf3_w1:=fun o=>hb3.frozen (p:=⟨w.heap.size+1,o,none⟩) (by first | (simp;done) | (simp;omega) | omega);(try simp [go_sem, *] at hc3_w1);(try simp [go_sem, *] at hf3_w1);clear hb3)
 simp only [World.size_alloc] at hg
 have hg0:w.heap.size≠g:=by omega
 have hg1:w.heap.size+1≠g:=by omega
 have hb34:Below (w.heap.size+1+1) w3 ((w3.setCell ⟨g,8,none⟩ (.int .u8 0)).setCell ⟨g,9,none⟩ (.int .u8 0)):=((Below.refl _ w3).setCell (p:=⟨g,8,none⟩) (by show w.heap.size+1+1≤g;omega) _).setCell (p:=⟨g,9,none⟩) (by show w.heap.size+1+1≤g;omega) _
 have hx4:((w3.setCell ⟨g,8,none⟩ (.int .u8 0)).setCell ⟨g,9,none⟩ (.int .u8 0)).cell? ⟨w.heap.size,0,none⟩=some (.slice A b.length c):=(hb34.cell (p:=⟨w.heap.size,0,none⟩) (by show w.heap.size<_;omega)).trans (hc3_w0 0)
 have hR4:SegAt ((w3.setCell ⟨g,8,none⟩ (.int .u8 0)).setCell ⟨g,9,none⟩ (.int .u8 0)) (w.heap.size+1) sg.noSeg none 0 none 0:=
  SegAt.below ⟨hl3_w1,hc3_w1 0,hc3_w1 1,hc3_w1 2,hc3_w1 3,hc3_w1 4,hc3_w1 5,hc3_w1 6,hc3_w1 7,hc3_w1 8⟩ hb34 (by omega)
 have hf4:=fun o=>(hb34.frozen (p:=⟨w.heap.size+1,o,none⟩) (by show w.heap.size+1<_;omega)).trans (hf3_w1 o)
 have hO4:=blank_own HO3.out
 have hB4:Below w.heap.size w ((w3.setCell ⟨g,8,none⟩ (.int .u8 0)).setCell ⟨g,9,none⟩ (.int .u8 0)):=(B3.setCell (p:=⟨g,8,none⟩) (by show w.heap.size≤g;omega) _).setCell (p:=⟨g,9,none⟩) (by show w.heap.size≤g;omega) _
 have hz4:w.heap.size+1+1≤((w3.setCell ⟨g,8,none⟩ (.int .u8 0)).setCell ⟨g,9,none⟩ (.int .u8 0)).heap.size:=by simpa [World.setCell] using hz3
 generalize (w3.setCell ⟨g,8,none⟩ (.int .u8 0)).setCell ⟨g,9,none⟩ (.int .u8 0)=w4 at *
 clear hc3_w0 hc3_w1 hf3_w0 hf3_w1 hl3_w0 hl3_w1 ha3 hk3 hz3 B3 z8 z9 hzf hzl HO3
 have hsum:Calls Try.prog 112 #[.slice (some ⟨g,0,none⟩) b.length c3] w4 fun e w'=>e=.returned (.int .i64 (sg.sumOf (sg.blank b)))∧w4=w':=by
  have h:=inet_Sum (sg.blank b) (some ⟨g,0,none⟩) c3 _ w4 hO4.u8.2 (by rw [blank_length];exact hn)
  rw [show b.length=(sg.blank b).length from (blank_length b).symm]
  exact h
 have hq:(sg.sumOf (sg.blank b) == sg.w16 b 8)=false:=by rw [beq_eq_false_iff_ne];exact hs
 have HWD:=Lib.hid (seg_word b A c w.heap.size _ w4 hx4 (HL.out.below hB4) 8 8 rfl (by omega) hn)
 have HS:=Lib.hid hsum
 clear hsum hO4 hs
 generalize sg.sumOf (sg.blank b)=x at *
 generalize sg.w16 b 8=y at *
 obtain ⟨r0,r1,r2,r3,r4,r5,r6,r7,r8,r9⟩:=hR4
 simp only [sg.noSeg,List.length_nil] at r1 r2 r3 r4 r5 r6 r7 r8 r9
 refine HS.out.mono ?_
 rintro e w5 ⟨rfl,rfl⟩
 go_wp2_with (go_at_call 113;refine HWD.out.mono ?_;rintro e w6 ⟨rfl,m,rfl⟩)
 (try simp only [Exit.inBlock,Exit.then])
 refine bodyPost_ret (v:=.tuple #[.agg #[.int .i64 0,.int .i64 0,.int .i64 0,.bool false,.bool false,.bool false,.bool false,.slice none 0 0,.slice none 0 0],.int .i64 6]) (by simp [results,Try.results101,go_sem,r1,r2,r3,r4,r5,r6,r7,r8,r9]) rfl ?_
 exact SegRes.no rfl (by repeat (first | (with_reducible first | exact Below.refl _ _ | assumption | refine bset ?_ ?_ _ | refine balloc ?_ _ | refine Below.drew ?_ | refine bdrewN ?_ _ | refine bnext ?_ (by with_reducible assumption)) | exact Nat.le_refl _ | (simp;done) | omega | (simp;omega)))
set_option maxRecDepth 100000 in
set_option maxHeartbeats 20000000 in
theorem seg_Decode_long (b : List UInt8) (A : Option Addr) (c : Nat) (w : World) (hl : SlRep Rep.u8 w (· < w.heap.size) b A c) (hn : b.length ≤ 140737488351232) (h10 : 10 ≤ b.length) (hs : sg.sumOf (sg.blank b) = sg.w16 b 8) :
    Calls Try.prog 101 #[.slice A b.length c] w (SegRes (sg.dec b) w) := by
  have HL := Lib.hid hl
  have HCL := Lib.hid (fun w' (hb : Below w.heap.size w w') => clone_u8 b.length A c (b.map u8v) w' (by simp) (fun w'' hb'' => (hl.below (bnext hb hb'')).cells_u8) (oneCell_u8 _) hn)
  have HDEC : Hid (sg.dec b = if 16 ≤ sg.byteAt b 6 ∨ b.length < 10 + 4 * sg.count b then .error 4 else if sg.fault (sg.segOf b) ≠ 0 then .error 4 else .ok (sg.segOf b)) := Lib.hid (by
    unfold sg.dec
    rw [if_neg (by omega), if_neg (fun e => e hs)])
  have h10' : ¬ ((b.length : Int) < 10) := by omega
  have h8' : (8 : Int) < (b.length : Int) := by omega
  have h9' : (9 : Int) < (b.length : Int) := by omega
  clear hl
  go_enter Try.func101, Try.ntmps101
  go_wp2_with (go_at_call 36; refine (HCL.out _ (by repeat (first | (with_reducible first | exact Below.refl _ _ | assumption | refine bset ?_ ?_ _ | refine balloc ?_ _ | refine Below.drew ?_ | refine bdrewN ?_ _ | refine bnext ?_ (by with_reducible assumption)) | exact Nat.le_refl _ | (simp; done) | omega | (simp; omega)))).mono ?_; rintro e w3 ⟨A3, c3, rfl, ho3, hb3⟩; obtain ⟨g, v8, v9, rfl, hg, z8, z9, hzf, hzl⟩ := blank_cells h10 ho3; have HO3 := Lib.hid ho3; clear ho3; have B3 : Below w.heap.size w w3 := (by repeat (first | (with_reducible first | exact Below.refl _ _ | assumption | refine bset ?_ ?_ _ | refine balloc ?_ _ | refine Below.drew ?_ | refine bdrewN ?_ _ | refine bnext ?_ (by with_reducible assumption)) | exact Nat.le_refl _ | (simp; done) | omega | (simp; omega))); have ha3 : ∀ b o, b < w.heap.size → w3.cell? ⟨b, o, none⟩ = w.cell? ⟨b, o, none⟩ := fun b o h => B3.cell (p := ⟨b, o, none⟩) h; have hk3 : ∀ k, k < w.heap.size → k < w3.heap.size := fun _ h => Nat.lt_of_lt_of_le h B3.size; have hz3 := hb3.size; (try simp at hz3); have hl3_w0 : w.heap.size < w3.heap.size := Nat.lt_of_lt_of_le (by first | (simp; done) | (simp; omega) | omega) hb3.size; have hc3_w0 := fun o => hb3.cell (p := ⟨w.heap.size, o, none⟩) (by first | (simp; done) | (simp; omega) | omega); have hf3_w0 := fun o => hb3.frozen (p := ⟨w.heap.size, o, none⟩) (by first | (simp; done) | (simp; omega) | omega); (try simp [go_sem, *] at hc3_w0); (try simp [go_sem, *] at hf3_w0); have hl3_w1 : w.heap.size + 1 < w3.heap.size := Nat.lt_of_lt_of_le (by first | (simp; done) | (simp; omega) | omega) hb3.size; have hc3_w1 := fun o => hb3.cell (p := ⟨w.heap.size + 1, o, none⟩) (by first | (simp; done) | (simp; omega) | omega); have hf3_w1 := fun o => hb3.frozen (p := ⟨w.heap.size + 1, o, none⟩) (by first | (simp; done) | (simp; omega) | omega); (try simp [go_sem, *] at hc3_w1); (try simp [go_sem, *] at hf3_w1); clear hb3)
  simp only [World.size_alloc] at hg
  have hg0 : w.heap.size ≠ g := by omega
  have hg1 : w.heap.size + 1 ≠ g := by omega
  have hb34 : Below (w.heap.size + 1 + 1) w3 ((w3.setCell ⟨g, 8, none⟩ (.int .u8 0)).setCell ⟨g, 9, none⟩ (.int .u8 0)) := ((Below.refl _ w3).setCell (p := ⟨g, 8, none⟩) (by show w.heap.size + 1 + 1 ≤ g; omega) _).setCell (p := ⟨g, 9, none⟩) (by show w.heap.size + 1 + 1 ≤ g; omega) _
  have hx4 : ((w3.setCell ⟨g, 8, none⟩ (.int .u8 0)).setCell ⟨g, 9, none⟩ (.int .u8 0)).cell? ⟨w.heap.size, 0, none⟩ = some (.slice A b.length c) := (hb34.cell (p := ⟨w.heap.size, 0, none⟩) (by show w.heap.size < _; omega)).trans (hc3_w0 0)
  have hR4 : SegAt ((w3.setCell ⟨g, 8, none⟩ (.int .u8 0)).setCell ⟨g, 9, none⟩ (.int .u8 0)) (w.heap.size + 1) sg.noSeg none 0 none 0 :=
    SegAt.below ⟨hl3_w1, hc3_w1 0, hc3_w1 1, hc3_w1 2, hc3_w1 3, hc3_w1 4, hc3_w1 5, hc3_w1 6, hc3_w1 7, hc3_w1 8⟩ hb34 (by omega)
  have hf4 := fun o => (hb34.frozen (p := ⟨w.heap.size + 1, o, none⟩) (by show w.heap.size + 1 < _; omega)).trans (hf3_w1 o)
  have hO4 := blank_own HO3.out
  have hB4 : Below w.heap.size w ((w3.setCell ⟨g, 8, none⟩ (.int .u8 0)).setCell ⟨g, 9, none⟩ (.int .u8 0)) := (B3.setCell (p := ⟨g, 8, none⟩) (by show w.heap.size ≤ g; omega) _).setCell (p := ⟨g, 9, none⟩) (by show w.heap.size ≤ g; omega) _
  have hz4 : w.heap.size + 1 + 1 ≤ ((w3.setCell ⟨g, 8, none⟩ (.int .u8 0)).setCell ⟨g, 9, none⟩ (.int .u8 0)).heap.size := by simpa [World.setCell] using hz3
  generalize (w3.setCell ⟨g, 8, none⟩ (.int .u8 0)).setCell ⟨g, 9, none⟩ (.int .u8 0) = w4 at *
  clear hc3_w0 hc3_w1 hf3_w0 hf3_w1 hl3_w0 hl3_w1 ha3 hk3 hz3 B3 z8 z9 hzf hzl HO3
  have hsum : Calls Try.prog 112 #[.slice (some ⟨g, 0, none⟩) b.length c3] w4 fun e w' => e = .returned (.int .i64 (sg.sumOf (sg.blank b))) ∧ w4 = w' := by
    have h := inet_Sum (sg.blank b) (some ⟨g, 0, none⟩) c3 _ w4 hO4.u8.2 (by rw [blank_length]; exact hn)
    rw [show b.length = (sg.blank b).length from (blank_length b).symm]
    exact h
  rw [hs] at hsum
  have HW0 := Lib.hid (fun i j (hj : j = ((i : Nat) : Int)) hi => seg_word b A c w.heap.size _ w4 hx4 (HL.out.below hB4) i j hj hi hn)
  have HWD : Hid (∀ m i j, j = ((i : Nat) : Int) → i + 1 < b.length → Calls Try.prog 113 #[.int .i64 j, .pointer (some ⟨w.heap.size, 0, none⟩)] (w4.drewN m) fun e w' => e = .returned (.int .i64 (sg.w16 b i)) ∧ ∃ m', w' = w4.drewN m') :=
    Lib.hid (fun m i j hj hi => (seg_word b A c w.heap.size _ (w4.drewN m) hx4 (HL.out.below (bdrewN hB4 m)) i j hj hi hn).mono fun e w' ⟨h1, m', h2⟩ => ⟨h1, m + m', by rw [h2, World.drewN_drewN]⟩)
  have HS := Lib.hid hsum
  have W0 := sg.w16_bd b 0
  clear hsum hO4 hs
  refine HS.out.mono ?_
  rintro e w5 ⟨rfl, rfl⟩
  clear HS
  go_wp2_with (go_at_call 113; (first
                  | (with_reducible refine (HW0.out 8 8 (by omega) (by omega)).mono ?_; rintro e w6 ⟨rfl, m, rfl⟩)
                  | (with_reducible refine (HWD.out m 0 0 (by omega) (by omega)).mono ?_; rintro e w6 ⟨rfl, m, rfl⟩)
                  | (with_reducible refine (HWD.out m 2 2 (by omega) (by omega)).mono ?_; rintro e w6 ⟨rfl, m, rfl⟩)
                  | fail))
  refine (HWD.out _ 4 4 (by omega) (by omega)).mono ?_
  rintro e w6 ⟨rfl, m6, hw6⟩
  have hx6 : w6.cell? ⟨w.heap.size, 0, none⟩ = some (.slice A b.length c) := by rw [hw6]; exact hx4
  have hR6 : SegAt w6 (w.heap.size + 1) sg.noSeg none 0 none 0 := by rw [hw6]; exact hR4
  have hf6 : ∀ o, w6.frozen? ⟨w.heap.size + 1, o, none⟩ = false := by rw [hw6]; exact hf4
  have hB6 : Below w.heap.size w w6 := by rw [hw6]; exact bdrewN hB4 m6
  have hz6 : w.heap.size + 1 + 1 ≤ w6.heap.size := by rw [hw6]; exact hz4
  clear hw6 hx4 hR4 hf4 hB4 hz4 HW0 HWD hb34
  have hl6 : w6.heap.size < (w6.alloc (.cells #[.int .i64 (sg.w16 b 0), .int .i64 (sg.w16 b 2), .int .i64 (sg.w16 b 4), .bool false, .bool false, .bool false, .bool false, .slice none 0 0, .slice none 0 0] 134)).heap.size := by simp
  go_wp2_with fail
  have hcx := segAt_alloc w6 (sg.part b 0) none none 0 0
  have hD7 : DecAt w (w6.alloc (.cells #[.int .i64 (sg.w16 b 0), .int .i64 (sg.w16 b 2), .int .i64 (sg.w16 b 4), .bool false, .bool false, .bool false, .bool false, .slice none 0 0, .slice none 0 0] 134)) w6.heap.size A b.length c (sg.part b 0) none 0 none 0 :=
    have hb : Below w6.heap.size w6 (w6.alloc (.cells #[.int .i64 (sg.w16 b 0), .int .i64 (sg.w16 b 2), .int .i64 (sg.w16 b 4), .bool false, .bool false, .bool false, .bool false, .slice none 0 0, .slice none 0 0] 134)) := balloc (bself w6) _
    ⟨(hb.cell (p := ⟨w.heap.size, 0, none⟩) (by show w.heap.size < w6.heap.size; omega)).trans hx6, hR6.below hb (by omega), fun o => (hb.frozen (p := ⟨w.heap.size + 1, o, none⟩) (by show w.heap.size + 1 < w6.heap.size; omega)).trans (hf6 o), hcx, fun o => by simp [go_sem], by omega, bnext hB6 hb⟩
  have HD7 := Lib.hid hD7
  clear hD7 hcx hx6 hR6 hf6
  generalize w6.alloc (.cells #[.int .i64 (sg.w16 b 0), .int .i64 (sg.w16 b 2), .int .i64 (sg.w16 b 4), .bool false, .bool false, .bool false, .bool false, .slice none 0 0, .slice none 0 0] 134) = w7 at *
  generalize w6.heap.size = G at *
  refine (seg_flags G w7 hl6).mono ?_
  rintro e w8 ⟨rfl, hb8⟩
  have HD8 := Lib.hid (HD7.out.next hb8 hl6)
  have hz8 : G < w8.heap.size := Nat.lt_of_lt_of_le hl6 hb8.size
  clear HD7 hb8
  have hx := sg.byteAt_bd b 6
  go_wp2_with fail
  go_loopw [7, 8, 36] (fun _ _ i wr => ∃ k : Nat, k ≤ 4 ∧ i = .int .i64 k ∧ Hid (DecAt w wr G A b.length c (sg.part b k) none 0 none 0) ∧ G < wr.heap.size) (fun _ _ i _ => 4 - (intOf i).toNat)
  case atStart => exact ⟨0, by omega, rfl, HD8, hz8⟩
  case round =>
    obtain ⟨k, hk, rfl, HD, hzr⟩ := hrel
    rename World => wr
    have i0 := flags_at0 G
    have i1 := flags_at1 G
    have i2 := flags_at2 G
    have i3 := flags_at3 G
    have x0 := HD.out.box
    have x1 := HD.out.sfz
    obtain ⟨_, y0, y1, y2, y3, y4, y5, y6, y7, y8⟩ := HD.out.seg
    obtain ⟨bb, oo, rfl, _, hc6⟩ := u8_at (HL.out.below HD.out.below) (show 6 < b.length by omega)
    change _ = some (Value.int .u8 (sg.byteAt b 6)) at hc6
    have h6' : (6 : Int) < (b.length : Int) := by omega
    have a0 := sg.u8_and_1 (sg.byteAt b 6) (by omega)
    have a1 := sg.u8_and_1 (sg.byteAt b 6 / 2) (by omega)
    have a2 := sg.u8_and_1 (sg.byteAt b 6 / 4) (by omega)
    have a3 := sg.u8_and_1 (sg.byteAt b 6 / 8) (by omega)
    rcases (show k = 0 ∨ k = 1 ∨ k = 2 ∨ k = 3 ∨ k = 4 by omega) with rfl | rfl | rfl | rfl | rfl
    · go_wp2
      go_roundw
      case rel => exact ⟨1, by omega, rfl, Lib.hid (HD.out.put 3 _ (by decide) (by simp [segCells, sg.part, sg.flagAt]; try rfl)), by simpa [World.setCell] using hzr⟩
      case measure => simp [intOf]
    · go_wp2
      go_roundw
      case rel => exact ⟨2, by omega, rfl, Lib.hid (HD.out.put 4 _ (by decide) (by simp [segCells, sg.part, sg.flagAt]; try rfl)), by simpa [World.setCell] using hzr⟩
      case measure => simp [intOf]
    · go_wp2
      go_roundw
      case rel => exact ⟨3, by omega, rfl, Lib.hid (HD.out.put 5 _ (by decide) (by simp [segCells, sg.part, sg.flagAt]; try rfl)), by simpa [World.setCell] using hzr⟩
      case measure => simp [intOf]
    · go_wp2
      go_roundw
      case rel => exact ⟨4, by omega, rfl, Lib.hid (HD.out.put 6 _ (by decide) (by simp [segCells, sg.part, sg.flagAt]; try rfl)), by simpa [World.setCell] using hzr⟩
      case measure => simp [intOf]
    · obtain ⟨b', o', he, _, hc7⟩ := u8_at (HL.out.below HD.out.below) (show 7 < b.length by omega)
      simp only [Option.some.injEq, Addr.mk.injEq, and_true] at he
      obtain ⟨rfl, rfl⟩ := he
      change _ = some (Value.int .u8 ((sg.count b : Nat) : Int)) at hc7
      have hcb : sg.count b < 256 := (b.getD 7 0).toNat_lt
      have h7' : (7 : Int) < (b.length : Int) := by omega
      obtain ⟨_, r1, r2, r3, r4, r5, r6, r7, r8, r9⟩ := HD.out.res
      simp only [sg.noSeg, List.length_nil] at r1 r2 r3 r4 r5 r6 r7 r8 r9
      have rf := HD.out.rfz
      have hBw := HD.out.below
      by_cases hA : 16 ≤ sg.byteAt b 6
      · have hd : sg.dec b = .error 4 := by rw [HDEC.out, if_pos (.inl hA)]
        have HDX := Lib.hid hd
        clear HDEC hd i0 i1 i2 i3 a0 a1 a2 a3 x1 y0 y1 y2 y3 y4 y5 y6 y7 y8 HCL HD8 hg0 hg1 hg
        go_wp2_with fail
        (try simp only [Exit.inBlock, Exit.then])
        refine bodyPost_ret (v := .tuple #[.agg #[.int .i64 0, .int .i64 0, .int .i64 0, .bool false, .bool false, .bool false, .bool false, .slice none 0 0, .slice none 0 0], .int .i64 4]) (by simp [results, Try.results101, go_sem, r1, r2, r3, r4, r5, r6, r7, r8, r9]) rfl ?_
        exact SegRes.no HDX.out (by repeat (first | (with_reducible first | exact Below.refl _ _ | assumption | refine bset ?_ ?_ _ | refine balloc ?_ _ | refine Below.drew ?_ | refine bdrewN ?_ _ | refine bnext ?_ (by with_reducible assumption)) | exact Nat.le_refl _ | (simp; done) | omega | (simp; omega)))
      · by_cases hL : b.length < 10 + 4 * sg.count b
        · have hd : sg.dec b = .error 4 := by rw [HDEC.out, if_pos (.inr hL)]
          have hL' : (b.length : Int) < 10 + 4 * (sg.count b : Int) := by omega
          have HDX := Lib.hid hd
          clear HDEC hd i0 i1 i2 i3 a0 a1 a2 a3 x1 y0 y1 y2 y3 y4 y5 y6 y7 y8 HCL HD8 hg0 hg1 hg
          go_wp2_with fail
          (try simp only [Exit.inBlock, Exit.then])
          refine bodyPost_ret (v := .tuple #[.agg #[.int .i64 0, .int .i64 0, .int .i64 0, .bool false, .bool false, .bool false, .bool false, .slice none 0 0, .slice none 0 0], .int .i64 4]) (by simp [results, Try.results101, go_sem, r1, r2, r3, r4, r5, r6, r7, r8, r9]) rfl ?_
          exact SegRes.no HDX.out (by repeat (first | (with_reducible first | exact Below.refl _ _ | assumption | refine bset ?_ ?_ _ | refine balloc ?_ _ | refine Below.drew ?_ | refine bdrewN ?_ _ | refine bnext ?_ (by with_reducible assumption)) | exact Nat.le_refl _ | (simp; done) | omega | (simp; omega)))
        · have hd : sg.dec b = if sg.fault (sg.segOf b) ≠ 0 then .error 4 else .ok (sg.segOf b) := by rw [HDEC.out, if_neg (by omega)]
          have HDE := Lib.hid hd
          have hL' : ¬ ((b.length : Int) < 10 + 4 * (sg.count b : Int)) := by omega
          clear HDEC hd x1 y0 y1 y2 y3 y4 y5 y6 y7 y8 r1 r2 r3 r4 r5 r6 r7 r8 r9 rf
          go_wp2_with fail
          have hpp : sg.part b 4 = sg.part2 b 0 := by simp [sg.part, sg.part2, sg.segOf, sg.rngs]
          have HDP : Hid (DecAt w wr G (some ⟨bb, oo, none⟩) b.length c (sg.part2 b 0) none 0 none 0) := Lib.hid (by rw [← hpp]; exact HD.out)
          clear hpp HD HD8 x0 hc6 hc7 hBw h10' h8' h9' h7' h6'
          obtain ⟨nn, hnn⟩ : ∃ nn, nn = sg.count b := ⟨_, rfl⟩
          rw [← hnn] at hcb hL hL' ⊢
          have HNN := Lib.hid hnn
          clear hnn
          go_loopw [10] (fun at_ wq => ∃ (k : Nat) (A0 : Option Addr) (c0 : Nat), k ≤ nn ∧ at_ = .int .i64 (10 + 4 * (k : Int)) ∧ Hid (DecAt w wq G (some ⟨bb, oo, none⟩) b.length c (sg.part2 b k) A0 c0 none 0) ∧ G < wq.heap.size ∧ Hid (Own wq (G + 1) 78 2 A0 k c0 ((sg.rngs b k).flatMap Rng.cells))) (fun at_ _ => (10 + 4 * nn) - (intOf at_).toNat)
          case atStart => exact ⟨0, none, 0, by omega, rfl, HDP, hzr, Lib.hid (Own.nil _ _ _ _)⟩
          case round =>
            obtain ⟨k, A0, c0, hk', rfl, HQ, hzq, HO⟩ := hrel
            rename World => wq
            clear HDP
            by_cases hlt : k < nn
            · have hlt' : 10 + 4 * (k : Int) < 10 + 4 * (nn : Int) := by omega
              have x0 := HQ.out.box
              have x1 := HQ.out.seg.2.2.2.2.2.2.2.2.1
              have x2 := HQ.out.sfz 7
              rw [show (sg.part2 b k).sacks.length = k from sg.rngs_length b k] at x1
              have HB := HQ.out.below
              have HW := Lib.hid (fun W (h : W.cell? ⟨w.heap.size, 0, none⟩ = some (.slice (some ⟨bb, oo, none⟩) b.length c)) (hB : Below w.heap.size w W) i j (hj : j = ((i : Nat) : Int)) hi => seg_word b (some ⟨bb, oo, none⟩) c w.heap.size _ W h (HL.out.below hB) i j hj hi hn)
              have hwr := IntWalk.i64_in (10 + 4 * (k : Int) + 2) (by omega)
              have HJ1 : Hid (10 + 4 * (k : Int) = ((10 + 4 * k : Nat) : Int) ∧ 10 + 4 * k + 1 < b.length) := Lib.hid ⟨by omega, by omega⟩
              have HJ2 : Hid (10 + 4 * (k : Int) + 2 = ((10 + 4 * k + 2 : Nat) : Int) ∧ 10 + 4 * k + 2 + 1 < b.length) := Lib.hid ⟨by omega, by omega⟩
              have HOX := Lib.hid (fun m o => (HO.out.drewN m).alloc o)
              have HZX : Hid (∀ {m : Nat}, wq.heap.size = (wq.drewN m).heap.size) := Lib.hid rfl
              have HSX : Hid (∀ (m : Nat) (o : Obj), G + 1 ≤ ((wq.drewN m).alloc o).heap.size) := Lib.hid (fun m o => by simp; omega)
              have HV : Hid (∀ u ∈ [Value.int .i64 (sg.w16 b (10 + 4 * k)), .int .i64 (sg.w16 b (10 + 4 * k + 2))], u.oneCell' = true) := Lib.hid (by simp [Value.oneCell'])
              have HBX : ∀ (m : Nat) (o : Obj), Below wq.heap.size wq ((wq.drewN m).alloc o) := fun m o => balloc (bdrewN (bself wq) m) o
              have hGw := HQ.out.hG
              have HC7 := Lib.hid (fun m o => ((HBX m o).cell (p := ⟨G, 7, none⟩) hzq).trans x1)
              have HF7 := Lib.hid (fun m o => ((HBX m o).frozen (p := ⟨G, 7, none⟩) hzq).trans x2)
              have HC0 := Lib.hid (fun m o => ((HBX m o).cell (p := ⟨w.heap.size, 0, none⟩) (show w.heap.size < wq.heap.size by omega)).trans x0)
              have HSW : Hid (∀ (m : Nat) (o : Obj), w.heap.size < ((wq.drewN m).alloc o).heap.size) := Lib.hid (fun m o => Nat.lt_of_lt_of_le (show w.heap.size < wq.heap.size by omega) (HBX m o).size)
              have HNE : Hid (∀ x, blkOf A0 = some x → x ≠ G) := Lib.hid (fun x hx => by have := (HO.out.lt x hx).1; omega)
              have HNW : Hid (∀ x, blkOf A0 = some x → x ≠ w.heap.size) := Lib.hid (fun x hx => by have := (HO.out.lt x hx).1; omega)
              have hC7u := HC7.out
              clear HBX
              have HRG : Hid ((sg.rngs b (k + 1)).flatMap Rng.cells = (sg.rngs b k).flatMap Rng.cells ++ [.int .i64 (sg.w16 b (10 + 4 * k)), .int .i64 (sg.w16 b (10 + 4 * k + 2))]) := Lib.hid (by simp [sg.rngs, Rng.cells])
              go_wp2_with fail
              (try clear h10'); (try clear h8'); (try clear h9'); (try clear h6'); (try clear h7'); (try clear hL); (try clear hL'); (try clear i0); (try clear i1); (try clear i2); (try clear i3); (try clear a0); (try clear a1); (try clear a2); (try clear a3); (try clear hx); (try clear hz8); (try clear hg); (try clear hg0); (try clear hg1); (try clear hB6); (try clear hz6); (try clear hl6); (try clear hn); (try clear h10); (try clear hk); (try clear W0); (try clear HCL); (try clear HDE); (try clear HNN); (try clear hA); (try clear hzr)
              go_region_law
                (first
                  | (go_simp; go_at_call 113; (first | (with_reducible refine (HW.out _ ?_ ?_ _ _ HJ1.out.1 HJ1.out.2).mono ?_) | (with_reducible refine (HW.out _ ?_ ?_ _ _ HJ2.out.1 HJ2.out.2).mono ?_)); (first | assumption | (simp only [World.cell?_drew, World.cell?_drewN]; assumption)); (exact (by repeat (first | (with_reducible first | exact Below.refl _ _ | assumption | refine bset ?_ ?_ _ | refine balloc ?_ _ | refine Below.drew ?_ | refine bdrewN ?_ _ | refine bnext ?_ (by with_reducible assumption)) | exact Nat.le_refl _ | (simp; done) | omega | (simp; omega)))); rintro e w9 ⟨rfl, m1, rfl⟩)
                  | ((refine step_app _ (by rfl) _ _ _ (by rfl) elemRng (G + 1) A0 k c0 _ (by rfl) (HOX.out _ _) (some ⟨wq.heap.size, 0, none⟩) 1 1 [.int .i64 (sg.w16 b (10 + 4 * k)), .int .i64 (sg.w16 b (10 + 4 * k + 2))] (by rfl) (by rfl) (Cells.newAt _ _ _ HZX.out) HV.out (by omega) (by unfold maxLen; omega) (HSX.out _ _) ?_; intro A11 c11 w11 hO11 hg11; have x5 := (hg11.cell (b := G) 7 (HSX.out _ _) HNE.out).trans (HC7.out _ _); have x6 := (hg11.frozen (b := G) 7 (HSX.out _ _) HNE.out).trans (HF7.out _ _); have x7 := (hg11.cell (b := w.heap.size) 0 (HSW.out _ _) HNW.out).trans (HC0.out _ _)))
                  | fail)
              all_goals
                have hbq : Below (G + 1) wq w11 := Below.trans ((balloc (bdrewN (bself wq) _) _).mono (by omega)) (hg11.below (HSX.out _ _) (fun x hx => (HO.out.lt x hx).1))
                have HQ2 := Lib.hid ((HQ.out.next hbq (Nat.lt_succ_self _)).put (s' := sg.part2 b (k + 1)) (A0' := A11) (c0' := c11) (A1' := none) (c1' := 0) 7 (.slice A11 (k + 1) c11) (by decide) (by simp [segCells, sg.part2, sg.segOf, sg.rngs_length]))
                have hz11 : G < w11.heap.size := Nat.lt_of_lt_of_le hzq hbq.size
                have HO2 : Hid (Own (w11.setCell ⟨G, 7, none⟩ (.slice A11 (k + 1) c11)) (G + 1) 78 2 A11 (k + 1) c11 ((sg.rngs b (k + 1)).flatMap Rng.cells)) := Lib.hid (by rw [HRG.out]; exact hO11.setCell (fun e => absurd (hO11.lt _ e).1 (Nat.not_succ_le_self G)) _)
                clear hO11 hg11 hbq HQ HO HRG
                go_wp2
                go_roundw
                case rel => exact ⟨k + 1, A11, c11, by omega, by go_num, HQ2, by simpa [World.setCell] using hz11, HO2⟩
                case measure => simp [intOf]; omega
            · obtain rfl : k = nn := by omega
              have x0 := HQ.out.box
              have HB := HQ.out.below
              have hcut := run_cut_l (P := Try.prog) elemU8 (some ⟨bb, oo, none⟩) b.length c (10 + 4 * k) (by omega) (10 + 4 * (k : Int)) (by omega)
              have HR := Lib.hid (HL.out.drop (f := 10 + 4 * k) (by omega))
              have HCK := Lib.hid (clone_u8 (b.length - (10 + 4 * k)) (cutA (some ⟨bb, oo, none⟩) c (10 + 4 * k) 1) (c - (10 + 4 * k)) ((b.drop (10 + 4 * k)).map u8v) wq (by simp) (fun w'' hb'' => (HR.out.below (bnext HB hb'')).cells_u8) (oneCell_u8 _) (by omega))
              have hlen : (sg.rngs b k).length = k := sg.rngs_length b k
              have hr0 := HO.out.rng.2
              obtain ⟨s, hs⟩ : ∃ s, s = sg.segOf b := ⟨_, rfl⟩
              have hsk : s.sacks = sg.rngs b k := by rw [hs, HNN.out]; rfl
              have hsd : s.data = b.drop (10 + 4 * k) := by rw [hs, HNN.out]; rfl
              have hQs : ∀ (W : World) (A12 : Option Addr) (c12 : Nat), DecAt w W G (some ⟨bb, oo, none⟩) b.length c (sg.part2 b k) A0 c0 none 0 → DecAt w (W.setCell ⟨G, 8, none⟩ (.slice A12 (b.length - (10 + 4 * k)) c12)) G (some ⟨bb, oo, none⟩) b.length c s A0 c0 A12 c12 := fun W A12 c12 h =>
                h.put 8 _ (by decide) (by simp [segCells, hsk, hsd, sg.part2, sg.rngs_length]; rw [hs]; simp)
              have hD : sg.dec b = if sg.fault s ≠ 0 then .error 4 else .ok s := by rw [hs]; exact HDE.out
              have hk1 : s.sacks.length = k := by rw [hsk]; exact hlen
              have hk2 : s.data.length = b.length - (10 + 4 * k) := by rw [hsd]; simp
              have HEQ : Hid (∀ W : World, SegAt W G (sg.part2 b k) A0 c0 none 0 → W.cell? ⟨G, 0, none⟩ = some (.int .i64 s.seq) ∧ W.cell? ⟨G, 1, none⟩ = some (.int .i64 s.ack) ∧ W.cell? ⟨G, 2, none⟩ = some (.int .i64 s.window) ∧ W.cell? ⟨G, 3, none⟩ = some (.bool s.syn) ∧ W.cell? ⟨G, 4, none⟩ = some (.bool s.fin) ∧ W.cell? ⟨G, 5, none⟩ = some (.bool s.rst) ∧ W.cell? ⟨G, 6, none⟩ = some (.bool s.acks) ∧ W.cell? ⟨G, 7, none⟩ = some (.slice A0 k c0) ∧ W.cell? ⟨G, 8, none⟩ = some (.slice none 0 0)) := Lib.hid (fun W h => by
                obtain ⟨_, h0, h1, h2, h3, h4, h5, h6, h7, h8⟩ := h
                rw [show (sg.part2 b k).sacks.length = k from hlen] at h7
                rw [hs]
                exact ⟨h0, h1, h2, h3, h4, h5, h6, h7, h8⟩)
              have HR0 := Lib.hid hr0
              have HQS := Lib.hid hQs
              have HSK := Lib.hid hsk
              have HSD := Lib.hid hsd
              have HK1 := Lib.hid hk1
              have HK2 := Lib.hid hk2
              have hGw := HQ.out.hG
              have HDD := Lib.hid hD
              clear hQs hs hsk hsd hk1 hk2 hD hr0 hlen HDE HNN HCL
              have HCP := Lib.hid hcut
              clear hcut
              have hcut := HCP.out
              go_wp2_with fail
              refine HCK.out.mono ?_
              rintro e w12 ⟨A12, c12, rfl, ho12, hb12⟩
              have HO12 := Lib.hid ho12
              have hD12 := HQ.out.next hb12 hzq
              have HD13 := Lib.hid (HQS.out _ A12 c12 hD12)
              obtain ⟨q0, q1, q2, q3, q4, q5, q6, q7, q8⟩ := HEQ.out _ hD12.seg
              have qf := hD12.sfz 8
              have hz12 : G < w12.heap.size := Nat.lt_of_lt_of_le hzq hb12.size
              have hzq12 := hb12.size
              have HX1 : Hid (SlRep Rng.rep (w12.setCell ⟨G, 8, none⟩ (.slice A12 (b.length - (10 + 4 * k)) c12)) (fun j => G + 1 ≤ j ∧ j < (w12.setCell ⟨G, 8, none⟩ (.slice A12 (b.length - (10 + 4 * k)) c12)).heap.size) s.sacks A0 c0) := Lib.hid (by
                rw [HSK.out]
                exact HR0.out.keep fun j hj => ⟨⟨hj.1, by simpa [World.setCell] using Nat.lt_of_lt_of_le hj.2 hzq12⟩, (Below.heap_setCell w12 ⟨G, 8, none⟩ _ j (by show j ≠ G; omega)).trans (hb12.block j hj.2)⟩)
              have HX2 : Hid (SlRep Rep.u8 (w12.setCell ⟨G, 8, none⟩ (.slice A12 (b.length - (10 + 4 * k)) c12)) (fun j => G + 1 ≤ j ∧ j < (w12.setCell ⟨G, 8, none⟩ (.slice A12 (b.length - (10 + 4 * k)) c12)).heap.size) s.data A12 c12) := Lib.hid (by
                rw [HSD.out]
                exact HO12.out.u8.2.keep fun j hj => ⟨⟨by omega, by simpa [World.setCell] using hj.2⟩, Below.heap_setCell w12 ⟨G, 8, none⟩ _ j (by show j ≠ G; omega)⟩)
              have hz13 : G < (w12.setCell ⟨G, 8, none⟩ (.slice A12 (b.length - (10 + 4 * k)) c12)).heap.size := by simpa [World.setCell] using hz12
              clear ho12 hD12 hb12
              have HF := Lib.hid (seg_fault s A0 A12 c0 c12 _ (HX1.out.keep fun j hj => ⟨hj.2, rfl⟩) (by rw [HK1.out]; omega) (by rw [HK2.out]; omega))
              go_wp2_with fail
              have hF := HF.out
              unfold Segment.val at hF
              rw [HK1.out, HK2.out] at hF
              refine hF.mono ?_
              rintro e w14 ⟨rfl, hb14⟩
              clear hF HF q0 q1 q2 q3 q4 q5 q6 q7 q8 qf
              have hD14 := HD13.out.next hb14 hz13
              obtain ⟨q0, q1, q2, q3, q4, q5, q6, q7, q8, q9⟩ := hD14.seg
              rw [HK1.out] at q8
              rw [HK2.out] at q9
              obtain ⟨_, r1, r2, r3, r4, r5, r6, r7, r8, r9⟩ := hD14.res
              simp only [sg.noSeg, List.length_nil] at r1 r2 r3 r4 r5 r6 r7 r8 r9
              have rf := hD14.rfz
              have hBw := hD14.below
              have HX3 : Hid (SlRep Rng.rep w14 (fun j => G + 1 ≤ j ∧ j < w14.heap.size) s.sacks A0 c0) := Lib.hid (HX1.out.keep fun j hj => ⟨⟨hj.1, Nat.lt_of_lt_of_le hj.2 hb14.size⟩, hb14.block j hj.2⟩)
              have HX4 : Hid (SlRep Rep.u8 w14 (fun j => G + 1 ≤ j ∧ j < w14.heap.size) s.data A12 c12) := Lib.hid (HX2.out.keep fun j hj => ⟨⟨hj.1, Nat.lt_of_lt_of_le hj.2 hb14.size⟩, hb14.block j hj.2⟩)
              have hne1 : ¬ (G = w.heap.size + 1) := by omega
              have hne2 : ¬ (w.heap.size + 1 = G) := by omega
              clear HX1 HX2 HD13 hD14 hb14
              by_cases hft : sg.fault s = 0
              · have HE : Hid (sg.dec b = .ok s) := Lib.hid (by rw [HDD.out, if_neg (fun e => e hft)])
                rw [hft]
                clear hft HDD
                go_wp2_with fail
                (try simp only [Exit.inBlock, Exit.then])
                refine bodyPost_ret (v := .tuple #[.agg #[.int .i64 s.seq, .int .i64 s.ack, .int .i64 s.window, .bool s.syn, .bool s.fin, .bool s.rst, .bool s.acks, .slice A0 k c0, .slice A12 (b.length - (10 + 4 * k)) c12], .int .i64 0]) (by simp [results, Try.results101, go_sem, r1, r2, r3, r4, r5, r6, r7, r8, r9]) rfl ?_
                rw [HE.out]
                refine ⟨A0, c0, A12, c12, by simp only [segOr, exC, Segment.val, HK1.out, HK2.out], ?_, ?_, (by repeat (first | (with_reducible first | exact Below.refl _ _ | assumption | refine bset ?_ ?_ _ | refine balloc ?_ _ | refine Below.drew ?_ | refine bdrewN ?_ _ | refine bnext ?_ (by with_reducible assumption)) | exact Nat.le_refl _ | (simp; done) | omega | (simp; omega)))⟩
                · exact HX3.out.keep fun j hj => ⟨⟨by omega, by simpa [World.setCell] using hj.2⟩, by rw [Below.heap_setCell _ _ _ j (by show j ≠ w.heap.size + 1; omega), Below.heap_setCell _ _ _ j (by show j ≠ w.heap.size + 1; omega), Below.heap_setCell _ _ _ j (by show j ≠ w.heap.size + 1; omega), Below.heap_setCell _ _ _ j (by show j ≠ w.heap.size + 1; omega), Below.heap_setCell _ _ _ j (by show j ≠ w.heap.size + 1; omega), Below.heap_setCell _ _ _ j (by show j ≠ w.heap.size + 1; omega), Below.heap_setCell _ _ _ j (by show j ≠ w.heap.size + 1; omega), Below.heap_setCell _ _ _ j (by show j ≠ w.heap.size + 1; omega), Below.heap_setCell _ _ _ j (by show j ≠ w.heap.size + 1; omega)]⟩
                · exact HX4.out.keep fun j hj => ⟨⟨by omega, by simpa [World.setCell] using hj.2⟩, by rw [Below.heap_setCell _ _ _ j (by show j ≠ w.heap.size + 1; omega), Below.heap_setCell _ _ _ j (by show j ≠ w.heap.size + 1; omega), Below.heap_setCell _ _ _ j (by show j ≠ w.heap.size + 1; omega), Below.heap_setCell _ _ _ j (by show j ≠ w.heap.size + 1; omega), Below.heap_setCell _ _ _ j (by show j ≠ w.heap.size + 1; omega), Below.heap_setCell _ _ _ j (by show j ≠ w.heap.size + 1; omega), Below.heap_setCell _ _ _ j (by show j ≠ w.heap.size + 1; omega), Below.heap_setCell _ _ _ j (by show j ≠ w.heap.size + 1; omega), Below.heap_setCell _ _ _ j (by show j ≠ w.heap.size + 1; omega)]⟩
              · have HE : Hid (sg.dec b = .error 4) := Lib.hid (by rw [HDD.out, if_pos hft])
                clear HDD
                have hft1 : (sg.fault s == 0) = false := by rw [beq_eq_false_iff_ne]; exact hft
                have hft2 : (sg.fault s != 0) = true := by rw [bne, hft1]; rfl
                generalize sg.fault s = ft at *
                go_wp2_with fail
                (try simp only [Exit.inBlock, Exit.then])
                refine bodyPost_ret (v := .tuple #[.agg #[.int .i64 0, .int .i64 0, .int .i64 0, .bool false, .bool false, .bool false, .bool false, .slice none 0 0, .slice none 0 0], .int .i64 4]) (by simp [results, Try.results101, go_sem, r1, r2, r3, r4, r5, r6, r7, r8, r9]) rfl ?_
                exact SegRes.no HE.out (by repeat (first | (with_reducible first | exact Below.refl _ _ | assumption | refine bset ?_ ?_ _ | refine balloc ?_ _ | refine Below.drew ?_ | refine bdrewN ?_ _ | refine bnext ?_ (by with_reducible assumption)) | exact Nat.le_refl _ | (simp; done) | omega | (simp; omega)))
end Go.Proofs.Ytdldfllllgogoaa
namespace Go.Proofs.Ytdldfllllgogoaa
open Go.RowKit
/-- the string of bytes -/
def strOf (l:List UInt8):ByteArray:=⟨l.toArray⟩
theorem loop_eq (l:List UInt8) (i:Nat) (r:List UInt8):ByteArray.toList.loop (strOf l) i r=r.reverse ++ l.drop i:=by
 generalize hn:l.length - i=n
 induction n generalizing i r with
 | zero=>
  rw [ByteArray.toList.loop,if_neg (by simp [strOf,ByteArray.size];omega),List.drop_eq_nil_of_le (by omega),List.append_nil]
 | succ n ih=>
  rw [ByteArray.toList.loop,if_pos (by simp [strOf,ByteArray.size];omega),ih _ _ (by omega),List.drop_eq_getElem_cons (by omega:i<l.length)]
  simp [strOf,ByteArray.get!,List.getElem?_eq_getElem (by omega:i<l.length)]
theorem strOf_toList (l:List UInt8):(strOf l).toList=l:=by
 unfold ByteArray.toList
 rw [loop_eq]
 simp
theorem run_string {w:World} {S:Nat→Prop} {l:List UInt8} {A:Option Addr} {c:Nat} (h:SlRep Rep.u8 w S l A c) :
  (convert 28 9 (.slice A l.length c)).run Try.prog w=.ok (.string (strOf l)) w:=by
 rcases h.2.2 with rfl | ⟨b,o,rfl,_,_⟩
 ·cases A with
  | none=>exact run_convert_bytes_nil w _ _ Try.underlying28 Try.underlying5 _ _ _ Try.underlying9
  | some a=>
   obtain ⟨b,o,s⟩:=a
   rw [run_convert_bytes_string w _ _ _ _ _ _ Try.underlying28 Try.underlying5 Try.underlying9]
   simp [Conv.bytesToString,loadCells,strOf]
   rfl
 ·have:=run_convert_bytes_arg (P:=Try.prog) w 28 5 Try.underlying28 Try.underlying5 b o l.length c (l.map fun x=>(x.toNat:Int)) (by simp) (fun i hi=>by
   obtain ⟨b',o',e,_,hc⟩:=u8_at h hi
   simp only [Option.some.injEq,Addr.mk.injEq,and_true] at e
   obtain ⟨rfl,rfl⟩:=e
   rw [hc]
   congr 2
   simp [List.getD_eq_getElem?_getD,List.getElem?_eq_getElem hi]) 9 Try.underlying9
  have e:strOfNums (l.map fun x=>(x.toNat:Int))=strOf l:=by
   unfold strOfNums strOf
   refine congrArg ByteArray.mk (congrArg List.toArray ?_)
   rw [List.map_map]
   conv=>rhs;rw [← List.map_id l]
   refine List.map_congr_left fun x _=>?_
   simp
  rw [this,e]
end Go.Proofs.Ytdldfllllgogoaa
namespace Go.Proofs.Ytdldfllllgogoaa
open Go.RowKit
theorem cell_other {W:World} {B j:Nat} {v:Value} {b o:Nat} (h:b≠B):(W.setCell ⟨B,j,none⟩ v).cell? ⟨b,o,none⟩=W.cell? ⟨b,o,none⟩:=
 World.cell?_of_block (Below.heap_setCell W ⟨B,j,none⟩ v b h)
theorem SegAt.nine {W:World} {G:Nat} (h:SegAt W G sg.noSeg none 0 none 0) (s:Segment) (hs0:s.sacks=[]) (hs1:s.data=[]) :
  SegAt (((((((((W.setCell ⟨G,0,none⟩ (.int .i64 s.seq)).setCell ⟨G,1,none⟩ (.int .i64 s.ack)).setCell ⟨G,2,none⟩ (.int .i64 s.window)).setCell ⟨G,3,none⟩ (.bool s.syn)).setCell ⟨G,4,none⟩ (.bool s.fin)).setCell ⟨G,5,none⟩ (.bool s.rst)).setCell ⟨G,6,none⟩ (.bool s.acks)).setCell ⟨G,7,none⟩ (.slice none 0 0)).setCell ⟨G,8,none⟩ (.slice none 0 0)) G s none 0 none 0:=by
 obtain ⟨seq,ack,window,syn,fin,rst,acks,sacks,data⟩:=s
 dsimp only at hs0 hs1
 subst hs0
 subst hs1
 exact (((((((((h.put (s':={ sg.noSeg with seq:=seq }) (A0':=none) (c0':=0) (A1':=none) (c1':=0) 0 _ (by decide) rfl).put (s':={ sg.noSeg with seq:=seq,ack:=ack }) (A0':=none) (c0':=0) (A1':=none) (c1':=0) 1 _ (by decide) rfl).put (s':={ sg.noSeg with seq:=seq,ack:=ack,window:=window }) (A0':=none) (c0':=0) (A1':=none) (c1':=0) 2 _ (by decide) rfl).put
  (s':={ sg.noSeg with seq:=seq,ack:=ack,window:=window,syn:=syn }) (A0':=none) (c0':=0) (A1':=none) (c1':=0) 3 _ (by decide) rfl).put (s':={ sg.noSeg with seq:=seq,ack:=ack,window:=window,syn:=syn,fin:=fin }) (A0':=none) (c0':=0) (A1':=none) (c1':=0) 4 _ (by decide) rfl).put (s':={ sg.noSeg with seq:=seq,ack:=ack,window:=window,syn:=syn,fin:=fin,rst:=rst }) (A0':=none) (c0':=0) (A1':=none) (c1':=0) 5 _ (by decide) rfl).put
  (s':={ sg.noSeg with seq:=seq,ack:=ack,window:=window,syn:=syn,fin:=fin,rst:=rst,acks:=acks }) (A0':=none) (c0':=0) (A1':=none) (c1':=0) 6 _ (by decide) rfl).put (s':={ sg.noSeg with seq:=seq,ack:=ack,window:=window,syn:=syn,fin:=fin,rst:=rst,acks:=acks }) (A0':=none) (c0':=0) (A1':=none) (c1':=0) 7 _ (by decide) rfl).put
  (s':={ sg.noSeg with seq:=seq,ack:=ack,window:=window,syn:=syn,fin:=fin,rst:=rst,acks:=acks }) (A0':=none) (c0':=0) (A1':=none) (c1':=0) 8 _ (by decide) rfl)
theorem below_nine {W:World} {G:Nat} {v0 v1 v2 v3 v4 v5 v6 v7 v8:Value}:Below G W (((((((((W.setCell ⟨G,0,none⟩ v0).setCell ⟨G,1,none⟩ v1).setCell ⟨G,2,none⟩ v2).setCell ⟨G,3,none⟩ v3).setCell ⟨G,4,none⟩ v4).setCell ⟨G,5,none⟩ v5).setCell ⟨G,6,none⟩ v6).setCell ⟨G,7,none⟩ v7).setCell ⟨G,8,none⟩ v8):=
 (((((((((Below.refl G W).setCell (p:=⟨G,0,none⟩) (Nat.le_refl _) _).setCell (p:=⟨G,1,none⟩) (Nat.le_refl _) _).setCell (p:=⟨G,2,none⟩) (Nat.le_refl _) _).setCell (p:=⟨G,3,none⟩) (Nat.le_refl _) _).setCell (p:=⟨G,4,none⟩) (Nat.le_refl _) _).setCell (p:=⟨G,5,none⟩) (Nat.le_refl _) _).setCell (p:=⟨G,6,none⟩) (Nat.le_refl _) _).setCell (p:=⟨G,7,none⟩) (Nat.le_refl _) _).setCell (p:=⟨G,8,none⟩) (Nat.le_refl _) _
set_option maxRecDepth 100000 in
set_option maxHeartbeats 4000000 in
theorem ref_Decoded_sum (b:List UInt8) (A:Option Addr) (c:Nat) (w:World) (hl:SlRep Rep.u8 w (· < w.heap.size) b A c) (hn:b.length≤140737488351232) (h10:10≤b.length) (hs:sg.sumOf (sg.blank b)≠sg.w16 b 8) :
  Calls Try.prog 91 #[.slice A b.length c] w (SegRes (.error 6) w):=by
 have HL:=Lib.hid hl
 have h10':¬ ((b.length:Int)<10):=by omega
 have h8':(8:Int)<(b.length:Int):=by omega
 have h9':(9:Int)<(b.length:Int):=by omega
 clear hl
 go_enter Try.func91,Try.ntmps91
 go_wp2_with (at_builtin;(refine wp_app _ rfl _ _ _ rfl elemU8 (w.heap.size+1+1) none 0 0 [] rfl (Own.nil _ _ _ _) A b.length c (b.map u8v) rfl (by simp) ((HL.out.below (by repeat (first | (with_reducible first | exact Below.refl _ _ | assumption | refine bset ?_ ?_ _ | refine balloc ?_ _ | refine Below.drew ?_ | refine bdrewN ?_ _ | refine bnext ?_ (by with_reducible assumption)) | exact Nat.le_refl _ | (simp;done) | omega | (simp;omega)))).cells_u8) (oneCell_u8 _) (by omega) (by unfold maxLen;omega) (by simp) ?_;intro A3 c3 w3 hO3 hg3;simp only [Nat.zero_add,List.nil_append] at hO3 ⊢;have hb3:=hg3.below (Nat.le_refl _) (fun k hk=>by cases hk);obtain ⟨g,v8,v9,rfl,hg,z8,z9,hzf,hzl⟩:=blank_cells h10 hO3;have HO3:=Lib.hid hO3;clear hO3 hg3;have B3:Below w.heap.size w w3:=(by repeat (first | (with_reducible first | exact Below.refl _ _ | assumption | refine bset ?_ ?_ _ | refine balloc ?_ _ | refine Below.drew ?_ | refine bdrewN ?_ _ | refine bnext ?_ (by with_reducible assumption)) | exact Nat.le_refl _ | (simp;done) | omega | (simp;omega)));have ha3:∀ b o,b<w.heap.size→w3.cell? ⟨b,o,none⟩=w.cell? ⟨b,o,none⟩:=fun b o h=>B3.cell (p:=⟨b,o,none⟩) h;have hk3:∀ k,k<w.heap.size→k<w3.heap.size:=fun _ h=>Nat.lt_of_lt_of_le h B3.size;have hz3:=hb3.size;(try simp at hz3);have hl3_w0:w.heap.size<w3.heap.size:=Nat.lt_of_lt_of_le (by first | (simp;done) | (simp;omega) | omega) hb3.size;have hc3_w0:=fun o=>hb3.cell (p:=⟨w.heap.size,o,none⟩) (by first | (simp;done) | (simp;omega) | omega);have hf3_w0:=fun o=>hb3.frozen (p:=⟨w.heap.size,o,none⟩) (by first | (simp;done) | (simp;omega) | omega);(try simp [go_sem, *] at hc3_w0);(try simp [go_sem, *] at hf3_w0);have hl3_w1:w.heap.size+1<w3.heap.size:=Nat.lt_of_lt_of_le (by first | (simp;done) | (simp;omega) | omega) hb3.size;have hc3_w1:=fun o=>hb3.cell (p:=⟨w.heap.size+1,o,none⟩) (by first | (simp;done) | (simp;omega) | omega);have hf3_w1:=fun o=>hb3.frozen (p:=⟨w.heap.size+1,o,none⟩) (by first | (simp;done) | (simp;omega) | omega);(try simp [go_sem, *] at hc3_w1);(try simp [go_sem, *] at hf3_w1);clear hb3))
 have hg0:w.heap.size≠g:=by omega
 have hg1:w.heap.size+1≠g:=by omega
 have hb34:Below (w.heap.size+1+1) w3 ((w3.setCell ⟨g,8,none⟩ (.int .u8 0)).setCell ⟨g,9,none⟩ (.int .u8 0)):=((Below.refl _ w3).setCell (p:=⟨g,8,none⟩) (by show w.heap.size+1+1≤g;omega) _).setCell (p:=⟨g,9,none⟩) (by show w.heap.size+1+1≤g;omega) _
 have hx4:((w3.setCell ⟨g,8,none⟩ (.int .u8 0)).setCell ⟨g,9,none⟩ (.int .u8 0)).cell? ⟨w.heap.size,0,none⟩=some (.slice A b.length c):=(hb34.cell (p:=⟨w.heap.size,0,none⟩) (by show w.heap.size<_;omega)).trans (hc3_w0 0)
 have hR4:SegAt ((w3.setCell ⟨g,8,none⟩ (.int .u8 0)).setCell ⟨g,9,none⟩ (.int .u8 0)) (w.heap.size+1) sg.noSeg none 0 none 0:=
  SegAt.below ⟨hl3_w1,hc3_w1 0,hc3_w1 1,hc3_w1 2,hc3_w1 3,hc3_w1 4,hc3_w1 5,hc3_w1 6,hc3_w1 7,hc3_w1 8⟩ hb34 (by omega)
 have hf4:=fun o=>(hb34.frozen (p:=⟨w.heap.size+1,o,none⟩) (by show w.heap.size+1<_;omega)).trans (hf3_w1 o)
 have hO4:=blank_own HO3.out
 have hB4:Below w.heap.size w ((w3.setCell ⟨g,8,none⟩ (.int .u8 0)).setCell ⟨g,9,none⟩ (.int .u8 0)):=(B3.setCell (p:=⟨g,8,none⟩) (by show w.heap.size≤g;omega) _).setCell (p:=⟨g,9,none⟩) (by show w.heap.size≤g;omega) _
 have hz4:w.heap.size+1+1≤((w3.setCell ⟨g,8,none⟩ (.int .u8 0)).setCell ⟨g,9,none⟩ (.int .u8 0)).heap.size:=by simpa [World.setCell] using hz3
 generalize (w3.setCell ⟨g,8,none⟩ (.int .u8 0)).setCell ⟨g,9,none⟩ (.int .u8 0)=w4 at *
 clear hc3_w0 hc3_w1 hf3_w0 hf3_w1 hl3_w0 hl3_w1 ha3 hk3 hz3 B3 z8 z9 hzf hzl HO3
 obtain ⟨f,HF,hf0,hf1⟩:∃ f:Int,Hid (65535 - f=sg.sumOf (sg.blank b))∧0≤f∧f≤65535:=⟨foldOf (sumTo (sg.blank b) (sg.blank b).length),Lib.hid rfl,(foldOf_bd _ (sumTo_bd _ _).1).1,(foldOf_bd _ (sumTo_bd _ _).1).2⟩
 have HFD:Hid (∀ W:World,(∃ m,W=w4.drewN m)→Calls Try.prog 107 #[.slice (some ⟨g,0,none⟩) b.length c3] W fun e w'=>e=.returned (.int .i64 f)∧∃ m,w'=W.drewN m):=Lib.hid (fun W ⟨m,hm⟩=>by
  subst hm
  have h:=(ref_InetFold (sg.blank b) (some ⟨g,0,none⟩) c3 _ (w4.drewN m) ((hO4.drewN m).u8.2) (by rw [blank_length];exact hn)).mono (R':=fun e w'=>e=.returned (.int .i64 f)∧∃ k,w'=(w4.drewN m).drewN k) fun e w' ⟨h1,h2⟩=>⟨by rw [h1];have:=HF.out;unfold sg.sumOf at this;congr 2;omega,0,by rw [← h2];rfl⟩
  rw [blank_length] at h
  exact h)
 obtain ⟨bb,oo,rfl,hbb,hc8⟩:=u8_at (HL.out.below hB4) (show 8<b.length by omega)
 obtain ⟨b',o',he,_,hc9⟩:=u8_at (HL.out.below hB4) (show 9<b.length by omega)
 simp only [Option.some.injEq,Addr.mk.injEq,and_true] at he
 obtain ⟨rfl,rfl⟩:=he
 change _=some (Value.int .u8 (sg.byteAt b 8)) at hc8
 change _=some (Value.int .u8 (sg.byteAt b 9)) at hc9
 have hx8:=sg.byteAt_bd b 8
 have hx9:=sg.byteAt_bd b 9
 have hv1:=IntWalk.i64_in (sg.byteAt b 8) (by omega)
 have hv2:=IntWalk.i64_in (sg.byteAt b 9) (by omega)
 have hv3:=IntWalk.i64_in (256 * sg.byteAt b 8) (by omega)
 have hv4:=IntWalk.i64_in (256 * sg.byteAt b 8+sg.byteAt b 9) (by omega)
 have hv5:=IntWalk.i64_in (65535 - f) (by omega)
 have hq:(256 * sg.byteAt b 8+sg.byteAt b 9 == 65535 - f)=false:=by
  rw [beq_eq_false_iff_ne,HF.out]
  intro e
  apply hs
  rw [← e]
  show _=sg.byteAt b 8 * 256+sg.byteAt b 9
  omega
 clear hs
 generalize sg.byteAt b 8=y8 at *
 generalize sg.byteAt b 9=y9 at *
 clear HF
 go_wp2_with fail
 go_quiet ((go_at_call 107;exact Calls.quiet_of (HFD.out _ ⟨_,by first | rfl | (rw [World.drewN_drewN])⟩)))
 obtain ⟨r0,r1,r2,r3,r4,r5,r6,r7,r8,r9⟩:=hR4
 simp only [sg.noSeg,List.length_nil] at r1 r2 r3 r4 r5 r6 r7 r8 r9
 go_wp2
 (try simp only [Exit.inBlock,Exit.then])
 refine bodyPost_ret (v:=.tuple #[.agg #[.int .i64 0,.int .i64 0,.int .i64 0,.bool false,.bool false,.bool false,.bool false,.slice none 0 0,.slice none 0 0],.int .i64 6]) (by simp [results,Try.results91,go_sem,r1,r2,r3,r4,r5,r6,r7,r8,r9]) rfl ?_
 exact SegRes.no rfl (by repeat (first | (with_reducible first | exact Below.refl _ _ | assumption | refine bset ?_ ?_ _ | refine balloc ?_ _ | refine Below.drew ?_ | refine bdrewN ?_ _ | refine bnext ?_ (by with_reducible assumption)) | exact Nat.le_refl _ | (simp;done) | omega | (simp;omega)))
set_option maxRecDepth 100000 in
set_option maxHeartbeats 20000000 in
theorem ref_Decoded_long (b:List UInt8) (A:Option Addr) (c:Nat) (w:World) (hl:SlRep Rep.u8 w (· < w.heap.size) b A c) (hn:b.length≤140737488351232) (h10:10≤b.length) (hs:sg.sumOf (sg.blank b)=sg.w16 b 8) :
  Calls Try.prog 91 #[.slice A b.length c] w (SegRes (sg.dec b) w):=by
 have HSUM:=Lib.hid hs
 have HL:=Lib.hid hl
 have h10':¬ ((b.length:Int)<10):=by omega
 have h8':(8:Int)<(b.length:Int):=by omega
 have h9':(9:Int)<(b.length:Int):=by omega
 clear hl
 go_enter Try.func91,Try.ntmps91
 go_wp2_with (at_builtin;(refine wp_app _ rfl _ _ _ rfl elemU8 (w.heap.size+1+1) none 0 0 [] rfl (Own.nil _ _ _ _) A b.length c (b.map u8v) rfl (by simp) ((HL.out.below (by repeat (first | (with_reducible first | exact Below.refl _ _ | assumption | refine bset ?_ ?_ _ | refine balloc ?_ _ | refine Below.drew ?_ | refine bdrewN ?_ _ | refine bnext ?_ (by with_reducible assumption)) | exact Nat.le_refl _ | (simp;done) | omega | (simp;omega)))).cells_u8) (oneCell_u8 _) (by omega) (by unfold maxLen;omega) (by simp) ?_;intro A3 c3 w3 hO3 hg3;simp only [Nat.zero_add,List.nil_append] at hO3 ⊢;have hb3:=hg3.below (Nat.le_refl _) (fun k hk=>by cases hk);obtain ⟨g,v8,v9,rfl,hg,z8,z9,hzf,hzl⟩:=blank_cells h10 hO3;have HO3:=Lib.hid hO3;clear hO3 hg3;have B3:Below w.heap.size w w3:=(by repeat (first | (with_reducible first | exact Below.refl _ _ | assumption | refine bset ?_ ?_ _ | refine balloc ?_ _ | refine Below.drew ?_ | refine bdrewN ?_ _ | refine bnext ?_ (by with_reducible assumption)) | exact Nat.le_refl _ | (simp;done) | omega | (simp;omega)));have ha3:∀ b o,b<w.heap.size→w3.cell? ⟨b,o,none⟩=w.cell? ⟨b,o,none⟩:=fun b o h=>B3.cell (p:=⟨b,o,none⟩) h;have hk3:∀ k,k<w.heap.size→k<w3.heap.size:=fun _ h=>Nat.lt_of_lt_of_le h B3.size;have hz3:=hb3.size;(try simp at hz3);have hl3_w0:w.heap.size<w3.heap.size:=Nat.lt_of_lt_of_le (by first | (simp;done) | (simp;omega) | omega) hb3.size;have hc3_w0:=fun o=>hb3.cell (p:=⟨w.heap.size,o,none⟩) (by first | (simp;done) | (simp;omega) | omega);have hf3_w0:=fun o=>hb3.frozen (p:=⟨w.heap.size,o,none⟩) (by first | (simp;done) | (simp;omega) | omega);(try simp [go_sem, *] at hc3_w0);(try simp [go_sem, *] at hf3_w0);have hl3_w1:w.heap.size+1<w3.heap.size:=Nat.lt_of_lt_of_le (by first | (simp;done) | (simp;omega) | omega) hb3.size;have hc3_w1:=fun o=>hb3.cell (p:=⟨w.heap.size+1,o,none⟩) (by first | (simp;done) | (simp;omega) | omega);have hf3_w1:=fun o=>hb3.frozen (p:=⟨w.heap.size+1,o,none⟩) (by first | (simp;done) | (simp;omega) | omega);(try simp [go_sem, *] at hc3_w1);(try simp [go_sem, *] at hf3_w1);clear hb3))
 have hg0:w.heap.size≠g:=by omega
 have hg1:w.heap.size+1≠g:=by omega
 have hb34:Below (w.heap.size+1+1) w3 ((w3.setCell ⟨g,8,none⟩ (.int .u8 0)).setCell ⟨g,9,none⟩ (.int .u8 0)):=((Below.refl _ w3).setCell (p:=⟨g,8,none⟩) (by show w.heap.size+1+1≤g;omega) _).setCell (p:=⟨g,9,none⟩) (by show w.heap.size+1+1≤g;omega) _
 have hx4:((w3.setCell ⟨g,8,none⟩ (.int .u8 0)).setCell ⟨g,9,none⟩ (.int .u8 0)).cell? ⟨w.heap.size,0,none⟩=some (.slice A b.length c):=(hb34.cell (p:=⟨w.heap.size,0,none⟩) (by show w.heap.size<_;omega)).trans (hc3_w0 0)
 have hR4:SegAt ((w3.setCell ⟨g,8,none⟩ (.int .u8 0)).setCell ⟨g,9,none⟩ (.int .u8 0)) (w.heap.size+1) sg.noSeg none 0 none 0:=
  SegAt.below ⟨hl3_w1,hc3_w1 0,hc3_w1 1,hc3_w1 2,hc3_w1 3,hc3_w1 4,hc3_w1 5,hc3_w1 6,hc3_w1 7,hc3_w1 8⟩ hb34 (by omega)
 have hf4:=fun o=>(hb34.frozen (p:=⟨w.heap.size+1,o,none⟩) (by show w.heap.size+1<_;omega)).trans (hf3_w1 o)
 have hO4:=blank_own HO3.out
 have hB4:Below w.heap.size w ((w3.setCell ⟨g,8,none⟩ (.int .u8 0)).setCell ⟨g,9,none⟩ (.int .u8 0)):=(B3.setCell (p:=⟨g,8,none⟩) (by show w.heap.size≤g;omega) _).setCell (p:=⟨g,9,none⟩) (by show w.heap.size≤g;omega) _
 have hz4:w.heap.size+1+1≤((w3.setCell ⟨g,8,none⟩ (.int .u8 0)).setCell ⟨g,9,none⟩ (.int .u8 0)).heap.size:=by simpa [World.setCell] using hz3
 generalize (w3.setCell ⟨g,8,none⟩ (.int .u8 0)).setCell ⟨g,9,none⟩ (.int .u8 0)=w4 at *
 clear hc3_w0 hc3_w1 hf3_w0 hf3_w1 hl3_w0 hl3_w1 ha3 hk3 hz3 B3 z8 z9 hzf hzl HO3
 obtain ⟨f,HF,hf0,hf1⟩:∃ f:Int,Hid (65535 - f=sg.sumOf (sg.blank b))∧0≤f∧f≤65535:=⟨foldOf (sumTo (sg.blank b) (sg.blank b).length),Lib.hid rfl,(foldOf_bd _ (sumTo_bd _ _).1).1,(foldOf_bd _ (sumTo_bd _ _).1).2⟩
 have HFD:Hid (∀ W:World,(∃ m,W=w4.drewN m)→Calls Try.prog 107 #[.slice (some ⟨g,0,none⟩) b.length c3] W fun e w'=>e=.returned (.int .i64 f)∧∃ m,w'=W.drewN m):=Lib.hid (fun W ⟨m,hm⟩=>by
  subst hm
  have h:=(ref_InetFold (sg.blank b) (some ⟨g,0,none⟩) c3 _ (w4.drewN m) ((hO4.drewN m).u8.2) (by rw [blank_length];exact hn)).mono (R':=fun e w'=>e=.returned (.int .i64 f)∧∃ k,w'=(w4.drewN m).drewN k) fun e w' ⟨h1,h2⟩=>⟨by rw [h1];have:=HF.out;unfold sg.sumOf at this;congr 2;omega,0,by rw [← h2];rfl⟩
  rw [blank_length] at h
  exact h)
 obtain ⟨bb,oo,rfl,hbb,hc8⟩:=u8_at (HL.out.below hB4) (show 8<b.length by omega)
 obtain ⟨b',o',he,_,hc9⟩:=u8_at (HL.out.below hB4) (show 9<b.length by omega)
 simp only [Option.some.injEq,Addr.mk.injEq,and_true] at he
 obtain ⟨rfl,rfl⟩:=he
 change _=some (Value.int .u8 (sg.byteAt b 8)) at hc8
 change _=some (Value.int .u8 (sg.byteAt b 9)) at hc9
 have hx8:=sg.byteAt_bd b 8
 have hx9:=sg.byteAt_bd b 9
 have hv1:=IntWalk.i64_in (sg.byteAt b 8) (by omega)
 have hv2:=IntWalk.i64_in (sg.byteAt b 9) (by omega)
 have hv3:=IntWalk.i64_in (256 * sg.byteAt b 8) (by omega)
 have hv4:=IntWalk.i64_in (256 * sg.byteAt b 8+sg.byteAt b 9) (by omega)
 have hv5:=IntWalk.i64_in (65535 - f) (by omega)
 have hq:256 * sg.byteAt b 8+sg.byteAt b 9=65535 - f:=by
  rw [HF.out,hs]
  show _=sg.byteAt b 8 * 256+sg.byteAt b 9
  omega
 rw [hq] at hv4
 have hbw:bb<w4.heap.size:=Nat.lt_of_lt_of_le hbb hB4.size
 have HBB:=Lib.hid hbb
 obtain ⟨b',o',he,_,hc6⟩:=u8_at (HL.out.below hB4) (show 6<b.length by omega)
 simp only [Option.some.injEq,Addr.mk.injEq,and_true] at he
 obtain ⟨rfl,rfl⟩:=he
 change _=some (Value.int .u8 (sg.byteAt b 6)) at hc6
 clear hs
 generalize sg.byteAt b 8=y8 at *
 generalize sg.byteAt b 9=y9 at *
 clear HF hbb
 go_wp2_with fail
 go_quiet ((go_at_call 107;exact Calls.quiet_of (HFD.out _ ⟨_,by first | rfl | (rw [World.drewN_drewN])⟩)))
 clear hc8 hc9 hv1 hv2 hv3 hv4 hv5 HFD hO4 hq
 have hHW:=fun W (h:W.cell? ⟨w.heap.size,0,none⟩=some (.slice (some ⟨bb,oo,none⟩) b.length c)) (hB:Below w.heap.size w W) i j (hj:j=((i:Nat):Int)) hi=>ref_word b (some ⟨bb,oo,none⟩) c w.heap.size _ W h (HL.out.below hB) i j hj hi hn
 have HW:=Lib.hid hHW
 clear hHW
 have hx5:(w4.drewN nq).cell? ⟨w.heap.size,0,none⟩=some (.slice (some ⟨bb,oo,none⟩) b.length c):=hx4
 have hc5:(w4.drewN nq).cell? ⟨bb,oo+6,none⟩=some (.int .u8 (sg.byteAt b 6)):=hc6
 have hR5:SegAt (w4.drewN nq) (w.heap.size+1) sg.noSeg none 0 none 0:=hR4
 have hf5:∀ o,(w4.drewN nq).frozen? ⟨w.heap.size+1,o,none⟩=false:=hf4
 have hB5:Below w.heap.size w (w4.drewN nq):=bdrewN hB4 nq
 have hz5:w.heap.size+1+1≤(w4.drewN nq).heap.size:=hz4
 have hbw5:bb<(w4.drewN nq).heap.size:=hbw
 generalize w4.drewN nq=w5 at *
 clear hx4 hc6 hR4 hf4 hB4 hz4 hbw hb34
 have HR5:=Lib.hid hR5
 clear hR5
 have hx6:=sg.byteAt_bd b 6
 have h6':(6:Int)<(b.length:Int):=by omega
 have h7':(7:Int)<(b.length:Int):=by omega
 have HJ0:Hid ((0:Int)=((0:Nat):Int)∧0+1<b.length):=Lib.hid ⟨by omega,by omega⟩
 have HJ2:Hid ((2:Int)=((2:Nat):Int)∧2+1<b.length):=Lib.hid ⟨by omega,by omega⟩
 have HJ4:Hid ((4:Int)=((4:Nat):Int)∧4+1<b.length):=Lib.hid ⟨by omega,by omega⟩
 have hal:∀ M,SegAt ((w5.drewN M).alloc (.cells #[.int .i64 0,.int .i64 0,.int .i64 0,.bool false,.bool false,.bool false,.bool false,.slice none 0 0,.slice none 0 0] 134)) w5.heap.size sg.noSeg none 0 none 0:=fun M=>segAt_alloc (w5.drewN M) sg.noSeg none none 0 0
 have a0:∀ M,((w5.drewN M).alloc (.cells #[.int .i64 0,.int .i64 0,.int .i64 0,.bool false,.bool false,.bool false,.bool false,.slice none 0 0,.slice none 0 0] 134)).cell? ⟨w5.heap.size,0,none⟩=some (.int .i64 0):=fun M=>(hal M).2.1
 have a1:∀ M,((w5.drewN M).alloc (.cells #[.int .i64 0,.int .i64 0,.int .i64 0,.bool false,.bool false,.bool false,.bool false,.slice none 0 0,.slice none 0 0] 134)).cell? ⟨w5.heap.size,1,none⟩=some (.int .i64 0):=fun M=>(hal M).2.2.1
 have a2:∀ M,((w5.drewN M).alloc (.cells #[.int .i64 0,.int .i64 0,.int .i64 0,.bool false,.bool false,.bool false,.bool false,.slice none 0 0,.slice none 0 0] 134)).cell? ⟨w5.heap.size,2,none⟩=some (.int .i64 0):=fun M=>(hal M).2.2.2.1
 have a3:∀ M,((w5.drewN M).alloc (.cells #[.int .i64 0,.int .i64 0,.int .i64 0,.bool false,.bool false,.bool false,.bool false,.slice none 0 0,.slice none 0 0] 134)).cell? ⟨w5.heap.size,3,none⟩=some (.bool false):=fun M=>(hal M).2.2.2.2.1
 have a4:∀ M,((w5.drewN M).alloc (.cells #[.int .i64 0,.int .i64 0,.int .i64 0,.bool false,.bool false,.bool false,.bool false,.slice none 0 0,.slice none 0 0] 134)).cell? ⟨w5.heap.size,4,none⟩=some (.bool false):=fun M=>(hal M).2.2.2.2.2.1
 have a5:∀ M,((w5.drewN M).alloc (.cells #[.int .i64 0,.int .i64 0,.int .i64 0,.bool false,.bool false,.bool false,.bool false,.slice none 0 0,.slice none 0 0] 134)).cell? ⟨w5.heap.size,5,none⟩=some (.bool false):=fun M=>(hal M).2.2.2.2.2.2.1
 have a6:∀ M,((w5.drewN M).alloc (.cells #[.int .i64 0,.int .i64 0,.int .i64 0,.bool false,.bool false,.bool false,.bool false,.slice none 0 0,.slice none 0 0] 134)).cell? ⟨w5.heap.size,6,none⟩=some (.bool false):=fun M=>(hal M).2.2.2.2.2.2.2.1
 have a7:∀ M,((w5.drewN M).alloc (.cells #[.int .i64 0,.int .i64 0,.int .i64 0,.bool false,.bool false,.bool false,.bool false,.slice none 0 0,.slice none 0 0] 134)).cell? ⟨w5.heap.size,7,none⟩=some (.slice none 0 0):=fun M=>(hal M).2.2.2.2.2.2.2.2.1
 have a8:∀ M,((w5.drewN M).alloc (.cells #[.int .i64 0,.int .i64 0,.int .i64 0,.bool false,.bool false,.bool false,.bool false,.slice none 0 0,.slice none 0 0] 134)).cell? ⟨w5.heap.size,8,none⟩=some (.slice none 0 0):=fun M=>(hal M).2.2.2.2.2.2.2.2.2
 have af:∀ M o,((w5.drewN M).alloc (.cells #[.int .i64 0,.int .i64 0,.int .i64 0,.bool false,.bool false,.bool false,.bool false,.slice none 0 0,.slice none 0 0] 134)).frozen? ⟨w5.heap.size,o,none⟩=false:=fun M o=>by
  have:=(Below.refl 0 w5)
  simp [World.alloc,World.frozen?,World.drewN]
 have HN1:Hid (w.heap.size≠w5.heap.size):=Lib.hid (by omega)
 have HN2:Hid (bb≠w5.heap.size):=Lib.hid (by omega)
 have HBZ:Hid (∀ M,Below w5.heap.size w5 ((w5.drewN M).alloc (.cells #[.int .i64 0,.int .i64 0,.int .i64 0,.bool false,.bool false,.bool false,.bool false,.slice none 0 0,.slice none 0 0] 134))):=Lib.hid (fun M=>balloc (bdrewN (bself w5) M) _)
 have HA1:=Lib.hid (fun M=>((HBZ.out M).cell (p:=⟨w.heap.size,0,none⟩) (by show w.heap.size<w5.heap.size;omega)).trans hx5)
 have HA2:=Lib.hid (fun M=>((HBZ.out M).cell (p:=⟨bb,oo+6,none⟩) hbw5).trans hc5)
 have HAL:=Lib.hid hal
 have HAF:=Lib.hid af
 have HFIN:Hid (∀ W,Below w5.heap.size w5 W→SegAt W w5.heap.size sg.noSeg none 0 none 0→(∀ o,W.frozen? ⟨w5.heap.size,o,none⟩=false) →
   DecAt w (((((((((W.setCell ⟨w5.heap.size,0,none⟩ (.int .i64 (sg.w16 b 0))).setCell ⟨w5.heap.size,1,none⟩ (.int .i64 (sg.w16 b 2))).setCell ⟨w5.heap.size,2,none⟩ (.int .i64 (sg.w16 b 4))).setCell ⟨w5.heap.size,3,none⟩ (.bool (sg.flagAt b 1))).setCell ⟨w5.heap.size,4,none⟩ (.bool (sg.flagAt b 2))).setCell ⟨w5.heap.size,5,none⟩ (.bool (sg.flagAt b 4))).setCell ⟨w5.heap.size,6,none⟩ (.bool (sg.flagAt b 8))).setCell ⟨w5.heap.size,7,none⟩ (.slice none 0 0)).setCell ⟨w5.heap.size,8,none⟩ (.slice none 0 0)) w5.heap.size (some ⟨bb,oo,none⟩) b.length c (sg.part2 b 0) none 0 none 0):=Lib.hid (fun W hb h hf=>
  have hbn:=hb.trans (below_nine (G:=w5.heap.size) (W:=W))
  have hw5:w.heap.size+1<w5.heap.size:=by omega
  ⟨(hbn.cell (p:=⟨w.heap.size,0,none⟩) (show w.heap.size<w5.heap.size by omega)).trans hx5,HR5.out.below hbn hw5,fun o=>(hbn.frozen (p:=⟨w.heap.size+1,o,none⟩) hw5).trans (hf5 o),h.nine (sg.part2 b 0) rfl rfl,fun o=>by simp only [World.frozen?_setCell];exact hf o,hw5,bnext hB5 hbn⟩)
 have u1:IntKind.u8.wrap ((sg.byteAt b 6).tdiv 2)=sg.byteAt b 6 / 2:=by rw [Int.tdiv_eq_ediv_of_nonneg hx6.1];exact IntWalk.u8_in _ (by omega)
 have u2:IntKind.u8.wrap ((sg.byteAt b 6).tdiv 4)=sg.byteAt b 6 / 4:=by rw [Int.tdiv_eq_ediv_of_nonneg hx6.1];exact IntWalk.u8_in _ (by omega)
 have u3:IntKind.u8.wrap ((sg.byteAt b 6).tdiv 8)=sg.byteAt b 6 / 8:=by rw [Int.tdiv_eq_ediv_of_nonneg hx6.1];exact IntWalk.u8_in _ (by omega)
 have t0:((sg.byteAt b 6).tmod 2 == 1)=sg.flagAt b 1:=by rw [Int.tmod_eq_emod_of_nonneg hx6.1];simp [sg.flagAt];try rfl
 have t1:((sg.byteAt b 6 / 2).tmod 2 == 1)=sg.flagAt b 2:=by rw [Int.tmod_eq_emod_of_nonneg (by omega)];simp [sg.flagAt];try rfl
 have t2:((sg.byteAt b 6 / 4).tmod 2 == 1)=sg.flagAt b 4:=by rw [Int.tmod_eq_emod_of_nonneg (by omega)];simp [sg.flagAt];try rfl
 have t3:((sg.byteAt b 6 / 8).tmod 2 == 1)=sg.flagAt b 8:=by rw [Int.tmod_eq_emod_of_nonneg (by omega)];simp [sg.flagAt];try rfl
 generalize sg.flagAt b 1=F1 at *
 generalize sg.flagAt b 2=F2 at *
 generalize sg.flagAt b 4=F3 at *
 generalize sg.flagAt b 8=F4 at *
 go_upto_region 9 with fail
 go_cut [6] (fun s6 wx=>s6=.pointer (some ⟨w5.heap.size,0,none⟩)∧Hid (DecAt w wx w5.heap.size (some ⟨bb,oo,none⟩) b.length c (sg.part2 b 0) none 0 none 0)∧w5.heap.size<wx.heap.size)
 case first=>
  go_region_held3 (fun w'=>w'.cell? ⟨w.heap.size,0,none⟩=some (.slice (some ⟨bb,oo,none⟩) b.length c)∧w'.cell? ⟨bb,oo+6,none⟩=some (.int .u8 (sg.byteAt b 6)))
   (first
    | go_keep
    | (refine ⟨?_,?_⟩;(rw [cell_other HN1.out,cell_other HN1.out,cell_other HN1.out,cell_other HN1.out,cell_other HN1.out,cell_other HN1.out,cell_other HN1.out,cell_other HN1.out,cell_other HN1.out];first | exact HA1.out _ | (simp only [World.cell?_drew,World.cell?_drewN];exact HA1.out _));(rw [cell_other HN2.out,cell_other HN2.out,cell_other HN2.out,cell_other HN2.out,cell_other HN2.out,cell_other HN2.out,cell_other HN2.out,cell_other HN2.out,cell_other HN2.out];first | exact HA2.out _ | (simp only [World.cell?_drew,World.cell?_drewN];exact HA2.out _)))
    | fail)
   (first
    | (go_at_call 108;(with_reducible refine (HW.out _ ?_ ?_ _ _ HJ0.out.1 HJ0.out.2).mono ?_);(first | assumption | (simp only [World.cell?_drew];assumption) | exact HA1.out _ | (simp only [World.cell?_drew,World.cell?_drewN];exact HA1.out _));(exact (by repeat (first | (with_reducible first | exact Below.refl _ _ | assumption | refine bset ?_ ?_ _ | refine balloc ?_ _ | refine Below.drew ?_ | refine bdrewN ?_ _ | refine bnext ?_ (by with_reducible assumption)) | exact Nat.le_refl _ | (simp;done) | omega | (simp;omega))));rintro e w6 ⟨rfl,m1,rfl⟩)
    | (go_at_call 108;(with_reducible refine (HW.out _ ?_ ?_ _ _ HJ2.out.1 HJ2.out.2).mono ?_);(first | assumption | (simp only [World.cell?_drewN];assumption) | exact HA1.out _ | (simp only [World.cell?_drew,World.cell?_drewN];exact HA1.out _));(exact (by repeat (first | (with_reducible first | exact Below.refl _ _ | assumption | refine bset ?_ ?_ _ | refine balloc ?_ _ | refine Below.drew ?_ | refine bdrewN ?_ _ | refine bnext ?_ (by with_reducible assumption)) | exact Nat.le_refl _ | (simp;done) | omega | (simp;omega))));rintro e w6 ⟨rfl,m3,rfl⟩)
    | (go_at_call 108;(with_reducible refine (HW.out _ ?_ ?_ _ _ HJ4.out.1 HJ4.out.2).mono ?_);(first | assumption | (simp only [World.cell?_drewN];assumption) | exact HA1.out _ | (simp only [World.cell?_drew,World.cell?_drewN];exact HA1.out _));(exact (by repeat (first | (with_reducible first | exact Below.refl _ _ | assumption | refine bset ?_ ?_ _ | refine balloc ?_ _ | refine Below.drew ?_ | refine bdrewN ?_ _ | refine bnext ?_ (by with_reducible assumption)) | exact Nat.le_refl _ | (simp;done) | omega | (simp;omega))));rintro e w6 ⟨rfl,m5,rfl⟩)
    | fail)
  all_goals
   go_wp2_with fail
   go_meet
   refine ⟨rfl,Lib.hid (HFIN.out _ ?_ ?_ ?_),?_⟩
   ·first | exact HBZ.out _ | exact bdrewN (HBZ.out _) _ | exact balloc (bself w5) _ | exact bdrewN (balloc (bself w5) _) _
   ·first | exact HAL.out _ | exact (HAL.out _).drewN _ | exact HAL.out 0 | exact (HAL.out 0).drewN _
   ·intro o
    first | exact HAF.out _ o | exact HAF.out 0 o | (simp only [World.frozen?_drewN];first | exact HAF.out _ o | exact HAF.out 0 o)
   ·simp [World.setCell]
 case rest=>
  obtain ⟨rfl,HD,hzr⟩:=hcut
  rename World=>wr
  have hGz:=hz5
  clear a0 a1 a2 a3 a4 a5 a6 a7 a8 af hal HAL HAF HA1 HA2 HBZ HFIN t0 t1 t2 t3 u1 u2 u3 HN1 HN2 hc5 hx5 HR5 hf5 HJ0 HJ2 HJ4 hB5 hbw5 hx6
  generalize w5.heap.size=G at *
  obtain ⟨b',o',he,_,hc7⟩:=u8_at (HL.out.below HD.out.below) (show 7<b.length by omega)
  simp only [Option.some.injEq,Addr.mk.injEq,and_true] at he
  obtain ⟨rfl,rfl⟩:=he
  change _=some (Value.int .u8 ((sg.count b:Nat):Int)) at hc7
  have hcb:sg.count b<256:=(b.getD 7 0).toNat_lt
  have x0:=HD.out.box
  have hBw:=HD.out.below
  by_cases hL:b.length<10+4 * sg.count b
  ·have HDX:Hid (sg.dec b=.error 4):=Lib.hid (by unfold sg.dec;rw [if_neg (by omega),if_neg (fun e=>e HSUM.out),if_pos (.inr hL)])
   have hL':(b.length:Int)<10+4 * (sg.count b:Int):=by omega
   obtain ⟨_,r1,r2,r3,r4,r5,r6,r7,r8,r9⟩:=HD.out.res
   simp only [sg.noSeg,List.length_nil] at r1 r2 r3 r4 r5 r6 r7 r8 r9
   have rf:=HD.out.rfz
   clear HSUM
   go_wp2_with fail
   (try simp only [Exit.inBlock,Exit.then])
   refine bodyPost_ret (v:=.tuple #[.agg #[.int .i64 0,.int .i64 0,.int .i64 0,.bool false,.bool false,.bool false,.bool false,.slice none 0 0,.slice none 0 0],.int .i64 4]) (by simp [results,Try.results91,go_sem,r1,r2,r3,r4,r5,r6,r7,r8,r9]) rfl ?_
   exact SegRes.no HDX.out (by repeat (first | (with_reducible first | exact Below.refl _ _ | assumption | refine bset ?_ ?_ _ | refine balloc ?_ _ | refine Below.drew ?_ | refine bdrewN ?_ _ | refine bnext ?_ (by with_reducible assumption)) | exact Nat.le_refl _ | (simp;done) | omega | (simp;omega)))
  ·have hL':¬ ((b.length:Int)<10+4 * (sg.count b:Int)):=by omega
   have HDE:=Lib.hid (sg.dec_ref b h10 (by omega) HSUM.out)
   clear HSUM
   go_wp2_with fail
   have hl7:=Lib.hid hc7
   clear hc7 x0
   obtain ⟨nn,hnn⟩:∃ nn,nn=sg.count b:=⟨_,rfl⟩
   rw [← hnn] at hcb hL hL' ⊢
   have HNN:=Lib.hid hnn
   clear hnn
   go_loopw [8] (fun i wq=>∃ (k:Nat) (A0:Option Addr) (c0:Nat),k≤nn∧i=.int .i64 k∧Hid (DecAt w wq G (some ⟨bb,oo,none⟩) b.length c (sg.part2 b k) A0 c0 none 0)∧G<wq.heap.size∧Hid (Own wq (G+1) 78 2 A0 k c0 ((sg.rngs b k).flatMap Rng.cells))) (fun i _=>nn - (intOf i).toNat)
   case atStart=>exact ⟨0,none,0,by omega,rfl,HD,hzr,Lib.hid (Own.nil _ _ _ _)⟩
   case round=>
    obtain ⟨k,A0,c0,hk',rfl,HQ,hzq,HO⟩:=hrel
    rename World=>wq
    clear HD hBw
    by_cases hlt:k<nn
    ·have hlt':(k:Int)<(nn:Int):=by omega
     have x0:=HQ.out.box
     have x1:=HQ.out.seg.2.2.2.2.2.2.2.2.1
     have x2:=HQ.out.sfz 7
     rw [show (sg.part2 b k).sacks.length=k from sg.rngs_length b k] at x1
     have HB:=HQ.out.below
     have HW:=Lib.hid (fun W (h:W.cell? ⟨w.heap.size,0,none⟩=some (.slice (some ⟨bb,oo,none⟩) b.length c)) (hB:Below w.heap.size w W) i j (hj:j=((i:Nat):Int)) hi=>ref_word b (some ⟨bb,oo,none⟩) c w.heap.size _ W h (HL.out.below hB) i j hj hi hn)
     have hwr1:=IntWalk.i64_in (4 * (k:Int)) (by omega)
     have hwr2:=IntWalk.i64_in (10+4 * (k:Int)) (by omega)
     have hwr3:=IntWalk.i64_in (12+4 * (k:Int)) (by omega)
     have HJ1:Hid (10+4 * (k:Int)=((10+4 * k:Nat):Int)∧10+4 * k+1<b.length):=Lib.hid ⟨by omega,by omega⟩
     have HJ2:Hid (12+4 * (k:Int)=((10+4 * k+2:Nat):Int)∧10+4 * k+2+1<b.length):=Lib.hid ⟨by omega,by omega⟩
     have HOX:=Lib.hid (fun m o=>(HO.out.drewN m).alloc o)
     have HZX:Hid (∀ {m:Nat},wq.heap.size=(wq.drewN m).heap.size):=Lib.hid rfl
     have HSX:Hid (∀ (m:Nat) (o:Obj),G+1≤((wq.drewN m).alloc o).heap.size):=Lib.hid (fun m o=>by simp;omega)
     have HV:Hid (∀ u ∈ [Value.int .i64 (sg.w16 b (10+4 * k)),.int .i64 (sg.w16 b (10+4 * k+2))],u.oneCell'=true):=Lib.hid (by simp [Value.oneCell'])
     have HBX:∀ (m:Nat) (o:Obj),Below wq.heap.size wq ((wq.drewN m).alloc o):=fun m o=>balloc (bdrewN (bself wq) m) o
     have hGw:=HQ.out.hG
     have HC7:=Lib.hid (fun m o=>((HBX m o).cell (p:=⟨G,7,none⟩) hzq).trans x1)
     have HF7:=Lib.hid (fun m o=>((HBX m o).frozen (p:=⟨G,7,none⟩) hzq).trans x2)
     have HC0:=Lib.hid (fun m o=>((HBX m o).cell (p:=⟨w.heap.size,0,none⟩) (show w.heap.size<wq.heap.size by omega)).trans x0)
     have HSW:Hid (∀ (m:Nat) (o:Obj),w.heap.size<((wq.drewN m).alloc o).heap.size):=Lib.hid (fun m o=>Nat.lt_of_lt_of_le (show w.heap.size<wq.heap.size by omega) (HBX m o).size)
     have HNE:Hid (∀ x,blkOf A0=some x→x≠G):=Lib.hid (fun x hx=>by have:=(HO.out.lt x hx).1;omega)
     have HNW:Hid (∀ x,blkOf A0=some x→x≠w.heap.size):=Lib.hid (fun x hx=>by have:=(HO.out.lt x hx).1;omega)
     have hC7u:=HC7.out
     clear HBX
     have HRG:Hid ((sg.rngs b (k+1)).flatMap Rng.cells=(sg.rngs b k).flatMap Rng.cells ++ [.int .i64 (sg.w16 b (10+4 * k)),.int .i64 (sg.w16 b (10+4 * k+2))]):=Lib.hid (by simp [sg.rngs,Rng.cells])
     go_wp2_with fail
     (try clear h10');(try clear h8');(try clear h9');(try clear h6');(try clear h7');(try clear hL);(try clear hL');(try clear hx8);(try clear hx9);(try clear hf0);(try clear hf1);(try clear hg);(try clear hg0);(try clear hg1);(try clear hbw);(try clear hzr);(try clear hGz);(try clear hGw);(try clear hn);(try clear h10);(try clear HL);(try clear HDE);(try clear HNN);(try clear HR5);(try clear HBB);(try clear hl7);(try clear HF);(try clear HSUM);(try clear hc8);(try clear hc9);(try clear HD)
     go_region_law
      (first
       | (go_simp;go_at_call 108;(first | (with_reducible refine (HW.out _ ?_ ?_ _ _ HJ1.out.1 HJ1.out.2).mono ?_) | (with_reducible refine (HW.out _ ?_ ?_ _ _ HJ2.out.1 HJ2.out.2).mono ?_));(first | assumption | (simp only [World.cell?_drew,World.cell?_drewN];assumption));(exact (by repeat (first | (with_reducible first | exact Below.refl _ _ | assumption | refine bset ?_ ?_ _ | refine balloc ?_ _ | refine Below.drew ?_ | refine bdrewN ?_ _ | refine bnext ?_ (by with_reducible assumption)) | exact Nat.le_refl _ | (simp;done) | omega | (simp;omega))));rintro e w9 ⟨rfl,m1,rfl⟩)
       | ((refine step_app _ (by rfl) _ _ _ (by rfl) elemRng (G+1) A0 k c0 _ (by rfl) (HOX.out _ _) (some ⟨wq.heap.size,0,none⟩) 1 1 [.int .i64 (sg.w16 b (10+4 * k)),.int .i64 (sg.w16 b (10+4 * k+2))] (by rfl) (by rfl) (Cells.newAt _ _ _ HZX.out) HV.out (by omega) (by unfold maxLen;omega) (HSX.out _ _) ?_;intro A11 c11 w11 hO11 hg11;have x5:=(hg11.cell (b:=G) 7 (HSX.out _ _) HNE.out).trans (HC7.out _ _);have x6:=(hg11.frozen (b:=G) 7 (HSX.out _ _) HNE.out).trans (HF7.out _ _);have x7:=(hg11.cell (b:=w.heap.size) 0 (HSW.out _ _) HNW.out).trans (HC0.out _ _)))
       | fail)
     all_goals
      have hbq:Below (G+1) wq w11:=Below.trans ((balloc (bdrewN (bself wq) _) _).mono (by omega)) (hg11.below (HSX.out _ _) (fun x hx=>(HO.out.lt x hx).1))
      have HQ2:=Lib.hid ((HQ.out.next hbq (Nat.lt_succ_self _)).put (s':=sg.part2 b (k+1)) (A0':=A11) (c0':=c11) (A1':=none) (c1':=0) 7 (.slice A11 (k+1) c11) (by decide) (by simp [segCells,sg.part2,sg.segOf,sg.rngs_length]))
      have hz11:G<w11.heap.size:=Nat.lt_of_lt_of_le hzq hbq.size
      have HO2:Hid (Own (w11.setCell ⟨G,7,none⟩ (.slice A11 (k+1) c11)) (G+1) 78 2 A11 (k+1) c11 ((sg.rngs b (k+1)).flatMap Rng.cells)):=Lib.hid (by rw [HRG.out];exact hO11.setCell (fun e=>absurd (hO11.lt _ e).1 (Nat.not_succ_le_self G)) _)
      clear hO11 hg11 hbq HQ HO HRG
      go_wp2
      go_roundw
      case rel=>exact ⟨k+1,A11,c11,by omega,by go_num,HQ2,by simpa [World.setCell] using hz11,HO2⟩
      case measure=>simp [intOf];omega
    ·obtain rfl:k=nn:=by omega
     have x0:=HQ.out.box
     have HB:=HQ.out.below
     have hcut:=run_cut_l (P:=Try.prog) elemU8 (some ⟨bb,oo,none⟩) b.length c (10+4 * k) (by omega) (10+4 * (k:Int)) (by omega)
     have HR:=Lib.hid (HL.out.drop (f:=10+4 * k) (by omega))
     have HCK:=Lib.hid ((HR.out.below HB).cells_u8)
     have hlen:(sg.rngs b k).length=k:=sg.rngs_length b k
     have hr0:=HO.out.rng.2
     obtain ⟨s,hs⟩:∃ s,s=sg.segOf b:=⟨_,rfl⟩
     have hsk:s.sacks=sg.rngs b k:=by rw [hs,HNN.out];rfl
     have hsd:s.data=b.drop (10+4 * k):=by rw [hs,HNN.out];rfl
     have hQs:∀ (W:World) (A12:Option Addr) (c12:Nat),DecAt w W G (some ⟨bb,oo,none⟩) b.length c (sg.part2 b k) A0 c0 none 0→DecAt w (W.setCell ⟨G,8,none⟩ (.slice A12 (b.length - (10+4 * k)) c12)) G (some ⟨bb,oo,none⟩) b.length c s A0 c0 A12 c12:=fun W A12 c12 h=>
      h.put 8 _ (by decide) (by simp [segCells,hsk,hsd,sg.part2,sg.rngs_length];rw [hs];simp)
     have hD:sg.dec b=if sg.fault s=0∧exL (sg.enc s)=b then .ok s else .error 4:=by rw [hs];exact HDE.out
     have hk1:s.sacks.length=k:=by rw [hsk];exact hlen
     have hk2:s.data.length=b.length - (10+4 * k):=by rw [hsd];simp
     have HEQ:Hid (∀ W:World,SegAt W G (sg.part2 b k) A0 c0 none 0→W.cell? ⟨G,0,none⟩=some (.int .i64 s.seq)∧W.cell? ⟨G,1,none⟩=some (.int .i64 s.ack)∧W.cell? ⟨G,2,none⟩=some (.int .i64 s.window)∧W.cell? ⟨G,3,none⟩=some (.bool s.syn)∧W.cell? ⟨G,4,none⟩=some (.bool s.fin)∧W.cell? ⟨G,5,none⟩=some (.bool s.rst)∧W.cell? ⟨G,6,none⟩=some (.bool s.acks)∧W.cell? ⟨G,7,none⟩=some (.slice A0 k c0)∧W.cell? ⟨G,8,none⟩=some (.slice none 0 0)):=Lib.hid (fun W h=>by
      obtain ⟨_,h0,h1,h2,h3,h4,h5,h6,h7,h8⟩:=h
      rw [show (sg.part2 b k).sacks.length=k from hlen] at h7
      rw [hs]
      exact ⟨h0,h1,h2,h3,h4,h5,h6,h7,h8⟩)
     have HR0:=Lib.hid hr0
     have HQS:=Lib.hid hQs
     have HSK:=Lib.hid hsk
     have HSD:=Lib.hid hsd
     have HK1:=Lib.hid hk1
     have HK2:=Lib.hid hk2
     have hGw:=HQ.out.hG
     have HDD:=Lib.hid hD
     clear hQs hs hsk hsd hk1 hk2 hD hr0 hlen HDE HNN
     have HCP:=Lib.hid hcut
     clear hcut
     have hcut:=HCP.out
     have HLQ:Hid (G<wq.heap.size):=Lib.hid hzq
     have hE8:=HEQ.out _ HQ.out.seg
     have hF8:=HQ.out.sfz 8
     have HE8:=Lib.hid hE8.2.2.2.2.2.2.2.2
     clear hE8
     have hu8:∀ v,u8v v=u8v v:=fun _=>rfl
     clear hu8
     go_wp2_with (at_builtin;(refine wp_app _ rfl _ _ _ rfl elemU8 wq.heap.size none 0 0 [] rfl (Own.nil _ _ _ _) (cutA (some ⟨bb,oo,none⟩) c (10+4 * k) 1) (b.length - (10+4 * k)) (c - (10+4 * k)) ((b.drop (10+4 * k)).map u8v) rfl (by simp) HCK.out (oneCell_u8 _) (by omega) (by unfold maxLen;omega) (Nat.le_refl _) ?_;intro A12 c12 w12 ho12 hg12;simp only [Nat.zero_add,List.nil_append] at ho12 ⊢;have hb12:=hg12.below (Nat.le_refl _) (fun k hk=>by cases hk);have q8:=(hb12.cell (p:=⟨G,8,none⟩) HLQ.out).trans HE8.out;have qf:=(hb12.frozen (p:=⟨G,8,none⟩) HLQ.out).trans hF8;obtain ⟨q0,q1,q2,q3,q4,q5,q6,q7,_⟩:=HEQ.out _ (HQ.out.next hb12 hzq).seg))
     have HO12:=Lib.hid ho12
     have hD12:=HQ.out.next hb12 hzq
     have HD13:=Lib.hid (HQS.out _ A12 c12 hD12)
     have hz12:G<w12.heap.size:=Nat.lt_of_lt_of_le hzq hb12.size
     have hzq12:=hb12.size
     have HX1:Hid (SlRep Rng.rep (w12.setCell ⟨G,8,none⟩ (.slice A12 (b.length - (10+4 * k)) c12)) (fun j=>G+1≤j∧j<(w12.setCell ⟨G,8,none⟩ (.slice A12 (b.length - (10+4 * k)) c12)).heap.size) s.sacks A0 c0):=Lib.hid (by
      rw [HSK.out]
      exact HR0.out.keep fun j hj=>⟨⟨hj.1,by simpa [World.setCell] using Nat.lt_of_lt_of_le hj.2 hzq12⟩,(Below.heap_setCell w12 ⟨G,8,none⟩ _ j (by show j≠G;omega)).trans (hb12.block j hj.2)⟩)
     have HX2:Hid (SlRep Rep.u8 (w12.setCell ⟨G,8,none⟩ (.slice A12 (b.length - (10+4 * k)) c12)) (fun j=>G+1≤j∧j<(w12.setCell ⟨G,8,none⟩ (.slice A12 (b.length - (10+4 * k)) c12)).heap.size) s.data A12 c12):=Lib.hid (by
      rw [HSD.out]
      exact HO12.out.u8.2.keep fun j hj=>⟨⟨by omega,by simpa [World.setCell] using hj.2⟩,Below.heap_setCell w12 ⟨G,8,none⟩ _ j (by show j≠G;omega)⟩)
     have hz13:G<(w12.setCell ⟨G,8,none⟩ (.slice A12 (b.length - (10+4 * k)) c12)).heap.size:=by simpa [World.setCell] using hz12
     clear ho12 hD12 hb12
     have hF:=ref_Encoded_res s A0 A12 c0 c12 _ (HX1.out.keep fun j hj=>⟨hj.2,rfl⟩) (HX2.out.keep fun j hj=>⟨hj.2,rfl⟩) (by rw [HK1.out];omega) (by rw [HK2.out];omega)
     unfold Segment.val at hF
     rw [HK1.out,HK2.out] at hF
     have HF:=Lib.hid hF
     clear hF
     go_wp2_with fail
     refine HF.out.mono ?_
     rintro e w14 ⟨A15,c15,rfl,ho15,hb14⟩
     rw [sg.exC_enc]
     have hcs1:=run_string ho15.u8.2
     clear HF q0 q1 q2 q3 q4 q5 q6 q7 q8 qf ho15
     have hD14:=HD13.out.next hb14 hz13
     have hcs2:=run_string (HL.out.below hD14.below)
     have x0:=hD14.box
     obtain ⟨q0,q1,q2,q3,q4,q5,q6,q7,q8,q9⟩:=hD14.seg
     rw [HK1.out] at q8
     rw [HK2.out] at q9
     obtain ⟨_,r1,r2,r3,r4,r5,r6,r7,r8,r9⟩:=hD14.res
     simp only [sg.noSeg,List.length_nil] at r1 r2 r3 r4 r5 r6 r7 r8 r9
     have rf:=hD14.rfz
     have hBw:=hD14.below
     have HX3:Hid (SlRep Rng.rep w14 (fun j=>G+1≤j∧j<w14.heap.size) s.sacks A0 c0):=Lib.hid (HX1.out.keep fun j hj=>⟨⟨hj.1,Nat.lt_of_lt_of_le hj.2 hb14.size⟩,hb14.block j hj.2⟩)
     have HX4:Hid (SlRep Rep.u8 w14 (fun j=>G+1≤j∧j<w14.heap.size) s.data A12 c12):=Lib.hid (HX2.out.keep fun j hj=>⟨⟨hj.1,Nat.lt_of_lt_of_le hj.2 hb14.size⟩,hb14.block j hj.2⟩)
     have hne1:¬ (G=w.heap.size+1):=by omega
     have hne2:¬ (w.heap.size+1=G):=by omega
     clear HX1 HX2 HD13 hD14 hb14
     obtain ⟨L,HLL⟩:∃ L,Hid (exL (sg.enc s)=L):=⟨_,Lib.hid rfl⟩
     rw [HLL.out] at hcs1 ⊢
     by_cases hft:sg.fault s=0
     ·by_cases hlb:L=b
      ·have HE:Hid (sg.dec b=.ok s):=Lib.hid (by rw [HDD.out,if_pos ⟨hft,by rw [HLL.out,hlb]⟩])
       rw [hft]
       subst hlb
       clear hft HDD HLL
       go_wp2_with fail
       (try simp only [Exit.inBlock,Exit.then])
       refine bodyPost_ret (v:=.tuple #[.agg #[.int .i64 s.seq,.int .i64 s.ack,.int .i64 s.window,.bool s.syn,.bool s.fin,.bool s.rst,.bool s.acks,.slice A0 k c0,.slice A12 (L.length - (10+4 * k)) c12],.int .i64 0]) (by simp [results,Try.results91,go_sem,r1,r2,r3,r4,r5,r6,r7,r8,r9]) rfl ?_
       rw [HE.out]
       refine ⟨A0,c0,A12,c12,by simp only [segOr,exC,Segment.val,HK1.out,HK2.out],?_,?_,(by repeat (first | (with_reducible first | exact Below.refl _ _ | assumption | refine bset ?_ ?_ _ | refine balloc ?_ _ | refine Below.drew ?_ | refine bdrewN ?_ _ | refine bnext ?_ (by with_reducible assumption)) | exact Nat.le_refl _ | (simp;done) | omega | (simp;omega)))⟩
       ·exact HX3.out.keep fun j hj=>⟨⟨by omega,by simpa [World.setCell] using hj.2⟩,by rw [Below.heap_setCell _ _ _ j (by show j≠w.heap.size+1;omega),Below.heap_setCell _ _ _ j (by show j≠w.heap.size+1;omega),Below.heap_setCell _ _ _ j (by show j≠w.heap.size+1;omega),Below.heap_setCell _ _ _ j (by show j≠w.heap.size+1;omega),Below.heap_setCell _ _ _ j (by show j≠w.heap.size+1;omega),Below.heap_setCell _ _ _ j (by show j≠w.heap.size+1;omega),Below.heap_setCell _ _ _ j (by show j≠w.heap.size+1;omega),Below.heap_setCell _ _ _ j (by show j≠w.heap.size+1;omega),Below.heap_setCell _ _ _ j (by show j≠w.heap.size+1;omega)]⟩
       ·exact HX4.out.keep fun j hj=>⟨⟨by omega,by simpa [World.setCell] using hj.2⟩,by rw [Below.heap_setCell _ _ _ j (by show j≠w.heap.size+1;omega),Below.heap_setCell _ _ _ j (by show j≠w.heap.size+1;omega),Below.heap_setCell _ _ _ j (by show j≠w.heap.size+1;omega),Below.heap_setCell _ _ _ j (by show j≠w.heap.size+1;omega),Below.heap_setCell _ _ _ j (by show j≠w.heap.size+1;omega),Below.heap_setCell _ _ _ j (by show j≠w.heap.size+1;omega),Below.heap_setCell _ _ _ j (by show j≠w.heap.size+1;omega),Below.heap_setCell _ _ _ j (by show j≠w.heap.size+1;omega),Below.heap_setCell _ _ _ j (by show j≠w.heap.size+1;omega)]⟩
      ·have HE:Hid (sg.dec b=.error 4):=Lib.hid (by rw [HDD.out,if_neg (fun e=>hlb (by rw [← HLL.out];exact e.2))])
       have hq1:((strOf L).toList == (strOf b).toList)=false:=by rw [beq_eq_false_iff_ne,strOf_toList,strOf_toList];exact hlb
       have hq2:(!(strOf L).toList == (strOf b).toList)=true:=by rw [hq1];rfl
       rw [hft]
       clear hft HDD HLL hlb
       go_wp2_with fail
       (try simp only [Exit.inBlock,Exit.then])
       refine bodyPost_ret (v:=.tuple #[.agg #[.int .i64 0,.int .i64 0,.int .i64 0,.bool false,.bool false,.bool false,.bool false,.slice none 0 0,.slice none 0 0],.int .i64 4]) (by simp [results,Try.results91,go_sem,r1,r2,r3,r4,r5,r6,r7,r8,r9]) rfl ?_
       exact SegRes.no HE.out (by repeat (first | (with_reducible first | exact Below.refl _ _ | assumption | refine bset ?_ ?_ _ | refine balloc ?_ _ | refine Below.drew ?_ | refine bdrewN ?_ _ | refine bnext ?_ (by with_reducible assumption)) | exact Nat.le_refl _ | (simp;done) | omega | (simp;omega)))
     ·have HE:Hid (sg.dec b=.error 4):=Lib.hid (by rw [HDD.out,if_neg (fun e=>hft e.1)])
      have hft1:(sg.fault s == 0)=false:=by rw [beq_eq_false_iff_ne];exact hft
      have hft2:(sg.fault s != 0)=true:=by rw [bne,hft1];rfl
      clear HDD HLL
      generalize sg.fault s=ft at *
      go_wp2_with fail
      (try simp only [Exit.inBlock,Exit.then])
      refine bodyPost_ret (v:=.tuple #[.agg #[.int .i64 0,.int .i64 0,.int .i64 0,.bool false,.bool false,.bool false,.bool false,.slice none 0 0,.slice none 0 0],.int .i64 4]) (by simp [results,Try.results91,go_sem,r1,r2,r3,r4,r5,r6,r7,r8,r9]) rfl ?_
      exact SegRes.no HE.out (by repeat (first | (with_reducible first | exact Below.refl _ _ | assumption | refine bset ?_ ?_ _ | refine balloc ?_ _ | refine Below.drew ?_ | refine bdrewN ?_ _ | refine bnext ?_ (by with_reducible assumption)) | exact Nat.le_refl _ | (simp;done) | omega | (simp;omega)))
end Go.Proofs.Ytdldfllllgogoaa
namespace Go.Proofs.Ytdldfllllgogoaa
open Go.RowKit
theorem seg_Decode_res (b:List UInt8) (A:Option Addr) (c:Nat) (w:World) (hl:SlRep Rep.u8 w (· < w.heap.size) b A c) (hn:b.length≤140737488351232) :
  Calls Try.prog 101 #[.slice A b.length c] w (SegRes (sg.dec b) w):=by
 by_cases h1:b.length<10
 ·rw [show sg.dec b=.error 5 from if_pos h1]
  exact seg_Decode_short b A c w h1
 ·by_cases h2:sg.sumOf (sg.blank b)=sg.w16 b 8
  ·exact seg_Decode_long b A c w hl hn (by omega) h2
  ·rw [show sg.dec b=.error 6 by unfold sg.dec;rw [if_neg h1,if_pos h2]]
   exact seg_Decode_sum b A c w hl hn (by omega) h2
theorem ref_Decoded_res (b:List UInt8) (A:Option Addr) (c:Nat) (w:World) (hl:SlRep Rep.u8 w (· < w.heap.size) b A c) (hn:b.length≤140737488351232) :
  Calls Try.prog 91 #[.slice A b.length c] w (SegRes (sg.dec b) w):=by
 by_cases h1:b.length<10
 ·rw [show sg.dec b=.error 5 from if_pos h1]
  exact ref_Decoded_short b A c w h1
 ·by_cases h2:sg.sumOf (sg.blank b)=sg.w16 b 8
  ·exact ref_Decoded_long b A c w hl hn (by omega) h2
  ·rw [show sg.dec b=.error 6 by unfold sg.dec;rw [if_neg h1,if_pos h2]]
   exact ref_Decoded_sum b A c w hl hn (by omega) h2
end Go.Proofs.Ytdldfllllgogoaa
namespace Go.Proofs.Ytdldfllllgogoaa
open Go.RowKit
set_option linter.unusedSimpArgs false
theorem SegRes.open {r:Except Int Segment} {w w':World} {e:Ending} (h:SegRes r w e w') :
  ∃ sq ak wn sy fi rs as_ sk dt A0 c0 A1 c1,segOr r=⟨sq,ak,wn,sy,fi,rs,as_,sk,dt⟩∧e=.returned (.tuple #[.agg #[.int .i64 sq,.int .i64 ak,.int .i64 wn,.bool sy,.bool fi,.bool rs,.bool as_,.slice A0 sk.length c0,.slice A1 dt.length c1],.int .i64 (exC r)])∧SlRep Rng.rep w' (fun k=>w.heap.size≤k∧k<w'.heap.size) sk A0 c0∧SlRep Rep.u8 w' (fun k=>w.heap.size≤k∧k<w'.heap.size) dt A1 c1∧Below w.heap.size w w':=by
 obtain ⟨A0,c0,A1,c1,he,h0,h1,hb⟩:=h
 obtain ⟨s,hs⟩:∃ s,segOr r=s:=⟨_,rfl⟩
 obtain ⟨sq,ak,wn,sy,fi,rs,as_,sk,dt⟩:=s
 rw [hs] at he h0 h1
 exact ⟨sq,ak,wn,sy,fi,rs,as_,sk,dt,A0,c0,A1,c1,hs,he,h0,h1,hb⟩
theorem SegRes.mk' {r:Except Int Segment} {w w':World} {sq ak wn:Int} {sy fi rs as_:Bool} {sk:List Rng} {dt:List UInt8} {A0:Option Addr} {c0:Nat} {A1:Option Addr} {c1:Nat} {B:Nat} (hs:segOr r=⟨sq,ak,wn,sy,fi,rs,as_,sk,dt⟩) (hB:w.heap.size≤B) (h0:SlRep Rng.rep w' (fun k=>B≤k∧k<w'.heap.size) sk A0 c0) (h1:SlRep Rep.u8 w' (fun k=>B≤k∧k<w'.heap.size) dt A1 c1) (hb:Below w.heap.size w w') :
  SegRes r w (.returned (.tuple #[.agg #[.int .i64 sq,.int .i64 ak,.int .i64 wn,.bool sy,.bool fi,.bool rs,.bool as_,.slice A0 sk.length c0,.slice A1 dt.length c1],.int .i64 (exC r)])) w':=by
 refine ⟨A0,c0,A1,c1,?_,?_,?_,hb⟩
 ·rw [hs]
  rfl
 ·rw [hs]
  exact h0.keep fun k hk=>⟨⟨Nat.le_trans hB hk.1,hk.2⟩,rfl⟩
 ·rw [hs]
  exact h1.keep fun k hk=>⟨⟨Nat.le_trans hB hk.1,hk.2⟩,rfl⟩
theorem Stays.nine (w:World) (F:Nat) (v0 v1 v2 v3 v4 v5 v6 v7 v8:Value):Stays w (((((((((w.setCell ⟨F,0,none⟩ v0).setCell ⟨F,1,none⟩ v1).setCell ⟨F,2,none⟩ v2).setCell ⟨F,3,none⟩ v3).setCell ⟨F,4,none⟩ v4).setCell ⟨F,5,none⟩ v5).setCell ⟨F,6,none⟩ v6).setCell ⟨F,7,none⟩ v7).setCell ⟨F,8,none⟩ v8) (fun k=>k=F):=
 ((((((((Stays.set _ _ _ _).comp (Stays.set _ _ _ _)).comp (Stays.set _ _ _ _)).comp (Stays.set _ _ _ _)).comp (Stays.set _ _ _ _)).comp (Stays.set _ _ _ _)).comp (Stays.set _ _ _ _)).comp (Stays.set _ _ _ _)).comp (Stays.set _ _ _ _)
set_option maxRecDepth 100000 in
set_option maxHeartbeats 2000000 in
theorem pipe_taken (B W:Nat) (x:pp.Wire) (a:WAd) (id:Int) (b:Bool) (w:World) (h:WAt w B W x a) (hl:x.frames.length≤1000) (hid:IntOk id) (hsz:∀ f,f ∈ x.frames→f.bytes.length≤86) :
  Calls Try.prog 86 #[.pointer (some ⟨W,0,none⟩),.int .i64 id,.bool b] w (SegRes (pp.taken x id b) w):=by
 unfold IntOk at hid
 have hlen:=h.len
 have H:=Lib.hid h
 obtain ⟨w1,hw1⟩:∃ w1,w1=w.alloc (.cells #[.int .i64 0,.int .i64 0,.int .i64 0,.bool false,.bool false,.bool false,.bool false,.slice none 0 0,.slice none 0 0] 134):=⟨_,rfl⟩
 have hb1:Below w.heap.size w w1:=by rw [hw1];exact balloc (bself w) _
 have HZ1:Hid (BlkA w1 w.heap.size 134 #[.int .i64 0,.int .i64 0,.int .i64 0,.bool false,.bool false,.bool false,.bool false,.slice none 0 0,.slice none 0 0]):=Lib.hid (by rw [hw1];exact BlkA.new _ _ _)
 have h1:=h.next hb1
 have HB1:=Lib.hid hb1
 have zd:=HZ1.out.get
 have ze:=HZ1.out.frozen
 have lz:=HZ1.out.lt
 have hW1:=h1.blk.lt
 have p3:=h1.ptrF
 rw [hlen] at hl
 have HNO:Hid (∀ w',pp.taken x id b=.error 7→Stays w1 w' (fun k=>k=w.heap.size)→SegRes (pp.taken x id b) w (.returned (.tuple #[.agg #[.int .i64 0,.int .i64 0,.int .i64 0,.bool false,.bool false,.bool false,.bool false,.slice none 0 0,.slice none 0 0],.int .i64 7])) w'):=Lib.hid (fun w' hc hs=>by
  exact SegRes.no hc (((Stays.of_below HB1.out (fun k=>k=w.heap.size)).comp hs).below (Nat.le_refl _) (fun k hk=>Nat.le_of_eq hk.symm)))
 by_cases k1:id<0
 ·have HE:Hid (pp.taken x id b=.error 7):=Lib.hid (by unfold pp.taken;rw [if_pos (.inl k1)])
  clear h h1 hb1
  go_enter Try.func86,Try.ntmps86
  go_upto_region 1 with (fail)
  rw [← hw1]
  clear hw1
  go_wp2
  refine bodyPost_ret (v:=.tuple #[.agg #[.int .i64 0,.int .i64 0,.int .i64 0,.bool false,.bool false,.bool false,.bool false,.slice none 0 0,.slice none 0 0],.int .i64 7]) (by simp [results,Try.results86,go_sem, *]) rfl (HNO.out _ HE.out ?_)
  exact Stays.nine _ _ _ _ _ _ _ _ _ _ _
 by_cases k2:(a.fa.length:Int)≤id
 ·have HE:Hid (pp.taken x id b=.error 7):=Lib.hid (by unfold pp.taken;rw [if_pos (.inr (.inl (by omega)))])
  clear h h1 hb1
  go_enter Try.func86,Try.ntmps86
  go_upto_region 1 with (fail)
  rw [← hw1]
  clear hw1
  go_wp2
  refine bodyPost_ret (v:=.tuple #[.agg #[.int .i64 0,.int .i64 0,.int .i64 0,.bool false,.bool false,.bool false,.bool false,.slice none 0 0,.slice none 0 0],.int .i64 7]) (by simp [results,Try.results86,go_sem, *]) rfl (HNO.out _ HE.out ?_)
  exact Stays.nine _ _ _ _ _ _ _ _ _ _ _
 obtain ⟨i,rfl⟩:∃ i:Nat,id=i:=⟨id.toNat,by omega⟩
 have hi:i<a.fa.length:=by omega
 obtain ⟨g,hg,hgB,hgl,d0,d1,d2⟩:=h1.frs.at_ hi
 have hgD:=h.getD i
 have HROW:=Lib.hid (h1.frs.row hi)
 have hsz1:(a.fa.getD i FrA.z).fr.bytes.length≤86:=by rw [← hgD];exact hsz _ (pp.getD_mem (by omega))
 have HTK:Hid (pp.taken x i b=if (a.fa.getD i FrA.z).fr.back≠b then .error 7 else sg.dec (a.fa.getD i FrA.z).fr.bytes):=Lib.hid (by
  unfold pp.taken
  simp only [Int.toNat_natCast]
  rw [hgD]
  by_cases c:(a.fa.getD i FrA.z).fr.back≠b
  ·rw [if_pos (.inr (.inr c)),if_pos c]
  ·rw [if_neg (fun e=>by rcases e with e | e | e;omega;omega;exact c e),if_neg c])
 generalize a.fa.getD i FrA.z=f at *
 have hi':(i:Int)<(a.fa.length:Int):=by omega
 have q2:decide (a.fa.length≤i)=false:=by simpa using hi
 have q1:decide ((i:Int)<0)=false:=by simp
 clear h hb1 hgD k1 k2
 rw [hg] at p3
 by_cases hbk:f.fr.back=b
 ·have HE:Hid (pp.taken x i b=sg.dec f.fr.bytes):=Lib.hid (by rw [HTK.out,if_neg (fun e=>e hbk)])
  have HDE:=Lib.hid (seg_Decode_res f.fr.bytes f.A f.c w1 ((Own.u8 HROW.out).2.within fun k hk=>hk.2) (by omega))
  have hbb:(b == b)=true:=by simp
  rw [hbk] at d1
  have HFIN:Hid (∀ (sq ak wn:Int) (sy fi rs as_:Bool) (sk:List Rng) (dt:List UInt8) (A0:Option Addr) (c0:Nat) (A1:Option Addr) (c1:Nat) (w2 w':World),segOr (sg.dec f.fr.bytes)=⟨sq,ak,wn,sy,fi,rs,as_,sk,dt⟩→SlRep Rng.rep w2 (fun k=>w1.heap.size≤k∧k<w2.heap.size) sk A0 c0→SlRep Rep.u8 w2 (fun k=>w1.heap.size≤k∧k<w2.heap.size) dt A1 c1→Below w1.heap.size w1 w2→Stays w2 w' (fun k=>k=w.heap.size)→SegRes (pp.taken x i b) w (.returned (.tuple #[.agg #[.int .i64 sq,.int .i64 ak,.int .i64 wn,.bool sy,.bool fi,.bool rs,.bool as_,.slice A0 sk.length c0,.slice A1 dt.length c1],.int .i64 (exC (sg.dec f.fr.bytes))])) w'):=Lib.hid (fun sq ak wn sy fi rs as_ sk dt A0 c0 A1 c1 w2 w' hs g0 g1 hb hst=>by
   rw [HE.out]
   have hz1:w.heap.size<w1.heap.size:=lz
   exact SegRes.mk' hs HB1.out.size (g0.keep fun k hk=>⟨⟨hk.1,Nat.lt_of_lt_of_le hk.2 hst.size⟩,hst.block k hk.2 (by omega)⟩) (g1.keep fun k hk=>⟨⟨hk.1,Nat.lt_of_lt_of_le hk.2 hst.size⟩,hst.block k hk.2 (by omega)⟩) (((Stays.of_below (bnext HB1.out hb) (fun k=>k=w.heap.size)).comp hst).below (Nat.le_refl _) (fun k hk=>Nat.le_of_eq hk.symm)))
  clear hbk HTK h1
  go_enter Try.func86,Try.ntmps86
  go_upto_region 1 with (fail)
  rw [← hw1]
  clear hw1
  go_wp2_with (first
   | (go_at_call 101;((with_reducible refine HDE.out.mono ?_);rintro e w2 hres;obtain ⟨sq,ak,wn,sy,fi,rs,as_,sk,dt,A0,c0,A1,c1,hseg,rfl,r0,r1,hb2⟩:=SegRes.open hres;have z2:=HZ1.out.next hb2;have zd:=z2.get;have ze:=z2.frozen;have lz2:=z2.lt;have HSG:=Lib.hid hseg;have R0:=Lib.hid r0;have R1:=Lib.hid r1;have HB2:=Lib.hid hb2;clear hres hseg r0 r1 hb2 z2))
   | fail)
  refine bodyPost_ret (v:=.tuple #[.agg #[.int .i64 sq,.int .i64 ak,.int .i64 wn,.bool sy,.bool fi,.bool rs,.bool as_,.slice A0 sk.length c0,.slice A1 dt.length c1],.int .i64 (exC (sg.dec f.fr.bytes))]) (by simp [results,Try.results86,go_sem, *]) rfl (HFIN.out _ _ _ _ _ _ _ _ _ _ _ _ _ _ _ HSG.out R0.out R1.out HB2.out ?_)
  exact Stays.nine _ _ _ _ _ _ _ _ _ _ _
 ·have HE:Hid (pp.taken x i b=.error 7):=Lib.hid (by rw [HTK.out,if_pos hbk])
  have hbb:(f.fr.back == b)=false:=by simpa using hbk
  clear hbk HTK h1
  generalize f.fr.back=fb at *
  go_enter Try.func86,Try.ntmps86
  go_upto_region 1 with (fail)
  rw [← hw1]
  clear hw1
  go_wp2
  refine bodyPost_ret (v:=.tuple #[.agg #[.int .i64 0,.int .i64 0,.int .i64 0,.bool false,.bool false,.bool false,.bool false,.slice none 0 0,.slice none 0 0],.int .i64 7]) (by simp [results,Try.results86,go_sem, *]) rfl (HNO.out _ HE.out ?_)
  exact Stays.nine _ _ _ _ _ _ _ _ _ _ _
end Go.Proofs.Ytdldfllllgogoaa
namespace Go.Proofs.Ytdldfllllgogoaa
open Go.RowKit
set_option linter.unusedSimpArgs false
set_option maxRecDepth 100000 in
set_option maxHeartbeats 2000000 in
theorem rpipe_open (B W:Nat) (x:pp.Wire) (a:RAd) (m:Nat) (id:Int) (b:Bool) (w:World) (h:RAt w B W x a m) (hl:x.frames.length≤1000) (hid:IntOk id) (hsz:∀ f,f ∈ x.frames→f.bytes.length≤86) :
  Calls Try.prog 65 #[.pointer (some ⟨W,0,none⟩),.int .i64 id,.bool b] w (SegRes (pp.taken x id b) w):=by
 unfold IntOk at hid
 have hlen:=h.len
 have H:=Lib.hid h
 obtain ⟨w1,hw1⟩:∃ w1,w1=w.alloc (.cells #[.int .i64 0,.int .i64 0,.int .i64 0,.bool false,.bool false,.bool false,.bool false,.slice none 0 0,.slice none 0 0] 134):=⟨_,rfl⟩
 have hb1:Below w.heap.size w w1:=by rw [hw1];exact balloc (bself w) _
 have HZ1:Hid (BlkA w1 w.heap.size 134 #[.int .i64 0,.int .i64 0,.int .i64 0,.bool false,.bool false,.bool false,.bool false,.slice none 0 0,.slice none 0 0]):=Lib.hid (by rw [hw1];exact BlkA.new _ _ _)
 have h1:=h.next hb1
 have HB1:=Lib.hid hb1
 have zd:=HZ1.out.get
 have ze:=HZ1.out.frozen
 have lz:=HZ1.out.lt
 have hW1:=h1.blk.lt
 have p3:=h1.ptrF
 rw [hlen] at hl
 have HNO:Hid (∀ w',pp.taken x id b=.error 7→Stays w1 w' (fun k=>k=w.heap.size)→SegRes (pp.taken x id b) w (.returned (.tuple #[.agg #[.int .i64 0,.int .i64 0,.int .i64 0,.bool false,.bool false,.bool false,.bool false,.slice none 0 0,.slice none 0 0],.int .i64 7])) w'):=Lib.hid (fun w' hc hs=>by
  exact SegRes.no hc (((Stays.of_below HB1.out (fun k=>k=w.heap.size)).comp hs).below (Nat.le_refl _) (fun k hk=>Nat.le_of_eq hk.symm)))
 by_cases k1:id<0
 ·have HE:Hid (pp.taken x id b=.error 7):=Lib.hid (by unfold pp.taken;rw [if_pos (.inl k1)])
  clear h h1 hb1
  go_enter Try.func65,Try.ntmps65
  go_upto_region 1 with (fail)
  rw [← hw1]
  clear hw1
  go_wp2
  refine bodyPost_ret (v:=.tuple #[.agg #[.int .i64 0,.int .i64 0,.int .i64 0,.bool false,.bool false,.bool false,.bool false,.slice none 0 0,.slice none 0 0],.int .i64 7]) (by simp [results,Try.results65,go_sem, *]) rfl (HNO.out _ HE.out ?_)
  exact Stays.nine _ _ _ _ _ _ _ _ _ _ _
 by_cases k2:(a.fa.length:Int)≤id
 ·have HE:Hid (pp.taken x id b=.error 7):=Lib.hid (by unfold pp.taken;rw [if_pos (.inr (.inl (by omega)))])
  clear h h1 hb1
  go_enter Try.func65,Try.ntmps65
  go_upto_region 1 with (fail)
  rw [← hw1]
  clear hw1
  go_wp2
  refine bodyPost_ret (v:=.tuple #[.agg #[.int .i64 0,.int .i64 0,.int .i64 0,.bool false,.bool false,.bool false,.bool false,.slice none 0 0,.slice none 0 0],.int .i64 7]) (by simp [results,Try.results65,go_sem, *]) rfl (HNO.out _ HE.out ?_)
  exact Stays.nine _ _ _ _ _ _ _ _ _ _ _
 obtain ⟨i,rfl⟩:∃ i:Nat,id=i:=⟨id.toNat,by omega⟩
 have hi:i<a.fa.length:=by omega
 obtain ⟨g,hg,hgB,hgl,d0,d1,d2⟩:=h1.frs.at_ hi
 have hgD:=h.getD i
 have HROW:=Lib.hid (h1.frs.row hi)
 have hsz1:(a.fa.getD i FrA.z).fr.bytes.length≤86:=by rw [← hgD];exact hsz _ (pp.getD_mem (by omega))
 have HTK:Hid (pp.taken x i b=if (a.fa.getD i FrA.z).fr.back≠b then .error 7 else sg.dec (a.fa.getD i FrA.z).fr.bytes):=Lib.hid (by
  unfold pp.taken
  simp only [Int.toNat_natCast]
  rw [hgD]
  by_cases c:(a.fa.getD i FrA.z).fr.back≠b
  ·rw [if_pos (.inr (.inr c)),if_pos c]
  ·rw [if_neg (fun e=>by rcases e with e | e | e;omega;omega;exact c e),if_neg c])
 generalize a.fa.getD i FrA.z=f at *
 have hi':(i:Int)<(a.fa.length:Int):=by omega
 have q2:decide (a.fa.length≤i)=false:=by simpa using hi
 have q1:decide ((i:Int)<0)=false:=by simp
 clear h hb1 hgD k1 k2
 rw [hg] at p3
 by_cases hbk:f.fr.back=b
 ·have HE:Hid (pp.taken x i b=sg.dec f.fr.bytes):=Lib.hid (by rw [HTK.out,if_neg (fun e=>e hbk)])
  have HDE:=Lib.hid (ref_Decoded_res f.fr.bytes f.A f.c w1 ((Own.u8 HROW.out).2.within fun k hk=>hk.2) (by omega))
  have hbb:(b == b)=true:=by simp
  rw [hbk] at d1
  have HFIN:Hid (∀ (sq ak wn:Int) (sy fi rs as_:Bool) (sk:List Rng) (dt:List UInt8) (A0:Option Addr) (c0:Nat) (A1:Option Addr) (c1:Nat) (w2 w':World),segOr (sg.dec f.fr.bytes)=⟨sq,ak,wn,sy,fi,rs,as_,sk,dt⟩→SlRep Rng.rep w2 (fun k=>w1.heap.size≤k∧k<w2.heap.size) sk A0 c0→SlRep Rep.u8 w2 (fun k=>w1.heap.size≤k∧k<w2.heap.size) dt A1 c1→Below w1.heap.size w1 w2→Stays w2 w' (fun k=>k=w.heap.size)→SegRes (pp.taken x i b) w (.returned (.tuple #[.agg #[.int .i64 sq,.int .i64 ak,.int .i64 wn,.bool sy,.bool fi,.bool rs,.bool as_,.slice A0 sk.length c0,.slice A1 dt.length c1],.int .i64 (exC (sg.dec f.fr.bytes))])) w'):=Lib.hid (fun sq ak wn sy fi rs as_ sk dt A0 c0 A1 c1 w2 w' hs g0 g1 hb hst=>by
   rw [HE.out]
   have hz1:w.heap.size<w1.heap.size:=lz
   exact SegRes.mk' hs HB1.out.size (g0.keep fun k hk=>⟨⟨hk.1,Nat.lt_of_lt_of_le hk.2 hst.size⟩,hst.block k hk.2 (by omega)⟩) (g1.keep fun k hk=>⟨⟨hk.1,Nat.lt_of_lt_of_le hk.2 hst.size⟩,hst.block k hk.2 (by omega)⟩) (((Stays.of_below (bnext HB1.out hb) (fun k=>k=w.heap.size)).comp hst).below (Nat.le_refl _) (fun k hk=>Nat.le_of_eq hk.symm)))
  clear hbk HTK h1
  go_enter Try.func65,Try.ntmps65
  go_upto_region 1 with (fail)
  rw [← hw1]
  clear hw1
  go_wp2_with (first
   | (go_at_call 91;((with_reducible refine HDE.out.mono ?_);rintro e w2 hres;obtain ⟨sq,ak,wn,sy,fi,rs,as_,sk,dt,A0,c0,A1,c1,hseg,rfl,r0,r1,hb2⟩:=SegRes.open hres;have z2:=HZ1.out.next hb2;have zd:=z2.get;have ze:=z2.frozen;have lz2:=z2.lt;have HSG:=Lib.hid hseg;have R0:=Lib.hid r0;have R1:=Lib.hid r1;have HB2:=Lib.hid hb2;clear hres hseg r0 r1 hb2 z2))
   | fail)
  refine bodyPost_ret (v:=.tuple #[.agg #[.int .i64 sq,.int .i64 ak,.int .i64 wn,.bool sy,.bool fi,.bool rs,.bool as_,.slice A0 sk.length c0,.slice A1 dt.length c1],.int .i64 (exC (sg.dec f.fr.bytes))]) (by simp [results,Try.results65,go_sem, *]) rfl (HFIN.out _ _ _ _ _ _ _ _ _ _ _ _ _ _ _ HSG.out R0.out R1.out HB2.out ?_)
  exact Stays.nine _ _ _ _ _ _ _ _ _ _ _
 ·have HE:Hid (pp.taken x i b=.error 7):=Lib.hid (by rw [HTK.out,if_pos hbk])
  have hbb:(f.fr.back == b)=false:=by simpa using hbk
  clear hbk HTK h1
  generalize f.fr.back=fb at *
  go_enter Try.func65,Try.ntmps65
  go_upto_region 1 with (fail)
  rw [← hw1]
  clear hw1
  go_wp2
  refine bodyPost_ret (v:=.tuple #[.agg #[.int .i64 0,.int .i64 0,.int .i64 0,.bool false,.bool false,.bool false,.bool false,.slice none 0 0,.slice none 0 0],.int .i64 7]) (by simp [results,Try.results65,go_sem, *]) rfl (HNO.out _ HE.out ?_)
  exact Stays.nine _ _ _ _ _ _ _ _ _ _ _
end Go.Proofs.Ytdldfllllgogoaa
