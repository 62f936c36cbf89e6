/- Texts in one: Seg3, PipeR2, Pipe1, Pipe2, Fork, Pipe3, Pipe4, SegD2. No condition. -/
import Derived.Test.YtdldfllllgogoaaPipM10
import Derived.Deep.DeepCutAuto
import Derived.Test.YtdldfllllgogoaaPipM9
import Derived.Test.YtdldfllllgogoaaPipM4
import Derived.Test.YtdldfllllgogoaaPipM6
import Derived.Test.YtdldfllllgogoaaPipM3
import Derived.Test.YtdldfllllgogoaaPipM1
import Derived.Laws.BitsAllLaws
import Derived.Laws.BitsLemmas
namespace Go.Proofs.Ytdldfllllgogoaa
open Go.RowKit
/-- the box B holds a slice that owns the cells xs -/
structure BoxAt (w:World) (B:Nat) (A:Option Addr) (m c:Nat) (xs:List Value):Prop where
 cell:w.cell? ⟨B,0,none⟩=some (.slice A m c)
 fz:w.frozen? ⟨B,0,none⟩=false
 lt:B<w.heap.size
 own:Own w (B+1) 5 1 A m c xs
theorem BoxAt.next {w w':World} {B:Nat} {A:Option Addr} {m c:Nat} {xs:List Value} (h:BoxAt w B A m c xs) (hb:Below w.heap.size w w'):BoxAt w' B A m c xs:=
 ⟨(hb.cell (p:=⟨B,0,none⟩) h.lt).trans h.cell,(hb.frozen (p:=⟨B,0,none⟩) h.lt).trans h.fz,Nat.lt_of_lt_of_le h.lt hb.size,h.own.next hb⟩
theorem BoxAt.stored {w w':World} {B:Nat} {A A':Option Addr} {m c m' c':Nat} {xs ys:List Value} (h:BoxAt w B A m c xs) (hg:Grew w w' A A') (ho:Own w' (B+1) 5 1 A' m' c' ys):BoxAt (w'.setCell ⟨B,0,none⟩ (.slice A' m' c')) B A' m' c' ys:=by
 have hne:∀ k,blkOf A=some k→k≠B:=fun k hk=>by have:=(h.own.lt k hk).1;omega
 have hc:=(hg.cell (b:=B) 0 h.lt hne).trans h.cell
 have hf:=(hg.frozen (b:=B) 0 h.lt hne).trans h.fz
 exact ⟨World.cell?_setCell_same' _ _ _ (by rw [hc];rfl),by rw [World.frozen?_setCell];exact hf,by simpa [World.setCell] using Nat.lt_of_lt_of_le h.lt hg.grown.size,ho.setCell (fun e=>absurd (ho.lt _ e).1 (Nat.not_succ_le_self B)) _⟩
set_option maxHeartbeats 400000 in
theorem ref_put (n:Int) (hn:0≤n∧n<65536) (B:Nat) (A:Option Addr) (m c:Nat) (xs:List Value) (w:World) (hb:BoxAt w B A m c xs) (hm:m≤1000000) :
  Calls Try.prog 106 #[.int .i64 n,.pointer (some ⟨B,0,none⟩)] w fun e w'=>∃ A' c',e=.returned (.tuple #[])∧BoxAt w' B A' (m+2) c' (xs ++ (sg.two n).map u8v)∧Below B w w'∧∀ k,k<w.heap.size→k≠B→blkOf A≠some k→w'.heap[k]? = w.heap[k]?:=by
 have HB:=Lib.hid hb
 obtain ⟨h1,h2⟩:=hn
 have HV:Hid ((sg.two n).map u8v=[.int .u8 (n / 256),.int .u8 (n % 256)]):=Lib.hid (by
  simp only [sg.two,List.map_cons,List.map_nil,u8v,byteOf_toNat]
  congr 2
  omega)
 have hx:=hb.cell
 have hf:=hb.fz
 have hl:=hb.lt
 clear hb
 go_enter Try.func106,Try.ntmps106
 go_wp2_with (at_builtin;(refine wp_app _ rfl _ _ _ rfl elemU8 (B+1) A _ c _ rfl (HB.out.own.alloc _) _ 2 2 [_,_] rfl rfl (Cells.newAt _ _ _ rfl) (by simp [Value.oneCell']) (by omega) (by unfold maxLen;omega) (by simp;omega) ?_;intro A2 c2 w2 hO2 hg2;have HO2:=Lib.hid hO2;clear hO2;have hgg:Grew w w2 A A2:=((Grew.refl w A).alloc _).trans hg2;have hx2:=hgg.cell (b:=B) 0 hl (fun k hk=>by have:=(HB.out.own.lt k hk).1;omega);have hf2:=hgg.frozen (b:=B) 0 hl (fun k hk=>by have:=(HB.out.own.lt k hk).1;omega);rw [hx] at hx2;rw [hf] at hf2))
 go_end0
 refine ⟨A2,c2,rfl,HB.out.stored hgg (by rw [HV.out];exact HO2.out),(hgg.below (B:=B) (by omega) (fun k hk=>by have:=(HB.out.own.lt k hk).1;omega)).setCell (p:=⟨B,0,none⟩) (Nat.le_refl _) _,fun k hk h1 h2=>(Below.heap_setCell w2 ⟨B,0,none⟩ _ k (fun e=>h1 e)).trans (hgg.grown.block k hk (fun e=>h2 e.symm))⟩
theorem segAt_alloc (w:World) (s:Segment) (A0 A1:Option Addr) (c0 c1:Nat):SegAt (w.alloc (.cells #[.int .i64 s.seq,.int .i64 s.ack,.int .i64 s.window,.bool s.syn,.bool s.fin,.bool s.rst,.bool s.acks,.slice A0 s.sacks.length c0,.slice A1 s.data.length c1] 134)) w.heap.size s A0 c0 A1 c1:=
 ⟨by simp,by simp [go_sem],by simp [go_sem],by simp [go_sem],by simp [go_sem],by simp [go_sem],by simp [go_sem],by simp [go_sem],by simp [go_sem],by simp [go_sem]⟩
theorem seg_bare_fold {w:World} {base:Nat} {s:Segment} {A:Option Addr} {c:Nat} (h:Own w base 5 1 A (10+4 * s.sacks.length+s.data.length) c ((sg.head s ++ sg.ranges s s.sacks.length).map u8v ++ s.data.map u8v))
  (hn:10+4 * s.sacks.length+s.data.length≤1000):Calls Try.prog 107 #[.slice A (10+4 * s.sacks.length+s.data.length) c] w fun e w'=>e=.returned (.int .i64 (foldOf (sumTo (sg.bare s) (sg.bare s).length)))∧w=w':=by
 rw [← List.map_append] at h
 have h2:Own w base 5 1 A (10+4 * s.sacks.length+s.data.length) c ((sg.bare s).map u8v):=h
 rw [← sg.bare_length s] at h2 ⊢
 exact ref_InetFold (sg.bare s) A c _ w h2.u8.2 (by have:=sg.bare_length s;omega)
set_option maxRecDepth 100000 in
set_option maxHeartbeats 2000000 in
theorem ref_Encoded_no (s:Segment) (A0 A1:Option Addr) (c0 c1:Nat) (w:World) (h0:SlRep Rng.rep w (· < w.heap.size) s.sacks A0 c0) (hn0:s.sacks.length≤140737488351232) (hn1:s.data.length≤140737488351232) (hf:sg.fault s≠0) :
  Calls Try.prog 90 #[s.val A0 c0 A1 c1] w fun e w'=>e=.returned (.tuple #[.slice none 0 0,.int .i64 (sg.fault s)])∧Below w.heap.size w w':=by
 have H:=Lib.hid (fun w' hb=>ref_segFault s A0 A1 c0 c1 w' (SlRep.next (w:=w) (w':=w') h0 hb) hn0 hn1)
 have hb1:(sg.fault s == 0)=false:=by rw [beq_eq_false_iff_ne];exact hf
 have hb2:(sg.fault s != 0)=true:=by rw [bne,hb1];rfl
 clear h0 hf
 unfold Segment.val at *
 generalize sg.fault s=ft at *
 obtain ⟨seq,ack,window,syn,fin,rst,acks,sacks,data⟩:=s
 dsimp only at *
 go_enter Try.func90,Try.ntmps90
 go_wp2_with (go_at_call 105;refine (H.out _ (balloc (bself w) _)).mono ?_;rintro e w2 ⟨rfl,hb3⟩)
 go_ret2
 exact ⟨rfl,(by repeat (first | (with_reducible first | exact Below.refl _ _ | assumption | refine bset ?_ ?_ _ | refine balloc ?_ _ | refine Below.drew ?_ | refine bdrewN ?_ _ | refine bnext ?_ (by with_reducible assumption)) | exact Nat.le_refl _ | (simp;done) | omega | (simp;omega)))⟩
set_option maxRecDepth 100000 in
set_option maxHeartbeats 2000000 in
theorem ref_Encoded_ok (s:Segment) (A0 A1:Option Addr) (c0 c1:Nat) (w:World) (h0:SlRep Rng.rep w (· < w.heap.size) s.sacks A0 c0) (h1:SlRep Rep.u8 w (· < w.heap.size) s.data A1 c1) (hf:sg.fault s=0) :
  Calls Try.prog 90 #[s.val A0 c0 A1 c1] w (BytesRes (.ok (sg.summed (sg.bare s))) w):=by
 obtain ⟨hk1,hk2,hk3,hk4,_⟩:=sg.fault_zero hf
 have hq:(0≤s.seq∧s.seq<65536)∧(0≤s.ack∧s.ack<65536)∧(0≤s.window∧s.window<65536):=by unfold sg.bad1 at hk1;omega
 have HQ:=Lib.hid hq
 have HALL:=Lib.hid hk4
 have H:=Lib.hid (fun w' hb=>ref_segFault s A0 A1 c0 c1 w' (SlRep.next (w:=w) (w':=w') h0 hb) (by omega) (by omega))
 have H0:=Lib.hid h0
 have H1:=Lib.hid h1
 have HFZ:=Lib.hid hf
 have hcx:SegAt (w.alloc (.cells #[.int .i64 s.seq,.int .i64 s.ack,.int .i64 s.window,.bool s.syn,.bool s.fin,.bool s.rst,.bool s.acks,.slice A0 s.sacks.length c0,.slice A1 s.data.length c1] 134)) w.heap.size s A0 c0 A1 c1:=⟨by simp,by simp [go_sem],by simp [go_sem],by simp [go_sem],by simp [go_sem],by simp [go_sem],by simp [go_sem],by simp [go_sem],by simp [go_sem],by simp [go_sem]⟩
 have HCX:=Lib.hid hcx
 have hb0:Below w.heap.size w (w.alloc (.cells #[.int .i64 s.seq,.int .i64 s.ack,.int .i64 s.window,.bool s.syn,.bool s.fin,.bool s.rst,.bool s.acks,.slice A0 s.sacks.length c0,.slice A1 s.data.length c1] 134)):=balloc (bself w) _
 have hs0:w.heap.size<(w.alloc (.cells #[.int .i64 s.seq,.int .i64 s.ack,.int .i64 s.window,.bool s.syn,.bool s.fin,.bool s.rst,.bool s.acks,.slice A0 s.sacks.length c0,.slice A1 s.data.length c1] 134)).heap.size:=by simp
 clear h0 h1 hk1 hk4 hq hf hcx
 unfold Segment.val
 go_enter Try.func90,Try.ntmps90
 go_wp2_with fail
 generalize w.alloc (.cells #[.int .i64 s.seq,.int .i64 s.ack,.int .i64 s.window,.bool s.syn,.bool s.fin,.bool s.rst,.bool s.acks,.slice A0 s.sacks.length c0,.slice A1 s.data.length c1] 134)=w0 at *
 refine (H.out w0 hb0).mono ?_
 rintro e w1 ⟨rfl,hb1⟩
 rw [HFZ.out]
 have hsz1:=hb1.size
 have HC1:=Lib.hid (HCX.out.below hb1 hs0)
 have hB1:Below w.heap.size w w1:=bnext hb0 hb1
 have hw1:w.heap.size<w1.heap.size:=by omega
 clear HCX H HFZ
 have HBX:Hid (BoxAt (w1.alloc (.cells #[.slice none 0 0] 28)) w1.heap.size none 0 0 []):=Lib.hid ⟨by simp [go_sem],by simp [go_sem],by simp,Own.nil _ _ _ _⟩
 have hb12:Below w1.heap.size w1 (w1.alloc (.cells #[.slice none 0 0] 28)):=balloc (bself w1) _
 have HC2:=Lib.hid (HC1.out.below hb12 hw1)
 have x0:=HC2.out.2.1
 go_wp2_with fail
 generalize w1.alloc (.cells #[.slice none 0 0] 28)=w2 at *
 refine (ref_put s.seq HQ.out.1 w1.heap.size none 0 0 [] w2 HBX.out (by omega)).mono ?_
 rintro e w3 ⟨A3,c3,rfl,hx3,hb23,_⟩
 have HX3:=Lib.hid hx3
 have HC3:=Lib.hid (HC2.out.below hb23 hw1)
 have x1:=HC3.out.2.2.1
 clear hx3 x0
 go_wp2_with fail
 refine (ref_put s.ack HQ.out.2.1 w1.heap.size A3 2 c3 _ w3 HX3.out (by omega)).mono ?_
 rintro e w4 ⟨A4,c4,rfl,hx4,hb34,_⟩
 have HX4:=Lib.hid hx4
 have HC4:=Lib.hid (HC3.out.below hb34 hw1)
 have x2:=HC4.out.2.2.2.1
 clear hx4 x1
 go_wp2_with fail
 refine (ref_put s.window HQ.out.2.2 w1.heap.size A4 4 c4 _ w4 HX4.out (by omega)).mono ?_
 rintro e w5 ⟨A5,c5,rfl,hx5,hb45,_⟩
 have HX5:=Lib.hid hx5
 have HC5:=Lib.hid (HC4.out.below hb45 hw1)
 have hs2:=hb12.size
 have hs3:=hb23.size
 have hs4:=hb34.size
 have hs5:=hb45.size
 have hB5:Below w.heap.size w w5:=((hB1.trans (hb12.mono (by omega))).trans (hb23.mono (by omega))).trans ((hb34.mono (by omega)).trans (hb45.mono (by omega)))
 clear x2 hx5 HX3 HX4 HC2 HC3 HC4 HBX
 obtain ⟨hl5,y0,y1,y2,y3,y4,y5,y6,y7,y8⟩:=HC5.out
 obtain ⟨b1,HG1⟩:∃ b:Bool,Hid (b=s.syn):=⟨_,Lib.hid rfl⟩
 rw [← HG1.out] at y3
 obtain ⟨b2,HG2⟩:∃ b:Bool,Hid (b=s.fin):=⟨_,Lib.hid rfl⟩
 rw [← HG2.out] at y4
 obtain ⟨b3,HG3⟩:∃ b:Bool,Hid (b=s.rst):=⟨_,Lib.hid rfl⟩
 rw [← HG3.out] at y5
 obtain ⟨b4,HG4⟩:∃ b:Bool,Hid (b=s.acks):=⟨_,Lib.hid rfl⟩
 rw [← HG4.out] at y6
 obtain ⟨f1,HF1,lf1,lf1'⟩:∃ f1:Int,Hid (f1=if s.syn then 1 else 0)∧0≤f1∧f1<2:=⟨_,Lib.hid rfl,by split <;> omega,by split <;> omega⟩
 obtain ⟨f2,HF2,lf2,lf2'⟩:∃ f2:Int,Hid (f2=f1+if s.fin then 2 else 0)∧0≤f2∧f2<4:=⟨_,Lib.hid rfl,by split <;> omega,by split <;> omega⟩
 obtain ⟨f3,HF3,lf3,lf3'⟩:∃ f3:Int,Hid (f3=f2+if s.rst then 4 else 0)∧0≤f3∧f3<8:=⟨_,Lib.hid rfl,by split <;> omega,by split <;> omega⟩
 obtain ⟨f4,HF4,lf4,lf4'⟩:∃ f4:Int,Hid (f4=f3+if s.acks then 8 else 0)∧0≤f4∧f4<16:=⟨_,Lib.hid rfl,by split <;> omega,by split <;> omega⟩
 have HFL:Hid (f4=sg.flagsOf s):=Lib.hid (by rw [HF4.out,HF3.out,HF2.out,HF1.out];rfl)
 go_upto_if 30 with (fail)
 go_cut [7] (fun s7 wx=>s7=.int .i64 f1∧w5=wx)
 case first=>
  cases b1 with
  | true=>
   go_wp2_with fail
   go_meet
   exact ⟨by rw [HF1.out,← HG1.out];first | done | rfl | simp,rfl⟩
  | false=>
   go_wp2_with fail
   go_meet
   exact ⟨by rw [HF1.out,← HG1.out];first | done | rfl | simp,rfl⟩
 case rest=>
  obtain ⟨rfl,rfl⟩:=hcut
  go_upto_if 34 with (fail)
  go_cut [7] (fun s7 wx=>s7=.int .i64 f2∧w5=wx)
  case first=>
   cases b2 with
   | true=>
    go_wp2_with fail
    go_meet
    exact ⟨by rw [HF2.out,← HG2.out];first | done | rfl | simp,rfl⟩
   | false=>
    go_wp2_with fail
    go_meet
    exact ⟨by rw [HF2.out,← HG2.out];first | done | rfl | simp,rfl⟩
  case rest=>
   obtain ⟨rfl,rfl⟩:=hcut
   go_upto_if 38 with (fail)
   go_cut [7] (fun s7 wx=>s7=.int .i64 f3∧w5=wx)
   case first=>
    cases b3 with
    | true=>
     go_wp2_with fail
     go_meet
     exact ⟨by rw [HF3.out,← HG3.out];first | done | rfl | simp,rfl⟩
    | false=>
     go_wp2_with fail
     go_meet
     exact ⟨by rw [HF3.out,← HG3.out];first | done | rfl | simp,rfl⟩
   case rest=>
    obtain ⟨rfl,rfl⟩:=hcut
    go_upto_if 42 with (fail)
    go_cut [7] (fun s7 wx=>s7=.int .i64 f4∧w5=wx)
    case first=>
     cases b4 with
     | true=>
      go_wp2_with fail
      go_meet
      exact ⟨by rw [HF4.out,← HG4.out];first | done | rfl | simp,rfl⟩
     | false=>
      go_wp2_with fail
      go_meet
      exact ⟨by rw [HF4.out,← HG4.out];first | done | rfl | simp,rfl⟩
    case rest=>
     obtain ⟨rfl,rfl⟩:=hcut
     clear HF1 HF2 HF3 HF4 lf1 lf1' lf2 lf2' lf3 lf3'
     have hlk:(s.sacks.length:Int)≤3:=by omega
     have q1:=HX5.out.cell
     have q2:=HX5.out.fz
     have q3:=HX5.out.lt
     go_wp2_with (at_builtin;(refine wp_app _ rfl _ _ _ rfl elemU8 (w1.heap.size+1) A5 _ c5 _ rfl (HX5.out.own.alloc _) _ 4 4 [_,_,_,_] rfl rfl (Cells.newAt _ _ _ rfl) (by simp [Value.oneCell']) (by omega) (by unfold maxLen;omega) (by simp;omega) ?_;intro A6 c6 w6 hO6 hg6;have HO6:=Lib.hid hO6;clear hO6;have hgg:Grew w5 w6 A5 A6:=((Grew.refl w5 A5).alloc _).trans hg6;have r1:=hgg.cell (b:=w1.heap.size) 0 q3 (fun k hk=>by have:=(HX5.out.own.lt k hk).1;omega);have r2:=hgg.frozen (b:=w1.heap.size) 0 q3 (fun k hk=>by have:=(HX5.out.own.lt k hk).1;omega);rw [q1] at r1;rw [q2] at r2;have r3:=hgg.grown.size;have hb56:Below w1.heap.size w5 w6:=hgg.below (by omega) (fun k hk=>by have:=(HX5.out.own.lt k hk).1;omega);have HC6:=Lib.hid (HC5.out.below hb56 hw1);have z7:=HC6.out.2.2.2.2.2.2.2.2.1;clear y0 y1 y2 y3 y4 y5 y6 y7 y8))
     have HX7:=Lib.hid (HX5.out.stored hgg HO6.out)
     have hb7:Below w1.heap.size w6 (w6.setCell ⟨w1.heap.size,0,none⟩ (.slice A6 (6+4) c6)):=(Below.refl _ _).setCell (p:=⟨w1.heap.size,0,none⟩) (Nat.le_refl _) _
     have HC7:=Lib.hid (HC6.out.below hb7 hw1)
     have hs7:(w6.setCell ⟨w1.heap.size,0,none⟩ (.slice A6 (6+4) c6)).heap.size=w6.heap.size:=by simp [World.setCell]
     have HS7:=Lib.hid hs7
     clear hs7 r1 r2 z7 q1 q2 HX5 HC5 HC6 hgg hg6 HO6
     simp only [show 6+4=10 from rfl] at *
     generalize w6.setCell ⟨w1.heap.size,0,none⟩ (.slice A6 10 c6)=w7 at *
     have hsz7:=HS7.out
     have HB7:Hid (Below w.heap.size w w7):=Lib.hid ((hB5.trans (hb56.mono (by omega))).trans (hb7.mono (by omega)))
     have HXH:Hid (BoxAt w7 w1.heap.size A6 10 c6 ((sg.head s ++ sg.ranges s 0).map u8v)):=Lib.hid (by
      have e:(sg.head s ++ sg.ranges s 0).map u8v=(([] ++ (sg.two s.seq).map u8v ++ (sg.two s.ack).map u8v ++ (sg.two s.window).map u8v) ++ [.int .u8 f4,.int .u8 (s.sacks.length:Int),.int .u8 0,.int .u8 0]):=by
       have e1:u8v (byteOf (sg.flagsOf s))=.int .u8 f4:=by unfold u8v;rw [byteOf_toNat,← HFL.out,Int.emod_eq_of_lt lf4 (by omega)]
       have e2:u8v (byteOf s.sacks.length)=.int .u8 (s.sacks.length:Int):=by unfold u8v;rw [byteOf_toNat,Int.emod_eq_of_lt (by omega) (by omega)]
       simp [sg.head,sg.ranges,e1,e2]
       rfl
      rw [e]
      exact HX7.out)
     clear HX7 hsz7 HFL
     go_loopw [57] (fun i wr=>∃ (k:Nat) (A':Option Addr) (c':Nat),k≤s.sacks.length∧i=.int .i64 k∧Hid (BoxAt wr w1.heap.size A' (10+4 * k) c' ((sg.head s ++ sg.ranges s k).map u8v))∧Below w1.heap.size w7 wr) (fun i _=>s.sacks.length - (intOf i).toNat)
     case atStart=>exact ⟨0,A6,c6,by omega,rfl,HXH,Below.refl _ _⟩
     case round=>
      obtain ⟨k,A',c',hk,rfl,HX,hB⟩:=hrel
      rename World=>wr
      have hszr:=hB.size
      have hsz7:=HS7.out
      have hBw:Below w.heap.size w wr:=HB7.out.trans (hB.mono (by omega))
      clear hsz7
      have hltB:=HX.out.lt
      by_cases hlt:k<s.sacks.length
      ·obtain ⟨bb,oo,rfl,hbb,d1,d2⟩:=Rng.cells_at ⟨0,0⟩ (H0.out.below hBw) hlt
       have hbw:bb<wr.heap.size:=by omega
       have hr:=sg.rngOk_iff.1 (sg.all_true HALL.out hlt ⟨0,0⟩)
       have HR:=Lib.hid hr
       have HRG:Hid ((sg.head s ++ sg.ranges s (k+1)).map u8v=(sg.head s ++ sg.ranges s k).map u8v ++ (sg.two (s.sacks.getD k ⟨0,0⟩).lo).map u8v ++ (sg.two (s.sacks.getD k ⟨0,0⟩).hi).map u8v):=Lib.hid (by simp [sg.ranges])
       clear hr HXH
       generalize s.sacks.getD k ⟨0,0⟩=r at *
       obtain ⟨w8,hw8⟩:∃ w8,w8=wr.alloc (.cells #[.int .i64 r.lo,.int .i64 r.hi] 78):=⟨_,rfl⟩
       have y1:w8.cell? ⟨wr.heap.size,0,none⟩=some (.int .i64 r.lo):=by rw [hw8];simp [go_sem]
       have y2:w8.cell? ⟨wr.heap.size,1,none⟩=some (.int .i64 r.hi):=by rw [hw8];simp [go_sem]
       have hs8:wr.heap.size<w8.heap.size:=by rw [hw8];simp
       have hb8:Below wr.heap.size wr w8:=by rw [hw8];exact balloc (bself wr) _
       have HX8:=Lib.hid (HX.out.next hb8)
       have Y2:=Lib.hid y2
       clear y2
       go_wp2_with fail
       rw [← hw8]
       clear hw8 d1 d2
       refine (ref_put r.lo HR.out.1 w1.heap.size A' (10+4 * k) c' _ w8 HX8.out (by omega)).mono ?_
       rintro e w9 ⟨A9,c9,rfl,hx9,hb9,hk9⟩
       have HX9:=Lib.hid hx9
       have y3:w9.cell? ⟨wr.heap.size,1,none⟩=some (.int .i64 r.hi):=(World.cell?_of_block (hk9 wr.heap.size hs8 (by omega) (fun e=>by have:=(HX.out.own.lt _ e).2;omega))).trans Y2.out
       have hs9:wr.heap.size<w9.heap.size:=Nat.lt_of_lt_of_le hs8 hb9.size
       clear hx9 hk9 y1
       go_wp2_with fail
       refine (ref_put r.hi HR.out.2 w1.heap.size A9 (10+4 * k+2) c9 _ w9 HX9.out (by omega)).mono ?_
       rintro e w10 ⟨A10,c10,rfl,hx10,hb10,_⟩
       have HX10:Hid (BoxAt w10 w1.heap.size A10 (10+4 * (k+1)) c10 ((sg.head s ++ sg.ranges s (k+1)).map u8v)):=Lib.hid (by rw [HRG.out];exact hx10)
       clear hx10 y3 HRG
       go_wp2_with fail
       go_roundw
       case rel=>exact ⟨k+1,A10,c10,by omega,by go_num,HX10,((hB.trans (hb8.mono (by omega))).trans hb9).trans hb10⟩
       case measure=>simp [intOf];omega
      ·obtain rfl:k=s.sacks.length:=by omega
       have HC8:=Lib.hid (HC7.out.below hB hw1)
       have x8:=HC8.out.2.2.2.2.2.2.2.2.2
       have hlw:w.heap.size<wr.heap.size:=by omega
       have q1:=HX.out.cell
       have q2:=HX.out.fz
       clear HXH HC7
       obtain ⟨fv,HSM,lfv,lfv'⟩:∃ fv:Int,Hid (65535 - fv=sg.sumOf (sg.bare s))∧0≤fv∧fv≤65535:=⟨foldOf (sumTo (sg.bare s) (sg.bare s).length),Lib.hid rfl,(foldOf_bd _ (sumTo_bd _ _).1).1,(foldOf_bd _ (sumTo_bd _ _).1).2⟩
       go_wp2_with (at_builtin;(refine wp_app _ rfl _ _ _ rfl elemU8 (w1.heap.size+1) A' _ c' _ rfl HX.out.own A1 s.data.length c1 (s.data.map u8v) rfl (by simp) (by exact (H1.out.below hBw).cells_u8) (oneCell_u8 _) (by omega) (by unfold maxLen;omega) (by omega) ?_;intro A9 c9 w9 hO9 hg9;obtain ⟨g,rfl,hg1,_⟩:=seg_bare_cells hO9;have hx9:=HX.out.stored hg9 hO9;have HX9:=Lib.hid hx9;have r1:=hg9.cell (b:=w1.heap.size) 0 hltB (fun k hk=>by have:=(HX.out.own.lt k hk).1;omega);have r2:=hg9.frozen (b:=w1.heap.size) 0 hltB (fun k hk=>by have:=(HX.out.own.lt k hk).1;omega);rw [q1] at r1;rw [q2] at r2;have r3:=hg9.grown.size;clear hx9 hO9))
       obtain ⟨g',hgg',hg1',z8,z9,hzf,hzl⟩:=seg_bare_cells HX9.out.own
       simp only [Option.some.injEq,Addr.mk.injEq,and_true] at hgg'
       subst hgg'
       have p1:=HX9.out.cell
       have p2:=HX9.out.fz
       have p3:=HX9.out.lt
       have hne:g≠w1.heap.size:=by omega
       have hne':w1.heap.size≠g:=by omega
       have hSU:=seg_bare_fold HX9.out.own (by omega)
       rw [show foldOf (sumTo (sg.bare s) (sg.bare s).length)=fv by have:=HSM.out;unfold sg.sumOf at this;omega] at hSU
       have HSU:=Lib.hid hSU
       have hB9:Below w.heap.size w (w9.setCell ⟨w1.heap.size,0,none⟩ (.slice (some ⟨g,0,none⟩) (10+4 * s.sacks.length+s.data.length) c9)):=(Grew.step hBw hg9 (fun x hx=>by have:=(HX.out.own.lt x hx).1;omega)).setCell (p:=⟨w1.heap.size,0,none⟩) (by show w.heap.size≤w1.heap.size;omega) _
       clear hSU r1 r2 r3 q1 q2 x8
       generalize w9.setCell ⟨w1.heap.size,0,none⟩ (.slice (some ⟨g,0,none⟩) (10+4 * s.sacks.length+s.data.length) c9)=w11 at *
       refine HSU.out.mono ?_
       rintro e w12 ⟨rfl,rfl⟩
       go_wp2
       go_ret2
       refine BytesRes.yes rfl (Own.base_le (?_:Own _ (w1.heap.size+1) 5 1 _ _ _ _) (by omega)) ?_
       ·have h:=(HX9.out.own.set (j:=8) (.int .u8 ((65535 - fv) / 256))).set (j:=9) (.int .u8 ((65535 - fv) % 256))
        have e:(sg.summed (sg.bare s)).map u8v=(((sg.head s ++ sg.ranges s s.sacks.length).map u8v ++ s.data.map u8v).set 8 (.int .u8 ((65535 - fv) / 256))).set 9 (.int .u8 ((65535 - fv) % 256)):=by
         rw [← List.map_append,sg.summed,List.map_set,List.map_set,← HSM.out]
         unfold u8v
         rw [byteOf_toNat,byteOf_toNat,Int.emod_eq_of_lt (by omega) (by omega)]
         rfl
        rw [e]
        exact h
       ·exact (hB9.setCell (p:=⟨g,8,none⟩) (by show w.heap.size≤g;omega) _).setCell (p:=⟨g,9,none⟩) (by show w.heap.size≤g;omega) _
theorem ref_Encoded_res (s:Segment) (A0 A1:Option Addr) (c0 c1:Nat) (w:World) (h0:SlRep Rng.rep w (· < w.heap.size) s.sacks A0 c0) (h1:SlRep Rep.u8 w (· < w.heap.size) s.data A1 c1) (hn0:s.sacks.length≤140737488351232) (hn1:s.data.length≤140737488351232) :
  Calls Try.prog 90 #[s.val A0 c0 A1 c1] w (BytesRes (sg.enc s) w):=by
 by_cases hf:sg.fault s=0
 ·rw [show sg.enc s=.ok (sg.summed (sg.bare s)) from if_pos hf]
  exact ref_Encoded_ok s A0 A1 c0 c1 w h0 h1 hf
 ·rw [show sg.enc s=.error (sg.fault s) from if_neg hf]
  exact (ref_Encoded_no s A0 A1 c0 c1 w h0 hn0 hn1 hf).mono fun e w' ⟨he,hb⟩=>by
   subst he
   exact BytesRes.no rfl hb
end Go.Proofs.Ytdldfllllgogoaa
namespace Go.Proofs.Ytdldfllllgogoaa
open Go.RowKit
set_option linter.unusedSimpArgs false
set_option maxRecDepth 100000 in
theorem elemPost:ElemT Try.prog 128 137 3 32:=ElemT.of Try.underlying128 (z:=.agg #[.slice none 0 0,.bool false,.bool false]) (by kernel_rfl) rfl (by decide)
/-- what a method answers that turns the wire -/
def RRes (w:World) (B W:Nat) (_:pp.Wire) (a:RAd) (m:Nat) (v:Value) (x':pp.Wire) (e:Ending) (w':World):Prop:=
 e=.returned v∧∃ a1,RAt w' B W x' a1 m∧Stays w w' (RF W a)∧∀ k,RF W a1 k→RF W a k∨w.heap.size≤k
set_option maxHeartbeats 1000000 in
theorem rpipe_put (B W:Nat) (x:pp.Wire) (a:RAd) (m:Nat) (s:Segment) (b:Bool) (A0:Option Addr) (c0:Nat) (A1:Option Addr) (c1:Nat) (w:World) (h:RAt w B W x a m) (h0:SlRep Rng.rep w (· < w.heap.size) s.sacks A0 c0) (h1:SlRep Rep.u8 w (· < w.heap.size) s.data A1 c1) (hn0:s.sacks.length≤140737488351232) (hn1:s.data.length≤140737488351232) (hl:x.frames.length≤1000) :
  Calls Try.prog 63 #[.pointer (some ⟨W,0,none⟩),.agg #[.int .i64 s.seq,.int .i64 s.ack,.int .i64 s.window,.bool s.syn,.bool s.fin,.bool s.rst,.bool s.acks,.slice A0 s.sacks.length c0,.slice A1 s.data.length c1],.bool b] w (RRes w B W x a m (.int .i64 (x.frames.length:Int)) (pp.putIn x s b)):=by
 have hlen:=h.len
 rw [hlen] at hl ⊢
 have H:=Lib.hid h
 obtain ⟨w1,hw1⟩:∃ w1,w1=w.alloc (.cells #[.int .i64 s.seq,.int .i64 s.ack,.int .i64 s.window,.bool s.syn,.bool s.fin,.bool s.rst,.bool s.acks,.slice A0 s.sacks.length c0,.slice A1 s.data.length c1] 134):=⟨_,rfl⟩
 have hb1:Below w.heap.size w w1:=by rw [hw1];exact balloc (bself w) _
 have HX1:Hid (BlkA w1 w.heap.size 134 #[.int .i64 s.seq,.int .i64 s.ack,.int .i64 s.window,.bool s.syn,.bool s.fin,.bool s.rst,.bool s.acks,.slice A0 s.sacks.length c0,.slice A1 s.data.length c1]):=Lib.hid (by rw [hw1];exact BlkA.new _ _ _)
 have xd:=HX1.out.get
 have hl1:=HX1.out.lt
 have HEN:Hid (Calls Try.prog 90 #[.agg #[.int .i64 s.seq,.int .i64 s.ack,.int .i64 s.window,.bool s.syn,.bool s.fin,.bool s.rst,.bool s.acks,.slice A0 s.sacks.length c0,.slice A1 s.data.length c1]] w1 (BytesRes (sg.enc s) w1)):=Lib.hid (ref_Encoded_res s A0 A1 c0 c1 w1 (h0.next hb1) (h1.next hb1) hn0 hn1)
 have HB1:=Lib.hid hb1
 obtain ⟨eb,heb⟩:∃ eb,sg.enc s=eb:=⟨_,rfl⟩
 rw [heb] at HEN
 have hWl:=h.blk.lt
 have hB:=h.lo
 have HPI:Hid (pp.putIn x s b={ x with frames:=x.frames ++ [⟨exL eb,b,false⟩] }):=Lib.hid (by rw [← heb];rfl)
 clear h h0 h1 heb hlen hb1
 go_enter Try.func63,Try.ntmps63
 go_upto_region 1 with (fail)
 rw [← hw1]
 clear hw1
 go_upto_region 2 with (first
  | (go_at_call 90;((with_reducible refine HEN.out.mono ?_);rintro e w2 ⟨A2,c2,rfl,ho2,hb2⟩;have HO2:=Lib.hid ho2;have HB2:=Lib.hid hb2;clear ho2 hb2))
  | fail)
 have hb02:Below w.heap.size w w2:=bnext HB1.out HB2.out
 have HB02:=Lib.hid hb02
 have H2:=Lib.hid (H.out.next hb02)
 have p3:=H2.out.ptrF
 have hW2:W<w2.heap.size:=H2.out.blk.lt
 have HBS:Hid (B≤w2.heap.size):=Lib.hid (by omega)
 clear hb02 xd
 go_wp2_with (first
  | (at_builtin;refine wp_app _ rfl _ _ _ rfl elemPost B a.A a.fa.length a.c (a.fa.flatMap FrA.cells) rfl (H2.out.frs.own.alloc _) _ 1 1 [.slice A2 (exL eb).length c2,.bool b,.bool false] rfl rfl (Cells.newAt _ _ _ rfl) (by simp [Value.oneCell']) (by omega) (by unfold maxLen;omega) (Nat.le_trans HBS.out (by simp)) ?_;intro A3 c3 w3 ho3 hg3;have hp3:=(H2.out.blk.alloc (.cells #[.slice A2 (exL eb).length c2,.bool b,.bool false] 137)).stays (Stays.grew hg3) (fun e=>H2.out.dW _ (.inr (.inr (.inl e))) rfl);have q3:=hp3.get 3;have f3:=hp3.frozen 3;have lW3:=hp3.lt;have HO3:=Lib.hid ho3;have HG3:=Lib.hid hg3;clear ho3 hg3 hp3)
  | fail)
 have HR:=Lib.hid (H.out.putFr (f:=⟨⟨exL eb,b,false⟩,A2,c2⟩) (w3:=w3.setCell ⟨W,3,none⟩ (.slice A3 (a.fa.length+1) c3)) (balloc HB02.out _) HG3.out HO3.out rfl ((HO2.out.base_le (b':=B) (Nat.le_trans (Nat.le_of_lt (Nat.lt_of_le_of_lt hB hWl)) HB1.out.size)).alloc _) (fun k hk=>Nat.le_trans HB1.out.size (HO2.out.lt k hk).1) rfl)
 go_ret
 refine ⟨?_,_,by rw [HPI.out];exact HR.out.1,HR.out.2.1.mono (fun k _ e=>?_),fun k hk=>?_⟩
 ·congr 2
 ·rcases e with e | e
  ·exact .inl e
  ·exact .inr (.inr (.inr (.inl e)))
 ·exact HR.out.2.2 k hk
end Go.Proofs.Ytdldfllllgogoaa
namespace Go.Proofs.Ytdldfllllgogoaa
open Go.RowKit
set_option linter.unusedSimpArgs false
theorem SAt.base_le {w:World} {B B' F:Nat} {s:sd.St} {D M:Option Addr} {dc mc:Nat} (h:SAt w B F s D dc M mc) (hb:B'≤B):SAt w B' F s D dc M mc:=
 ⟨Nat.le_trans hb h.lo,h.blk,h.data.base_le hb,h.more.keep fun k hk=>⟨⟨Nat.le_trans hb hk.1,hk.2⟩,rfl⟩⟩
theorem HAt.base_le {w:World} {B B' F:Nat} {room:Int} {s:rv.St} {D M:Option Addr} {dc mc:Nat} (h:HAt w B F room s D dc M mc) (hb:B'≤B):HAt w B' F room s D dc M mc:=
 ⟨Nat.le_trans hb h.lo,h.blk,h.data.base_le hb,h.more.keep fun k hk=>⟨⟨Nat.le_trans hb hk.1,hk.2⟩,rfl⟩⟩
/-- where a wire's parts lie -/
structure WAd where
 FS:Nat
 FH:Nat
 Ds:Option Addr
 dcs:Nat
 Ms:Option Addr
 mcs:Nat
 Dh:Option Addr
 dch:Nat
 Mh:Option Addr
 mch:Nat
 A:Option Addr
 c:Nat
 fa:List FrA
def WAd.sF (a:WAd) (x:pp.Wire) (k:Nat):Prop:=HF a.FS a.Ds a.Ms x.snd.more k
def WAd.rF (a:WAd) (x:pp.Wire) (k:Nat):Prop:=HF a.FH a.Dh a.Mh x.rcv.more k
def WAd.fF (a:WAd) (k:Nat):Prop:=FrF a.A a.fa k
/-- a wire's blocks -/
def WF (W:Nat) (x:pp.Wire) (a:WAd) (k:Nat):Prop:=k=W∨a.sF x k∨a.rF x k∨a.fF k
def WAd.vals (a:WAd) (x:pp.Wire):Array Value:=#[.int .i64 x.first,.pointer (some ⟨a.FS,0,none⟩),.pointer (some ⟨a.FH,0,none⟩),.slice a.A a.fa.length a.c]
/-- a wire in memory -/
structure WAt (w:World) (B W:Nat) (x:pp.Wire) (a:WAd):Prop where
 lo:B≤W
 blk:BlkA w W 121 (a.vals x)
 snd:SAt w B a.FS x.snd a.Ds a.dcs a.Ms a.mcs
 rcv:HAt w B a.FH x.room x.rcv a.Dh a.dch a.Mh a.mch
 frs:Frames w B 158 a.A a.c a.fa
 same:x.frames=a.fa.map FrA.fr
 dW:∀ k,a.sF x k∨a.rF x k∨a.fF k→k≠W
 dSR:∀ k,a.sF x k→¬ a.rF x k
 dSF:∀ k,a.sF x k→¬ a.fF k
 dRF:∀ k,a.rF x k→¬ a.fF k
section
variable {w w':World} {B W:Nat} {x:pp.Wire} {a:WAd} {No:Nat→Prop}
theorem WAt.lt (h:WAt w B W x a) {k:Nat} (hk:WF W x a k):B≤k∧k<w.heap.size:=by
 rcases hk with rfl | e | e | e
 ·exact ⟨h.lo,h.blk.lt⟩
 ·exact h.snd.hf_lt e
 ·exact h.rcv.hf_lt e
 ·exact h.frs.lt e
theorem WAt.stays (h:WAt w B W x a) (hs:Stays w w' No) (hn:∀ k,WF W x a k→¬ No k):WAt w' B W x a:=
 ⟨h.lo,h.blk.stays hs (hn _ (.inl rfl)),h.snd.stays hs fun k hk=>hn k (.inr (.inl hk)),h.rcv.stays hs fun k hk=>hn k (.inr (.inr (.inl hk))),h.frs.stays hs fun k hk=>hn k (.inr (.inr (.inr hk))),h.same,h.dW,h.dSR,h.dSF,h.dRF⟩
theorem WAt.next (h:WAt w B W x a) (hb:Below w.heap.size w w'):WAt w' B W x a:=h.stays (Stays.of_below hb (fun _=>False)) fun _ _ e=>e
theorem WAt.below {B0:Nat} (h:WAt w B W x a) (hs:Stays w w' (WF W x a)) (hB:B0≤B) (hw:B0≤w.heap.size):Below B0 w w':=
 ⟨hs.os,hs.tape,hs.output,hs.size,fun k hk=>hs.block k (by omega) (fun e=>by have:=(h.lt e).1;omega)⟩
theorem WAt.len (h:WAt w B W x a):x.frames.length=a.fa.length:=by rw [h.same,List.length_map]
theorem WAt.getD (h:WAt w B W x a) (n:Nat):x.frames.getD n pp.zf=(a.fa.getD n FrA.z).fr:=by
 rw [h.same,List.getD_eq_getElem?_getD,List.getD_eq_getElem?_getD,List.getElem?_map]
 cases a.fa[n]? <;> rfl
/-- what sends was turned -/
theorem WAt.putSnd (h:WAt w B W x a) {s':sd.St} {D1:Option Addr} {dc1:Nat} {M1:Option Addr} {mc1:Nat} (hs:Stays w w' (a.sF x)) (h1:SAt w' B a.FS s' D1 dc1 M1 mc1) (h3:∀ k,HF a.FS D1 M1 s'.more k→a.sF x k∨w.heap.size≤k) :
  WAt w' B W { x with snd:=s' } { a with Ds:=D1,dcs:=dc1,Ms:=M1,mcs:=mc1 }∧∀ k,WF W { x with snd:=s' } { a with Ds:=D1,dcs:=dc1,Ms:=M1,mcs:=mc1 } k→WF W x a k∨w.heap.size≤k:=by
 have hW:=h.blk.lt
 refine ⟨⟨h.lo,h.blk.stays hs (fun e=>h.dW _ (.inl e) rfl),h1,h.rcv.stays hs (fun k hk e=>h.dSR k e hk),h.frs.stays hs (fun k hk e=>h.dSF k e hk),h.same,fun k hk=>?_,fun k hk e=>?_,fun k hk e=>?_,h.dRF⟩,fun k hk=>?_⟩
 ·rcases hk with e | e
  ·rcases h3 k e with e2 | e2
   ·exact h.dW k (.inl e2)
   ·omega
  ·exact h.dW k (.inr e)
 ·rcases h3 k hk with e2 | e2
  ·exact h.dSR k e2 e
  ·have:=(h.rcv.hf_lt e).2;omega
 ·rcases h3 k hk with e2 | e2
  ·exact h.dSF k e2 e
  ·have:=(h.frs.lt e).2;omega
 ·rcases hk with e | e | e
  ·exact .inl (.inl e)
  ·exact (h3 k e).imp (fun e=>.inr (.inl e)) id
  ·exact .inl (.inr (.inr e))
/-- what hears was turned -/
theorem WAt.putRcv (h:WAt w B W x a) {s':rv.St} {D1:Option Addr} {dc1:Nat} {M1:Option Addr} {mc1:Nat} (hs:Stays w w' (a.rF x)) (h1:HAt w' B a.FH x.room s' D1 dc1 M1 mc1) (h3:∀ k,HF a.FH D1 M1 s'.more k→a.rF x k∨w.heap.size≤k) :
  WAt w' B W { x with rcv:=s' } { a with Dh:=D1,dch:=dc1,Mh:=M1,mch:=mc1 }∧∀ k,WF W { x with rcv:=s' } { a with Dh:=D1,dch:=dc1,Mh:=M1,mch:=mc1 } k→WF W x a k∨w.heap.size≤k:=by
 have hW:=h.blk.lt
 refine ⟨⟨h.lo,h.blk.stays hs (fun e=>h.dW _ (.inr (.inl e)) rfl),h.snd.stays hs (fun k hk e=>h.dSR k hk e),h1,h.frs.stays hs (fun k hk e=>h.dRF k e hk),h.same,fun k hk=>?_,fun k hk e=>?_,h.dSF,fun k hk e=>?_⟩,fun k hk=>?_⟩
 ·rcases hk with e | e | e
  ·exact h.dW k (.inl e)
  ·rcases h3 k e with e2 | e2
   ·exact h.dW k (.inr (.inl e2))
   ·omega
  ·exact h.dW k (.inr (.inr e))
 ·rcases h3 k e with e2 | e2
  ·exact h.dSR k hk e2
  ·have:=(h.snd.hf_lt hk).2;omega
 ·rcases h3 k hk with e2 | e2
  ·exact h.dRF k e2 e
  ·have:=(h.frs.lt e).2;omega
 ·rcases hk with e | e | e | e
  ·exact .inl (.inl e)
  ·exact .inl (.inr (.inl e))
  ·exact (h3 k e).imp (fun e=>.inr (.inr (.inl e))) id
  ·exact .inl (.inr (.inr (.inr e)))
theorem u8NeFrame:5≠158:=by decide
/-- a frame was put -/
theorem WAt.putFr (h:WAt w B W x a) {wa w2 w3:World} {f:FrA} {A2:Option Addr} {c2 n:Nat} (hb:Below w.heap.size w wa) (hg:Grew wa w2 a.A A2) (ho:Own w2 B 158 3 A2 n c2 (a.fa.flatMap FrA.cells ++ f.cells)) (hn:n=a.fa.length+1) (hr:Own wa B 5 1 f.A f.fr.bytes.length f.c (f.fr.bytes.map rv.u8v)) (hnew:∀ k,blkOf f.A=some k→w.heap.size≤k)
  (hw3:w3=w2.setCell ⟨W,3,none⟩ (.slice A2 n c2)) :
  WAt w3 B W { x with frames:=x.frames ++ [f.fr] } { a with A:=A2,c:=c2,fa:=a.fa ++ [f] }∧Stays w w3 (fun k=>k=W∨blkOf a.A=some k)∧∀ k,WF W { x with frames:=x.frames ++ [f.fr] } { a with A:=A2,c:=c2,fa:=a.fa ++ [f] } k→WF W x a k∨w.heap.size≤k:=by
 have hW:=h.blk.lt
 have st2:Stays w w2 (fun k=>blkOf a.A=some k):=(Stays.of_below hb _).comp (Stays.grew hg)
 have st3:Stays w w3 (fun k=>k=W∨blkOf a.A=some k):=by
  rw [hw3]
  exact (st2.mono fun _ _ e=>.inr e).comp ((Stays.set _ _ _ _).mono fun _ _ e=>.inl e)
 have hnw:Newer w A2 a.A:=fun k hk=>(Newer.grew hg k hk).imp id (fun e=>Nat.le_trans hb.size e)
 have hnewF:∀ k,FrF A2 (a.fa ++ [f]) k→a.fF k∨w.heap.size≤k:=fun k hk=>FrF.push hnw hnew hk
 have hfr:=h.frs.push u8NeFrame hb hg ho hn hr hnew
 have hblk2:BlkA w2 W _ _:=h.blk.stays st2 (fun e=>h.dW _ (.inr (.inr (.inl e))) rfl)
 refine ⟨⟨h.lo,?_,h.snd.stays st3 (fun k hk e=>?_),h.rcv.stays st3 (fun k hk e=>?_),?_,?_,fun k hk=>?_,h.dSR,fun k hk e=>?_,fun k hk e=>?_⟩,st3,fun k hk=>?_⟩
 ·rw [hw3]
  have hx:=hblk2.set 3 (.slice A2 n c2)
  rw [hn] at hx ⊢
  unfold WAd.vals at hx ⊢
  simpa using hx
 ·rcases e with e | e
  ·exact h.dW k (.inl hk) e
  ·exact h.dSF k hk (.inl e)
 ·rcases e with e | e
  ·exact h.dW k (.inr (.inl hk)) e
  ·exact h.dRF k hk (.inl e)
 ·rw [hw3]
  refine hfr.stays (Stays.set _ _ _ _) (fun k hk e=>?_)
  rcases hnewF k hk with e2 | e2
  ·exact h.dW k (.inr (.inr e2)) e
  ·omega
 ·show x.frames ++ [f.fr]=(a.fa ++ [f]).map FrA.fr
  rw [h.same,List.map_append]
  rfl
 ·rcases hk with e | e | e
  ·exact h.dW k (.inl e)
  ·exact h.dW k (.inr (.inl e))
  ·rcases hnewF k e with e2 | e2
   ·exact h.dW k (.inr (.inr e2))
   ·omega
 ·rcases hnewF k e with e2 | e2
  ·exact h.dSF k hk e2
  ·have:=(h.snd.hf_lt hk).2;omega
 ·rcases hnewF k e with e2 | e2
  ·exact h.dRF k hk e2
  ·have:=(h.rcv.hf_lt hk).2;omega
 ·rcases hk with e | e | e | e
  ·exact .inl (.inl e)
  ·exact .inl (.inr (.inl e))
  ·exact .inl (.inr (.inr (.inl e)))
  ·exact (hnewF k e).imp (fun e=>.inr (.inr (.inr e))) id
theorem WAt.first (h:WAt w B W x a):w.cell? ⟨W,0,none⟩=some (.int .i64 x.first):=h.blk.get 0
theorem WAt.ptrS (h:WAt w B W x a):w.cell? ⟨W,1,none⟩=some (.pointer (some ⟨a.FS,0,none⟩)):=h.blk.get 1
theorem WAt.ptrH (h:WAt w B W x a):w.cell? ⟨W,2,none⟩=some (.pointer (some ⟨a.FH,0,none⟩)):=h.blk.get 2
theorem WAt.ptrF (h:WAt w B W x a):w.cell? ⟨W,3,none⟩=some (.slice a.A a.fa.length a.c):=h.blk.get 3
end
set_option maxHeartbeats 400000 in
theorem pipe_no (e:Int) (w:World) :
  Calls Try.prog 57 #[.int .i64 e] w fun r w'=>r=.returned (.agg #[.int .i64 e,.bool false,.int .i64 0,.slice none 0 0,.bool false,.int .i64 0])∧Below w.heap.size w w':=by
 go_enter Try.func57,Try.ntmps57
 go_wp2
 refine bodyPost_ret (v:=.agg #[.int .i64 e,.bool false,.int .i64 0,.slice none 0 0,.bool false,.int .i64 0]) (by simp [results,Try.results57,go_sem, *]) rfl ⟨rfl,?_⟩
 exact (by repeat (first | (with_reducible first | exact Below.refl _ _ | assumption | refine bset ?_ ?_ _ | refine balloc ?_ _ | refine Below.drew ?_ | refine bdrewN ?_ _ | refine bnext ?_ (by with_reducible assumption)) | exact Nat.le_refl _ | (simp;done) | omega | (simp;omega)))
set_option maxHeartbeats 400000 in
theorem pipe_mark (B W:Nat) (x:pp.Wire) (a:WAd) (p:Int) (w:World) (h:WAt w B W x a) (hf:0≤x.first∧x.first<65536) (hp:0≤p∧p≤4000000) :
  Calls Try.prog 85 #[.pointer (some ⟨W,0,none⟩),.int .i64 p] w fun e w'=>e=.returned (.int .i64 (pp.mark x p))∧w=w':=by
 have c0:=h.first
 clear h
 go_enter Try.func85,Try.ntmps85
 go_wp2
 go_ret
 exact ⟨rfl,rfl⟩
set_option maxHeartbeats 400000 in
theorem pipe_place (B W:Nat) (x:pp.Wire) (a:WAd) (s near:Int) (w:World) (h:WAt w B W x a) (hf:0≤x.first∧x.first<65536) (hs:0≤s∧s<65536) (hn:0≤near∧near≤1048576) :
  Calls Try.prog 87 #[.pointer (some ⟨W,0,none⟩),.int .i64 s,.int .i64 near] w fun e w'=>e=.returned (.tuple #[.int .i64 (pp.place x s near),.bool (decide (0≤pp.place x s near))])∧Below w.heap.size w w':=by
 have c0:=h.first
 have HM:Hid (Int.tmod (s - x.first+65536) 65536=(s - x.first) % 65536):=Lib.hid (by rw [Int.tmod_eq_emod_of_nonneg (by omega)];omega)
 have HN:=Lib.hid (serial_Near_ok ((s - x.first) % 65536) near (by omega) (by omega) hn.1 hn.2 w)
 obtain ⟨v,hv⟩:∃ v,pp.place x s near=v:=⟨_,rfl⟩
 have hv2:nearOf ((s - x.first) % 65536) near=v:=hv
 rw [hv]
 rw [hv2] at HN
 have hm:=HM.out
 obtain ⟨y,hy⟩:∃ y,(s - x.first) % 65536=y:=⟨_,rfl⟩
 rw [hy] at hm HN
 clear h hv hv2 HM hy
 go_enter Try.func87,Try.ntmps87
 go_wp2_with (first
  | (go_at_call 102;((with_reducible refine HN.out.mono ?_);rintro e w1 ⟨rfl,hb1⟩;have HB1:=Lib.hid hb1;clear hb1))
  | fail)
 go_ret2
 exact ⟨rfl,HB1.out⟩
set_option maxHeartbeats 400000 in
theorem recv_Done (B F:Nat) (room:Int) (s:rv.St) (D:Option Addr) (dc:Nat) (M:Option Addr) (mc:Nat) (w:World) (h:HAt w B F room s D dc M mc) :
  Calls Try.prog 88 #[.pointer (some ⟨F,0,none⟩)] w fun e w'=>e=.returned (.int .i64 s.done)∧w=w':=by
 have c:=h.blk.get 2
 simp only [List.getElem?_toArray,List.getElem?_cons_succ,List.getElem?_cons_zero] at c
 clear h
 go_enter Try.func88,Try.ntmps88
 go_wp2
 go_ret
 exact ⟨rfl,rfl⟩
set_option maxHeartbeats 400000 in
theorem send_Done (B F:Nat) (s:sd.St) (D:Option Addr) (dc:Nat) (M:Option Addr) (mc:Nat) (w:World) (h:SAt w B F s D dc M mc) :
  Calls Try.prog 103 #[.pointer (some ⟨F,0,none⟩)] w fun e w'=>e=.returned (.int .i64 s.done)∧w=w':=by
 have c:=h.blk.get 2
 simp only [List.getElem?_toArray,List.getElem?_cons_succ,List.getElem?_cons_zero] at c
 clear h
 go_enter Try.func103,Try.ntmps103
 go_wp2
 go_ret
 exact ⟨rfl,rfl⟩
end Go.Proofs.Ytdldfllllgogoaa
namespace Go.Proofs.Ytdldfllllgogoaa
open Go.RowKit
set_option linter.unusedSimpArgs false
theorem elemFrame:ElemT Try.prog 119 158 3 32:=ElemT.of Try.underlying119 (z:=.agg #[.slice none 0 0,.bool false,.bool false]) (by kernel_rfl) rfl (by decide)
/-- what a method answers that turns the wire -/
def WRes (w:World) (B W:Nat) (x:pp.Wire) (a:WAd) (v:Value) (x':pp.Wire) (e:Ending) (w':World):Prop:=
 e=.returned v∧∃ a1,WAt w' B W x' a1∧Stays w w' (WF W x a)∧∀ k,WF W x' a1 k→WF W x a k∨w.heap.size≤k
set_option maxHeartbeats 1000000 in
theorem pipe_put (B W:Nat) (x:pp.Wire) (a:WAd) (s:Segment) (b:Bool) (A0:Option Addr) (c0:Nat) (A1:Option Addr) (c1:Nat) (w:World) (h:WAt w B W x a) (h0:SlRep Rng.rep w (· < w.heap.size) s.sacks A0 c0) (h1:SlRep Rep.u8 w (· < w.heap.size) s.data A1 c1) (hn0:s.sacks.length≤140737488351232) (hn1:s.data.length≤140737488351232) (hl:x.frames.length≤1000) :
  Calls Try.prog 84 #[.pointer (some ⟨W,0,none⟩),.agg #[.int .i64 s.seq,.int .i64 s.ack,.int .i64 s.window,.bool s.syn,.bool s.fin,.bool s.rst,.bool s.acks,.slice A0 s.sacks.length c0,.slice A1 s.data.length c1],.bool b] w (WRes w B W x a (.int .i64 (x.frames.length:Int)) (pp.putIn x s b)):=by
 have hlen:=h.len
 rw [hlen] at hl ⊢
 have H:=Lib.hid h
 obtain ⟨w1,hw1⟩:∃ w1,w1=w.alloc (.cells #[.int .i64 s.seq,.int .i64 s.ack,.int .i64 s.window,.bool s.syn,.bool s.fin,.bool s.rst,.bool s.acks,.slice A0 s.sacks.length c0,.slice A1 s.data.length c1] 134):=⟨_,rfl⟩
 have hb1:Below w.heap.size w w1:=by rw [hw1];exact balloc (bself w) _
 have HX1:Hid (BlkA w1 w.heap.size 134 #[.int .i64 s.seq,.int .i64 s.ack,.int .i64 s.window,.bool s.syn,.bool s.fin,.bool s.rst,.bool s.acks,.slice A0 s.sacks.length c0,.slice A1 s.data.length c1]):=Lib.hid (by rw [hw1];exact BlkA.new _ _ _)
 have xd:=HX1.out.get
 have hl1:=HX1.out.lt
 have HEN:Hid (Calls Try.prog 100 #[.agg #[.int .i64 s.seq,.int .i64 s.ack,.int .i64 s.window,.bool s.syn,.bool s.fin,.bool s.rst,.bool s.acks,.slice A0 s.sacks.length c0,.slice A1 s.data.length c1]] w1 (BytesRes (sg.enc s) w1)):=Lib.hid (seg_Encode_res s A0 A1 c0 c1 w1 (h0.next hb1) (h1.next hb1) hn0 hn1)
 have HB1:=Lib.hid hb1
 obtain ⟨eb,heb⟩:∃ eb,sg.enc s=eb:=⟨_,rfl⟩
 rw [heb] at HEN
 have hWl:=h.blk.lt
 have hB:=h.lo
 have HPI:Hid (pp.putIn x s b={ x with frames:=x.frames ++ [⟨exL eb,b,false⟩] }):=Lib.hid (by rw [← heb];rfl)
 clear h h0 h1 heb hlen hb1
 go_enter Try.func84,Try.ntmps84
 go_upto_region 1 with (fail)
 rw [← hw1]
 clear hw1
 go_upto_region 2 with (first
  | (go_at_call 100;((with_reducible refine HEN.out.mono ?_);rintro e w2 ⟨A2,c2,rfl,ho2,hb2⟩;have HO2:=Lib.hid ho2;have HB2:=Lib.hid hb2;clear ho2 hb2))
  | fail)
 have hb02:Below w.heap.size w w2:=bnext HB1.out HB2.out
 have HB02:=Lib.hid hb02
 have H2:=Lib.hid (H.out.next hb02)
 have p3:=H2.out.ptrF
 have hW2:W<w2.heap.size:=H2.out.blk.lt
 have HBS:Hid (B≤w2.heap.size):=Lib.hid (by omega)
 clear hb02 xd
 go_wp2_with (first
  | (at_builtin;refine wp_app _ rfl _ _ _ rfl elemFrame B a.A a.fa.length a.c (a.fa.flatMap FrA.cells) rfl (H2.out.frs.own.alloc _) _ 1 1 [.slice A2 (exL eb).length c2,.bool b,.bool false] rfl rfl (Cells.newAt _ _ _ rfl) (by simp [Value.oneCell']) (by omega) (by unfold maxLen;omega) (Nat.le_trans HBS.out (by simp)) ?_;intro A3 c3 w3 ho3 hg3;have hp3:=(H2.out.blk.alloc (.cells #[.slice A2 (exL eb).length c2,.bool b,.bool false] 158)).stays (Stays.grew hg3) (fun e=>H2.out.dW _ (.inr (.inr (.inl e))) rfl);have q3:=hp3.get 3;have f3:=hp3.frozen 3;have lW3:=hp3.lt;have HO3:=Lib.hid ho3;have HG3:=Lib.hid hg3;clear ho3 hg3 hp3)
  | fail)
 have HR:=Lib.hid (H.out.putFr (f:=⟨⟨exL eb,b,false⟩,A2,c2⟩) (w3:=w3.setCell ⟨W,3,none⟩ (.slice A3 (a.fa.length+1) c3)) (balloc HB02.out _) HG3.out HO3.out rfl ((HO2.out.base_le (b':=B) (Nat.le_trans (Nat.le_of_lt (Nat.lt_of_le_of_lt hB hWl)) HB1.out.size)).alloc _) (fun k hk=>Nat.le_trans HB1.out.size (HO2.out.lt k hk).1) rfl)
 go_ret
 refine ⟨?_,_,by rw [HPI.out];exact HR.out.1,HR.out.2.1.mono (fun k _ e=>?_),fun k hk=>?_⟩
 ·congr 2
 ·rcases e with e | e
  ·exact .inl e
  ·exact .inr (.inr (.inr (.inl e)))
 ·rw [HPI.out] at hk
  exact HR.out.2.2 k hk
end Go.Proofs.Ytdldfllllgogoaa
namespace Go.Proofs.Ytdldfllllgogoaa
section
variable {P:Program} {ops:Array Oper} {Q:Exit→Act→World→Prop} {md:Region.Mode} {S:World→Prop} {late:List Nat}
theorem wpAnyT_fork {i j:Nat} {oi oj:Oper} {fuel:Nat} {listed:Array Bool} {a:Act} {w:World} (hr:Region.ready md ops listed=[i,j]) (hoi:ops[i]? = some oi) (hoj:ops[j]? = some oj)
  (hi:∀ K:Act→World→Prop,Shut (∀ a w,(early late (listed.setIfInBounds i true)=true→S w)→wpAnyT P md ops Q S late fuel (listed.setIfInBounds i true) a w→K a w)→if Region.wanted oi (yielded ops a.tmps)=true then Oper.wp P oi a w K Q else K (a.put oi.dst undef) w)
  (hj:∀ K:Act→World→Prop,Shut (∀ a w,(early late (listed.setIfInBounds j true)=true→S w)→wpAnyT P md ops Q S late fuel (listed.setIfInBounds j true) a w→K a w)→if Region.wanted oj (yielded ops a.tmps)=true then Oper.wp P oj a w K Q else K (a.put oj.dst undef) w) :
  wpAnyT P md ops Q S late (fuel+1) listed a w:=by
 refine ⟨fun h0=>(by rw [hr] at h0;cases h0),fun k hk=>?_⟩
 rw [hr,List.mem_cons,List.mem_singleton] at hk
 rcases hk with rfl | rfl
 ·exact wpOp_step hoi (fun K' hK=>hi K' (fun a w hS hW=>hK a w ⟨hS,hW⟩))
 ·exact wpOp_step hoj (fun K' hK=>hj K' (fun a w hS hW=>hK a w ⟨hS,hW⟩))
end
end Go.Proofs.Ytdldfllllgogoaa
namespace Go.Proofs.Ytdldfllllgogoaa
open Go.RowKit
set_option linter.unusedSimpArgs false
/-- what a method answers that turns the wire: a struct -/
def PasRes (w:World) (B W:Nat) (x:pp.Wire) (a:WAd) (r:Passed × pp.Wire) (e:Ending) (w':World):Prop:=
 ∃ cs a1,e=.returned (.agg cs.toArray)∧Passed.rep.rep w' (fun k=>w.heap.size≤k∧k<w'.heap.size∧¬ WF W r.2 a1 k) r.1 cs∧WAt w' B W r.2 a1∧Stays w w' (WF W x a)∧∀ k,WF W r.2 a1 k→WF W x a k∨w.heap.size≤k
/-- the answer is in the box F: so it is handed back -/
theorem PasRes.plain {w w1 w':World} {B W:Nat} {x:pp.Wire} {a a1:WAd} {r:Passed × pp.Wire} (hd:r.1.data=[]) (h1:WAt w1 B W r.2 a1) (hs:Stays w w1 (WF W x a)) (hn:∀ k,WF W r.2 a1 k→WF W x a k∨w.heap.size≤k) (h2:Stays w1 w' (fun k=>w.heap.size≤k∧¬ WF W r.2 a1 k)) :
  PasRes w B W x a r (.returned (.agg #[.int .i64 r.1.code,.bool r.1.put,.int .i64 r.1.id,.slice none 0 0,.bool r.1.end_,.int .i64 r.1.left])) w':=by
 refine ⟨[.int .i64 r.1.code,.bool r.1.put,.int .i64 r.1.id,.slice none 0 0,.bool r.1.end_,.int .i64 r.1.left],a1,rfl,Passed.rep_iff.2 ⟨none,0,by rw [hd];rfl,by rw [hd];exact ⟨Nat.le_refl _,Nat.zero_le _,.inl rfl⟩⟩,h1.stays h2 (fun k hk e=>e.2 hk),hs.trans h2 (fun k hk e=>?_),hn⟩
 omega
theorem Stays.sixP (w:World) (F:Nat) (v0 v1 v2 v3 v4 v5:Value):Stays w ((((((w.setCell ⟨F,0,none⟩ v0).setCell ⟨F,1,none⟩ v1).setCell ⟨F,2,none⟩ v2).setCell ⟨F,3,none⟩ v3).setCell ⟨F,4,none⟩ v4).setCell ⟨F,5,none⟩ v5) (fun k=>k=F):=Stays.six _ _ _ _ _ _ _ _
theorem SlRep.nilW {α:Type} (R:Rep α) (w:World) (S:Nat→Prop):SlRep R w S [] none 0:=⟨Nat.le_refl _,Nat.zero_le _,.inl rfl⟩
theorem pp.mark_bd (x:pp.Wire) (p:Int):0≤pp.mark x p∧pp.mark x p<65536:=by unfold pp.mark;omega
theorem sd.poll_from {s:sd.St} (h:sd.Inv s):0≤(sd.doIt s pp.pollD).1.from_∧(sd.doIt s pp.pollD).1.from_≤1048576:=by
 have hlo:=h.lo
 have hen:=h.end_
 have e:(sd.doIt s pp.pollD).1.from_=(sd.poll s).1.from_:=rfl
 rw [e]
 unfold sd.poll
 simp only
 obtain ⟨h1,h2,h3,h4⟩:=sd.first_ok h h.again.2
 split
 ·show 0≤sd.first s s.again s.next∧sd.first s s.again s.next≤1048576
  omega
 ·split
  ·exact ⟨Int.le_refl _,by show (0:Int)≤1048576;decide⟩
  ·show 0≤s.next∧s.next≤1048576
   omega
theorem sd.poll_data (s:sd.St):(sd.doIt s pp.pollD).1.data.length≤64:=by
 have e:(sd.doIt s pp.pollD).1.data=(sd.poll s).1.data:=rfl
 have hp:∀ f t:Int,(sd.piece s f t).data.length≤64:=fun f t=>by
  unfold sd.piece
  simp only
  rw [List.length_take]
  omega
 rw [e]
 unfold sd.poll
 simp only
 split
 ·exact hp _ _
 ·split
  ·exact Nat.zero_le _
  ·exact hp _ _
set_option maxRecDepth 100000 in
set_option maxHeartbeats 2000000 in
theorem pipe_send (B W : Nat) (x : pp.Wire) (a : WAd) (w : World) (h : WAt w B W x a) {k : Nat} (hi : pp.Inv x k) (hk : k ≤ 1000) :
    Calls Try.prog 56 #[.pointer (some ⟨W, 0, none⟩)] w (PasRes w B W x a (pp.send x)) := by
  have H := Lib.hid h
  have HI := Lib.hid hi
  obtain ⟨w1, hw1⟩ : ∃ w1, w1 = w.alloc (.cells #[.int .i64 0, .bool false, .int .i64 0, .slice none 0 0, .bool false, .int .i64 0] 58) := ⟨_, rfl⟩
  have hb1 : Below w.heap.size w w1 := by rw [hw1]; exact balloc (bself w) _
  have HZ1 : Hid (BlkA w1 w.heap.size 58 #[.int .i64 0, .bool false, .int .i64 0, .slice none 0 0, .bool false, .int .i64 0]) := Lib.hid (by rw [hw1]; exact BlkA.new _ _ _)
  have hz1 : w1.heap.size = w.heap.size + 1 := by rw [hw1]; simp
  have h1 := h.next hb1
  have HB1 := Lib.hid hb1
  have H1 := Lib.hid h1
  have hW1 := h1.blk.lt
  have p1 := h1.ptrS
  have HDO : Hid (Calls Try.prog 25 #[.pointer (some ⟨a.FS, 0, none⟩), .agg #[.int .i64 3, .slice none 0 0, .int .i64 0, .int .i64 0, .slice none 0 0]] w1 (SentRes w1 B a.FS x.snd.more (sd.doIt x.snd pp.pollD) a.Ds a.Ms)) := Lib.hid (send_Do B a.FS x.snd a.Ds a.dcs a.Ms a.mcs pp.pollD none 0 none 0 w1 h1.snd hi.snd (SlRep.nilW _ _ _) (SlRep.nilW _ _ _) (by unfold IntOk; decide) (by unfold IntOk; decide) (by decide) (by decide))
  have hfrom := sd.poll_from hi.snd
  have hdat := sd.poll_data x.snd
  have HIS := Lib.hid (hi.doSnd pp.pollD)
  have HSE : Hid (pp.send x = if (sd.doIt x.snd pp.pollD).1.idle = true then (pp.no 7, { x with snd := (sd.doIt x.snd pp.pollD).2 }) else ({ pp.none_ with put := true, id := x.frames.length, left := (sd.doIt x.snd pp.pollD).1.left }, pp.putIn { x with snd := (sd.doIt x.snd pp.pollD).2 } (pp.sendSeg x (sd.doIt x.snd pp.pollD).1) false)) := Lib.hid rfl
  have hfirst := hi.first
  generalize sd.doIt x.snd pp.pollD = r at *
  obtain ⟨⟨rc, rf, rd, rn, ra, ri, rl⟩, s'⟩ := r
  simp only at hfrom hdat HSE HIS HDO
  clear h hi h1 hb1
  go_enter Try.func56, Try.ntmps56
  go_upto_region 1 with (fail)
  rw [← hw1]
  clear hw1
  go_upto_region 2 with (first
    | (go_at_call 25; ((with_reducible refine HDO.out.mono ?_); rintro e w2 ⟨cs, D1, dc1, M1, mc1, rfl, g1, g2, g3, g4⟩; obtain ⟨Ad, cd, rfl, g5⟩ := Sent.rep_iff.1 g1; have G2 := Lib.hid (H1.out.putSnd g3 g2 g4); have G3 := Lib.hid g3; have G5 := Lib.hid g5; clear g1 g2 g3 g4 g5))
    | fail)
  generalize hw3 : World.alloc w2 _ = w3
  generalize hT : w2.heap.size = T
  have hb23 : Below w2.heap.size w2 w3 := by rw [← hw3]; exact balloc (bself w2) _
  have hbt : BlkA w3 T 49 #[.int .i64 rc, .int .i64 rf, .slice Ad rd.length cd, .bool rn, .bool ra, .bool ri, .int .i64 rl] := by rw [← hw3, ← hT]; exact BlkA.new _ _ _
  have hs12 := G3.out.size
  have hsz2 : w.heap.size + 1 ≤ w2.heap.size := by omega
  obtain ⟨x1, hx1⟩ : ∃ x1, x1 = { x with snd := s' } := ⟨_, rfl⟩
  obtain ⟨a1, ha1⟩ : ∃ a1, a1 = { a with Ds := D1, dcs := dc1, Ms := M1, mcs := mc1 } := ⟨_, rfl⟩
  rw [← hx1, ← ha1] at G2
  rw [← hx1] at HSE HIS
  have HX1 := Lib.hid hx1
  have H3 := Lib.hid (G2.out.1.next hb23)
  have HT := Lib.hid hT
  have HBT := Lib.hid hbt
  have HB23 := Lib.hid hb23
  have HNW : Hid (∀ k, WF W x1 a1 k → k ≠ w.heap.size ∧ k ≠ T) := Lib.hid (fun k hk => by
    have h5 := (G2.out.1.lt hk).2
    rcases G2.out.2 k hk with e | e
    · have := (H1.out.lt e).2
      have := (H.out.lt e).2
      omega
    · omega)
  have HNZ : Hid (¬ WF W x1 a1 w.heap.size) := Lib.hid (fun e => (HNW.out _ e).1 rfl)
  have hst12 : Stays w w2 (WF W x a) := (Stays.of_below HB1.out _).trans G3.out (fun k hk e => .inr (.inl e))
  have HST2 := Lib.hid hst12
  have hz2 := (HZ1.out.stays G3.out (fun e => by have := (H.out.lt (.inr (.inl e))).2; omega))
  have HZ3 := Lib.hid (hz2.next hb23)
  have HG4 : Hid (∀ k, WF W x1 a1 k → WF W x a k ∨ w.heap.size ≤ k) := Lib.hid (fun k hk => (G2.out.2 k hk).imp id (fun e => by omega))
  have td := HBT.out.get
  have lT := HBT.out.lt
  have zd := HZ3.out.get
  have ze := HZ3.out.frozen
  have lz := HZ3.out.lt
  clear hw3 hb23 hbt hs12 hx1 ha1 hst12 hz2 hT
  cases ri with
  | true =>
    have HSE2 : Hid (pp.send x = (pp.no 7, x1)) := Lib.hid (by rw [HSE.out, if_pos rfl])
    have HNO := Lib.hid (fun wx => pipe_no 7 wx)
    have HFIN : Hid (∀ wx w', Below w3.heap.size w3 wx → Stays wx w' (fun k => k = w.heap.size) → PasRes w B W x a (pp.send x) (.returned (.agg #[.int .i64 7, .bool false, .int .i64 0, .slice none 0 0, .bool false, .int .i64 0])) w') := Lib.hid (fun wx w' hb hs => by
      rw [HSE2.out]
      exact PasRes.plain (r := (pp.no 7, x1)) (a1 := a1) rfl (H3.out.next hb) ((HST2.out.comp (Stays.of_below HB23.out _)).comp (Stays.of_below hb _)) HG4.out (hs.mono fun k hk e => ⟨by omega, fun e2 => (HNW.out k e2).1 e⟩))
    go_wp2_with (first
      | (go_at_call 57; ((with_reducible refine (HNO.out _).mono ?_); rintro e w4 ⟨rfl, hb4⟩; have z4 := HZ3.out.next hb4; have zd := z4.get; have ze := z4.frozen; have lz4 := z4.lt; have HB4 := Lib.hid hb4; clear hb4 z4))
      | fail)
    refine bodyPost_ret (v := .agg #[.int .i64 7, .bool false, .int .i64 0, .slice none 0 0, .bool false, .int .i64 0]) (by simp [results, Try.results56, go_sem, *]) rfl (HFIN.out _ _ HB4.out ?_)
    exact Stays.sixP _ _ _ _ _ _ _ _
  | false =>
    have HSE2 : Hid (pp.send x = ({ pp.none_ with put := true, id := x.frames.length, left := rl }, pp.putIn x1 (pp.sendSeg x ⟨rc, rf, rd, rn, ra, false, rl⟩) false)) := Lib.hid (by rw [HSE.out, if_neg (by simp)])
    have hmk := pp.mark_bd x rf
    have HMK : Hid (∀ wx, Below w3.heap.size w3 wx → Calls Try.prog 85 #[.pointer (some ⟨W, 0, none⟩), .int .i64 rf] wx fun e w' => e = .returned (.int .i64 (pp.mark x rf)) ∧ wx = w') := Lib.hid (fun wx hb => by
      have h5 := pipe_mark B W x1 a1 rf wx (H3.out.next hb) (by rw [HX1.out]; exact hfirst) (by omega)
      rw [HX1.out] at h5
      exact h5)
    have HPU : Hid (∀ wx, Below w3.heap.size w3 wx → Calls Try.prog 84 #[.pointer (some ⟨W, 0, none⟩), .agg #[.int .i64 (pp.mark x rf), .int .i64 0, .int .i64 0, .bool false, .bool rn, .bool false, .bool false, .slice none 0 0, .slice Ad rd.length cd], .bool false] wx (WRes wx B W x1 a1 (.int .i64 (x.frames.length : Int)) (pp.putIn x1 (pp.sendSeg x ⟨rc, rf, rd, rn, ra, false, rl⟩) false))) := Lib.hid (fun wx hb => by
      have h5 := pipe_put B W x1 a1 (pp.sendSeg x ⟨rc, rf, rd, rn, ra, false, rl⟩) false none 0 Ad cd wx (H3.out.next hb) (SlRep.nilW _ _ _) (G5.out.keep fun k hk => ⟨by have := hk.2.1; have := HB23.out.size; have := hb.size; omega, by rw [hb.block k (by have := hk.2.1; have := HB23.out.size; omega), HB23.out.block k hk.2.1]⟩) (Nat.zero_le _) (Nat.le_trans hdat (by decide)) (by have := HIS.out.few; omega)
      have e5 : x1.frames = x.frames := by rw [HX1.out]
      rw [e5] at h5
      exact h5)
    generalize pp.mark x rf = mk at *
    have HSS : Hid (∀ wx, Stays w3 wx (WF W x1 a1) → wx.cell? ⟨T, 1, none⟩ = some (.int .i64 rf) ∧ wx.cell? ⟨T, 2, none⟩ = some (.slice Ad rd.length cd) ∧ wx.cell? ⟨T, 3, none⟩ = some (.bool rn) ∧ wx.cell? ⟨T, 6, none⟩ = some (.int .i64 rl)) := Lib.hid (fun wx hs => by
      have h5 := HBT.out.stays hs (fun e => (HNW.out _ e).2 rfl)
      exact ⟨h5.get 1, h5.get 2, h5.get 3, h5.get 6⟩)
    have hfl : x.frames.length ≤ 1000 := by have := HIS.out.few; have e5 : x1.frames = x.frames := by rw [HX1.out]
                                            rw [e5] at this; omega
    clear zd ze
    go_upto_region 4 with (fail)
    refine wp_region_tail [14] (fun wx => wx.cell? ⟨T, 1, none⟩ = some (.int .i64 rf) ∧ wx.cell? ⟨T, 2, none⟩ = some (.slice Ad rd.length cd) ∧ wx.cell? ⟨T, 3, none⟩ = some (.bool rn) ∧ wx.cell? ⟨T, 6, none⟩ = some (.int .i64 rl)) (by kernel_rfl) (HSS.out w3 (Stays.refl _ _)) ?_
    intro hHeld
    refine zP 0 (v := ?_) ?_ (fun _ => hHeld) ?_
    rotate_left
    · intro w9; go_simp; try with_reducible rfl
    try simp only [Act.put, zA, zB, zC, zD, zE, zF]
    refine zP 1 (v := ?_) ?_ (fun _ => hHeld) ?_
    rotate_left
    · intro w9; go_simp; try with_reducible rfl
    try simp only [Act.put, zA, zB, zC, zD, zE, zF]
    refine zP 2 (v := ?_) ?_ (fun _ => hHeld) ?_
    rotate_left
    · intro w9; go_simp; try with_reducible rfl
    try simp only [Act.put, zA, zB, zC, zD, zE, zF]
    refine zP 5 (v := ?_) ?_ (fun _ => hHeld) ?_
    rotate_left
    · intro w9; go_simp; try with_reducible rfl
    try simp only [Act.put, zA, zB, zC, zD, zE, zF]
    refine zP 7 (v := ?_) ?_ (fun _ => hHeld) ?_
    rotate_left
    · intro w9; go_simp; try with_reducible rfl
    try simp only [Act.put, zA, zB, zC, zD, zE, zF]
    refine zP 11 (v := ?_) ?_ (fun _ => hHeld) ?_
    rotate_left
    · intro w9; go_simp; try with_reducible rfl
    try simp only [Act.put, zA, zB, zC, zD, zE, zF]
    refine zT 3 [4, 9, 10, 13, 14] (v := ?_) ?_ hHeld ?_
    rotate_left
    · intro w9 hS9; (try dsimp only at hS9); obtain ⟨q1, q2, q3, q4⟩ := hS9; go_simp; try with_reducible rfl
    try simp only [Act.put, zA, zB, zC, zD, zE, zF]
    refine zT 6 [9, 10, 13, 14] (v := ?_) ?_ hHeld ?_
    rotate_left
    · intro w9 hS9; (try dsimp only at hS9); obtain ⟨q1, q2, q3, q4⟩ := hS9; go_simp; try with_reducible rfl
    try simp only [Act.put, zA, zB, zC, zD, zE, zF]
    refine zT 8 [9, 10, 13, 14] (v := ?_) ?_ hHeld ?_
    rotate_left
    · intro w9 hS9; (try dsimp only at hS9); obtain ⟨q1, q2, q3, q4⟩ := hS9; go_simp; try with_reducible rfl
    try simp only [Act.put, zA, zB, zC, zD, zE, zF]
    refine zT 12 [13, 14] (v := ?_) ?_ hHeld ?_
    rotate_left
    · intro w9 hS9; (try dsimp only at hS9); obtain ⟨q1, q2, q3, q4⟩ := hS9; go_simp; try with_reducible rfl
    try simp only [Act.put, zA, zB, zC, zD, zE, zF]
    refine wpAnyT_next (i := 4) (by kernel_rfl) rfl ?_
    intro K hK
    go_simp
    go_at_call 85
    refine (HMK.out _ (by exact Below.drew (bself w3))).mono ?_
    rintro e _ ⟨rfl, rfl⟩
    go_simp
    have hHeld2 := hHeld
    refine hK.out _ _ (fun _ => hHeld2) ?_
    clear hK K hHeld
    have hHeld := hHeld2
    clear hHeld2
    try simp only [Act.put, zA, zB, zC, zD, zE, zF]
    refine zP 9 (v := ?_) ?_ (fun _ => hHeld) ?_
    rotate_left
    · intro w9; go_simp; try with_reducible rfl
    try simp only [Act.put, zA, zB, zC, zD, zE, zF]
    refine wpAnyT_next (i := 10) (by kernel_rfl) rfl ?_
    intro K hK
    go_simp
    go_at_call 84
    refine (HPU.out _ (by exact Below.drew (bself w3))).mono ?_
    rintro e w4 ⟨rfl, a2, q1, q2, q3⟩
    have Q1 := Lib.hid q1
    have Q2 : Hid (Stays w3 w4 (WF W x1 a1)) := Lib.hid ((Stays.of_below (Below.drew (bself w3)) _).comp q2)
    have Q3 := Lib.hid q3
    have hs4 := HSS.out w4 Q2.out
    have z4 := HZ3.out.stays Q2.out HNZ.out
    have zd := z4.get
    have ze := z4.frozen
    have lz4 := z4.lt
    have HZ4 := Lib.hid z4
    clear q1 q2 q3 z4
    go_simp
    have hHeld2 := hs4
    refine hK.out _ _ (fun _ => hHeld2) ?_
    clear hK K hHeld
    have hHeld := hHeld2
    clear hHeld2
    try simp only [Act.put, zA, zB, zC, zD, zE, zF]
    refine zP 13 (v := ?_) ?_ (fun _ => hHeld) ?_
    rotate_left
    · intro w9; go_simp; try with_reducible rfl
    try simp only [Act.put, zA, zB, zC, zD, zE, zF]
    refine wpAnyT_next (i := 14) (by kernel_rfl) rfl ?_
    intro K hK
    go_simp
    refine hK.out _ _ (zN (by kernel_rfl)) ?_
    clear hK K
    refine wpAnyT_done (by kernel_rfl) ?_ _
    have hs3 : w.heap.size < w3.heap.size := by have := HB23.out.size; omega
    have HFIN : Hid (∀ w', Stays w4 w' (fun k => k = w.heap.size) → PasRes w B W x a (pp.send x) (.returned (.agg #[.int .i64 0, .bool true, .int .i64 (x.frames.length : Int), .slice none 0 0, .bool false, .int .i64 rl])) w') := Lib.hid (fun w' hs => by
      rw [HSE2.out]
      refine PasRes.plain (r := ({ pp.none_ with put := true, id := x.frames.length, left := rl }, pp.putIn x1 (pp.sendSeg x ⟨rc, rf, rd, rn, ra, false, rl⟩) false)) (a1 := a2) rfl Q1.out ((HST2.out.comp (Stays.of_below HB23.out _)).trans Q2.out (fun k hk e => ?_)) (fun k hk => ?_) (hs.mono fun k hk e => ⟨by omega, fun e2 => ?_⟩)
      · rcases HG4.out k e with e2 | e2
        · exact e2
        · omega
      · rcases Q3.out k hk with e | e
        · exact HG4.out k e
        · have e' : w3.heap.size ≤ k := e
          exact .inr (by omega)
      · rcases Q3.out k e2 with e3 | e3
        · exact (HNW.out k e3).1 e
        · have e' : w3.heap.size ≤ k := e3
          omega)
    clear HPU HMK HSS hs4 td
    go_wp2
    refine bodyPost_ret (v := .agg #[.int .i64 0, .bool true, .int .i64 (x.frames.length : Int), .slice none 0 0, .bool false, .int .i64 rl]) (by simp [results, Try.results56, go_sem, *]) rfl (HFIN.out _ ?_)
    exact Stays.sixP _ _ _ _ _ _ _ _
end Go.Proofs.Ytdldfllllgogoaa
namespace Go.Proofs.Ytdldfllllgogoaa
open Go.RowKit
set_option linter.unusedSimpArgs false
/-- frames turned, each where it lies -/
theorem WAt.setFrs {w w':World} {B W:Nat} {x:pp.Wire} {a:WAd} {fa:List FrA} {fs:List pp.Fr} (h:WAt w B W x a) (hs:Stays w w' a.fF) (hf:Frames w' B 158 a.A a.c fa) (hl:fa.length=a.fa.length) (hF:∀ k,FrF a.A fa k↔a.fF k) (hfs:fs=fa.map FrA.fr) :
  WAt w' B W { x with frames:=fs } { a with fa:=fa }∧∀ k,WF W { x with frames:=fs } { a with fa:=fa } k→WF W x a k∨w.heap.size≤k:=by
 refine ⟨⟨h.lo,?_,h.snd.stays hs (fun k hk e=>h.dSF k hk e),h.rcv.stays hs (fun k hk e=>h.dRF k hk e),hf,hfs,fun k hk=>?_,h.dSR,fun k hk e=>h.dSF k hk ((hF k).1 e),fun k hk e=>h.dRF k hk ((hF k).1 e)⟩,fun k hk=>.inl ?_⟩
 ·have hb:=h.blk.stays hs (fun e=>h.dW _ (.inr (.inr e)) rfl)
  unfold WAd.vals at hb ⊢
  rw [hl]
  exact hb
 ·rcases hk with e | e | e
  ·exact h.dW k (.inl e)
  ·exact h.dW k (.inr (.inl e))
  ·exact h.dW k (.inr (.inr ((hF k).1 e)))
 ·rcases hk with e | e | e | e
  ·exact .inl e
  ·exact .inr (.inl e)
  ·exact .inr (.inr (.inl e))
  ·exact .inr (.inr (.inr ((hF k).1 e)))
theorem WRes.same {w w':World} {B W:Nat} {x:pp.Wire} {a:WAd} {v:Value} (h:WAt w B W x a) (hb:Below w.heap.size w w'):WRes w B W x a v x (.returned v) w':=
 ⟨rfl,a,h.next hb,Stays.of_below hb _,fun k hk=>.inl hk⟩
set_option maxRecDepth 100000 in
set_option maxHeartbeats 2000000 in
theorem pipe_hit (B W:Nat) (x:pp.Wire) (a:WAd) (t:Hop) (X:Option Addr) (xc:Nat) (w:World) (h:WAt w B W x a) (hl:x.frames.length≤1000) (hid:IntOk t.id) (hat:IntOk t.at_) (hsz:∀ f,f ∈ x.frames→f.bytes.length≤86) :
  Calls Try.prog 58 #[.pointer (some ⟨W,0,none⟩),.agg #[.int .i64 t.kind,.slice X t.data.length xc,.int .i64 t.id,.int .i64 t.at_,.int .u8 t.by_.toNat,.int .i64 t.count]] w (WRes w B W x a (.int .i64 (pp.hit x t).1) (pp.hit x t).2):=by
 obtain ⟨tk,td,ti,ta,tb,tc⟩:=t
 simp only at hid hat ⊢
 unfold IntOk at hid hat
 have hlen:=h.len
 have H:=Lib.hid h
 obtain ⟨w1,hw1⟩:∃ w1,w1=w.alloc (.cells #[.int .i64 tk,.slice X td.length xc,.int .i64 ti,.int .i64 ta,.int .u8 tb.toNat,.int .i64 tc] 89):=⟨_,rfl⟩
 have hb1:Below w.heap.size w w1:=by rw [hw1];exact balloc (bself w) _
 have HX1:Hid (BlkA w1 w.heap.size 89 #[.int .i64 tk,.slice X td.length xc,.int .i64 ti,.int .i64 ta,.int .u8 tb.toNat,.int .i64 tc]):=Lib.hid (by rw [hw1];exact BlkA.new _ _ _)
 have h1:=h.next hb1
 have H1:=Lib.hid h1
 have HB1:=Lib.hid hb1
 have xd:=HX1.out.get
 have lx:=HX1.out.lt
 have hW1:=h1.blk.lt
 have p3:=h1.ptrF
 rw [hlen] at hl
 have HNO:Hid (∀ (c:Int) w',pp.hit x ⟨tk,td,ti,ta,tb,tc⟩=(c,x)→Below w1.heap.size w1 w'→WRes w B W x a (.int .i64 (pp.hit x ⟨tk,td,ti,ta,tb,tc⟩).1) (pp.hit x ⟨tk,td,ti,ta,tb,tc⟩).2 (.returned (.int .i64 c)) w'):=Lib.hid (fun c w' hc hb=>by
  rw [hc]
  exact WRes.same H.out (bnext HB1.out hb))
 by_cases k1:ti<0
 ·have HE:Hid (pp.hit x ⟨tk,td,ti,ta,tb,tc⟩=(7,x)):=Lib.hid (by unfold pp.hit;rw [if_pos (.inl k1)])
  have q1:decide (ti<0)=true:=by simpa using k1
  clear h h1 hb1
  go_enter Try.func58,Try.ntmps58
  go_upto_region 1 with (fail)
  rw [← hw1]
  clear hw1
  go_quiet (fail)
  go_wp2
  go_ret
  exact HNO.out _ _ HE.out (bdrewN (bself _) _)
 have q1:decide (ti<0)=false:=by simpa using k1
 by_cases k2:(a.fa.length:Int)≤ti
 ·have HE:Hid (pp.hit x ⟨tk,td,ti,ta,tb,tc⟩=(7,x)):=Lib.hid (by unfold pp.hit;rw [if_pos (.inr (by simp only;omega))])
  have q2:decide ((a.fa.length:Int)≤ti)=true:=by simpa using k2
  clear h h1 hb1
  go_enter Try.func58,Try.ntmps58
  go_upto_region 1 with (fail)
  rw [← hw1]
  clear hw1
  go_quiet (fail)
  go_wp2
  go_ret
  exact HNO.out _ _ HE.out (bdrewN (bself _) _)
 have q2:decide ((a.fa.length:Int)≤ti)=false:=by simpa using k2
 obtain ⟨i,rfl⟩:∃ i:Nat,ti=i:=⟨ti.toNat,by omega⟩
 have hi:i<a.fa.length:=by omega
 obtain ⟨g,hg,hgB,hgl,d0,d1,d2⟩:=h1.frs.at_ hi
 have hgD:=h.getD i
 have HROW:=Lib.hid (h1.frs.row hi)
 have hsz1:(a.fa.getD i FrA.z).fr.bytes.length≤86:=by rw [← hgD];exact hsz _ (pp.getD_mem (by omega))
 obtain ⟨f,hf⟩:∃ f,f=a.fa.getD i FrA.z:=⟨_,rfl⟩
 rw [← hf] at d0 d1 d2 hgD HROW hsz1
 have HHIT:Hid (pp.hit x ⟨tk,td,i,ta,tb,tc⟩=if ta<0∨(f.fr.bytes.length:Int)≤ta then (2,x) else if f.fr.hit=true then (8,x) else (0,{ x with frames:=x.frames.set i (pp.hitAt f.fr ta.toNat tb) })):=Lib.hid (by
  unfold pp.hit
  rw [if_neg (by simp only;omega)]
  simp only [Int.toNat_natCast]
  rw [hgD])
 have HF:=Lib.hid hf
 have hi':(i:Int)<(a.fa.length:Int):=by omega
 clear h hb1 hgD hf k1 k2
 rw [hg] at p3
 have HG:=Lib.hid hg
 clear hg h1
 by_cases k3:ta<0
 ·have HE:Hid (pp.hit x ⟨tk,td,i,ta,tb,tc⟩=(2,x)):=Lib.hid (by rw [HHIT.out,if_pos (.inl k3)])
  have q3:decide (ta<0)=true:=by simpa using k3
  go_enter Try.func58,Try.ntmps58
  go_upto_region 1 with (fail)
  rw [← hw1]
  clear hw1
  go_quiet (fail)
  go_wp2
  go_quiet (fail)
  go_wp2
  go_quiet (fail)
  go_wp2
  go_ret
  exact HNO.out _ _ HE.out (by repeat (first | (with_reducible first | exact Below.refl _ _ | assumption | refine bset ?_ ?_ _ | refine balloc ?_ _ | refine Below.drew ?_ | refine bdrewN ?_ _ | refine bnext ?_ (by with_reducible assumption)) | exact Nat.le_refl _ | (simp;done) | omega | (simp;omega)))
 have q3:decide (ta<0)=false:=by simpa using k3
 by_cases k4:(f.fr.bytes.length:Int)≤ta
 ·have HE:Hid (pp.hit x ⟨tk,td,i,ta,tb,tc⟩=(2,x)):=Lib.hid (by rw [HHIT.out,if_pos (.inr k4)])
  have q4:decide ((f.fr.bytes.length:Int)≤ta)=true:=by simpa using k4
  go_enter Try.func58,Try.ntmps58
  go_upto_region 1 with (fail)
  rw [← hw1]
  clear hw1
  go_quiet (fail)
  go_wp2
  go_quiet (fail)
  go_wp2
  go_quiet (fail)
  go_wp2
  go_ret
  exact HNO.out _ _ HE.out (by repeat (first | (with_reducible first | exact Below.refl _ _ | assumption | refine bset ?_ ?_ _ | refine balloc ?_ _ | refine Below.drew ?_ | refine bdrewN ?_ _ | refine bnext ?_ (by with_reducible assumption)) | exact Nat.le_refl _ | (simp;done) | omega | (simp;omega)))
 have q4:decide ((f.fr.bytes.length:Int)≤ta)=false:=by simpa using k4
 cases hh:f.fr.hit with
 | true=>
  have HE:Hid (pp.hit x ⟨tk,td,i,ta,tb,tc⟩=(8,x)):=Lib.hid (by rw [HHIT.out,if_neg (by omega),if_pos hh])
  rw [hh] at d2
  clear hh
  go_enter Try.func58,Try.ntmps58
  go_upto_region 1 with (fail)
  rw [← hw1]
  clear hw1
  go_quiet (fail)
  go_wp2
  go_quiet (fail)
  go_wp2
  go_quiet (fail)
  go_wp2
  go_ret
  exact HNO.out _ _ HE.out (by repeat (first | (with_reducible first | exact Below.refl _ _ | assumption | refine bset ?_ ?_ _ | refine balloc ?_ _ | refine Below.drew ?_ | refine bdrewN ?_ _ | refine bnext ?_ (by with_reducible assumption)) | exact Nat.le_refl _ | (simp;done) | omega | (simp;omega)))
 | false=>
  obtain ⟨n,rfl⟩:∃ n:Nat,ta=n:=⟨ta.toNat,by omega⟩
  have hn:n<f.fr.bytes.length:=by omega
  have HE:Hid (pp.hit x ⟨tk,td,i,n,tb,tc⟩=(0,{ x with frames:=x.frames.set i (pp.hitAt f.fr n tb) })):=Lib.hid (by
   rw [HHIT.out,if_neg (by omega),if_neg (by rw [hh];decide)]
   rfl)
  rw [hh] at d2
  obtain ⟨fb,hfb,_,lfb,yd⟩:=HROW.out.cell (j:=n) (u:=.int .u8 ((f.fr.bytes.getD n 0).toNat:Int)) (by rw [List.getElem?_map,List.getElem?_eq_getElem hn,List.getD_eq_getElem?_getD,List.getElem?_eq_getElem hn];rfl)
  have hn':(n:Int)<(f.fr.bytes.length:Int):=by omega
  have q4':decide (f.fr.bytes.length≤n)=false:=by simpa using hn
  rw [hfb] at d0
  have HFB:=Lib.hid hfb
  obtain ⟨y,hy⟩:∃ y,f.fr.bytes.getD n 0=y:=⟨_,rfl⟩
  rw [hy] at yd
  have HY:=Lib.hid hy
  have hxor:=xor_u8 y tb
  have x3:=xd 3
  have x4:=xd 4
  simp only [List.getElem?_toArray,List.getElem?_cons_succ,List.getElem?_cons_zero] at x3 x4
  have ffr:=HROW.out
  rw [hfb] at ffr
  have ff:=ffr.frozenAt n
  have hgfb:g≠fb:=fun e=>by
   have h5:=H1.out.frs.rowApart u8NeFrame (List.mem_of_getElem? (getD_some hi)) (k:=fb) (by rw [← HF.out,hfb];rfl)
   rw [HG.out] at h5
   exact h5 (by rw [e];rfl)
  have hgo:=H1.out.frs.own
  rw [HG.out] at hgo
  have fg:=hgo.frozenAt (i * 3+2)
  clear hfb hy hh ffr hgo k3 k4
  go_enter Try.func58,Try.ntmps58
  go_upto_region 1 with (fail)
  rw [← hw1]
  clear hw1
  go_quiet (fail)
  go_wp2
  go_quiet (fail)
  go_wp2
  go_quiet (fail)
  go_upto_region 8 with (fail)
  generalize hw2:World.drewN w1 _=w2
  have hb2:Below w1.heap.size w1 w2:=by rw [← hw2];exact bdrewN (bself _) _
  have H2:=Lib.hid (H1.out.next hb2)
  have x3:=(hb2.cell (p:=⟨w.heap.size,3,none⟩) lx).trans x3
  have x4:=(hb2.cell (p:=⟨w.heap.size,4,none⟩) lx).trans x4
  have d0:=(hb2.cell (p:=⟨g,i * 3,none⟩) hgl).trans d0
  have d2:=(hb2.cell (p:=⟨g,i * 3+2,none⟩) hgl).trans d2
  have yd:=(hb2.cell (p:=⟨fb,n,none⟩) lfb).trans yd
  have ff:=(hb2.frozen (p:=⟨fb,n,none⟩) lfb).trans ff
  have fg:=(hb2.frozen (p:=⟨g,i * 3+2,none⟩) hgl).trans fg
  have hg2:g<w2.heap.size:=Nat.lt_of_lt_of_le hgl hb2.size
  have hfb2:fb<w2.heap.size:=Nat.lt_of_lt_of_le lfb hb2.size
  have HB2:=Lib.hid (bnext HB1.out hb2)
  have hfbg:fb≠g:=fun e=>hgfb e.symm
  have HFIN:Hid (∀ w',w'=(w2.drew.setCell ⟨fb,n,none⟩ (.int .u8 ((y ^^^ tb).toNat:Int))).setCell ⟨g,i * 3+2,none⟩ (.bool true)→WRes w B W x a (.int .i64 (pp.hit x ⟨tk,td,i,n,tb,tc⟩).1) (pp.hit x ⟨tk,td,i,n,tb,tc⟩).2 (.returned (.int .i64 0)) w'):=Lib.hid (fun w' hw'=>by
   rw [HE.out,hw']
   have hm:=List.mem_of_getElem? (getD_some hi)
   have e1:=H2.out.frs.next (Below.drew (bself w2))
   have e2:=e1.setByte u8NeFrame hi (g:=fb) (by rw [← HF.out];exact HFB.out) n (y ^^^ tb)
   have e3:=e2.setHit u8NeFrame (i:=i) (by rw [List.length_set];exact hi) HG.out true
   have hgd:(a.fa.set i ⟨{ (a.fa.getD i FrA.z).fr with bytes:=(a.fa.getD i FrA.z).fr.bytes.set n (y ^^^ tb) },(a.fa.getD i FrA.z).A,(a.fa.getD i FrA.z).c⟩).getD i FrA.z=⟨{ (a.fa.getD i FrA.z).fr with bytes:=(a.fa.getD i FrA.z).fr.bytes.set n (y ^^^ tb) },(a.fa.getD i FrA.z).A,(a.fa.getD i FrA.z).c⟩:=by
    rw [List.getD_eq_getElem?_getD,List.getElem?_set_self hi]
    rfl
   rw [hgd,List.set_set] at e3
   have st:Stays w2 ((w2.drew.setCell ⟨fb,n,none⟩ (.int .u8 ((y ^^^ tb).toNat:Int))).setCell ⟨g,i * 3+2,none⟩ (.bool true)) a.fF:=by
    refine (Stays.of_below (Below.drew (bself w2)) _).comp (((Stays.set _ _ _ _).mono fun k _ e=>?_).comp ((Stays.set _ _ _ _).mono fun k _ e=>?_))
    ·exact .inr ⟨_,hm,by rw [← HF.out,HFB.out,e];rfl⟩
    ·exact .inl (by rw [HG.out,e];rfl)
   obtain ⟨h8,h9⟩:=H2.out.setFrs (fs:=x.frames.set i (pp.hitAt f.fr n tb)) st e3 (by rw [List.length_set]) (fun k=>FrF.set hi) (by
    rw [H2.out.same,List.map_set,← HF.out]
    show _=List.set _ i (pp.Fr.mk (f.fr.bytes.set n (y ^^^ tb)) f.fr.back true)
    unfold pp.hitAt
    rw [HY.out])
   exact ⟨rfl,_,h8,(Stays.of_below HB2.out _).trans st (fun k hk e=>.inr (.inr (.inr e))),fun k hk=>(h9 k hk).imp id (fun e=>Nat.le_trans HB2.out.size e)⟩)
  clear hw2 hb2 hgl lfb
  refine wp_region_tail [12] (fun wx=>wx.cell? ⟨g,i * 3,none⟩=some (.slice (some ⟨fb,0,none⟩) f.fr.bytes.length f.c)∧wx.cell? ⟨w.heap.size,3,none⟩=some (.int .i64 (n:Int))∧wx.cell? ⟨w.heap.size,4,none⟩=some (.int .u8 tb.toNat)∧wx.cell? ⟨fb,n,none⟩=some (.int .u8 (y.toNat:Int))) (by kernel_rfl) (⟨d0,x3,x4,yd⟩) ?_
  intro hHeld
  refine zP 0 (v:=?_) ?_ (fun _=>hHeld) ?_
  rotate_left
  ·intro w9;go_simp;try with_reducible rfl
  try simp only [Act.put,zA,zB,zC,zD,zE,zF]
  refine zP 1 (v:=?_) ?_ (fun _=>hHeld) ?_
  rotate_left
  ·intro w9;go_simp;try with_reducible rfl
  try simp only [Act.put,zA,zB,zC,zD,zE,zF]
  refine zP 2 (v:=?_) ?_ (fun _=>hHeld) ?_
  rotate_left
  ·intro w9;go_simp;try with_reducible rfl
  try simp only [Act.put,zA,zB,zC,zD,zE,zF]
  refine zP 4 (v:=?_) ?_ (fun _=>hHeld) ?_
  rotate_left
  ·intro w9;go_simp;try with_reducible rfl
  try simp only [Act.put,zA,zB,zC,zD,zE,zF]
  refine zP 8 (v:=?_) ?_ (fun _=>hHeld) ?_
  rotate_left
  ·intro w9;go_simp;try with_reducible rfl
  try simp only [Act.put,zA,zB,zC,zD,zE,zF]
  refine zT 3 [6,7,10,11,12] (v:=?_) ?_ hHeld ?_
  rotate_left
  ·intro w9 hS9;(try dsimp only at hS9);obtain ⟨q1,q2,q3,q4⟩:=hS9;go_simp;try with_reducible rfl
  try simp only [Act.put,zA,zB,zC,zD,zE,zF]
  refine zT 5 [6,7,10,11,12] (v:=?_) ?_ hHeld ?_
  rotate_left
  ·intro w9 hS9;(try dsimp only at hS9);obtain ⟨q1,q2,q3,q4⟩:=hS9;go_simp;try with_reducible rfl
  try simp only [Act.put,zA,zB,zC,zD,zE,zF]
  refine zP 6 (v:=?_) ?_ (fun _=>hHeld) ?_
  rotate_left
  ·intro w9;go_simp;try with_reducible rfl
  try simp only [Act.put,zA,zB,zC,zD,zE,zF]
  refine zT 7 [10,11,12] (v:=?_) ?_ hHeld ?_
  rotate_left
  ·intro w9 hS9;(try dsimp only at hS9);obtain ⟨q1,q2,q3,q4⟩:=hS9;go_simp;try with_reducible rfl
  try simp only [Act.put,zA,zB,zC,zD,zE,zF]
  refine zT 9 [10,11,12] (v:=?_) ?_ hHeld ?_
  rotate_left
  ·intro w9 hS9;(try dsimp only at hS9);obtain ⟨q1,q2,q3,q4⟩:=hS9;go_simp;try with_reducible rfl
  try simp only [Act.put,zA,zB,zC,zD,zE,zF]
  refine zP 10 (v:=?_) ?_ (fun _=>hHeld) ?_
  rotate_left
  ·intro w9;go_simp;try with_reducible rfl
  try simp only [Act.put,zA,zB,zC,zD,zE,zF]
  refine zP 11 (v:=?_) ?_ (fun _=>hHeld) ?_
  rotate_left
  ·intro w9;go_simp;try with_reducible rfl
  try simp only [Act.put,zA,zB,zC,zD,zE,zF]
  refine wpAnyT_next (i:=12) (by kernel_rfl) rfl ?_
  intro K hK
  go_simp
  refine hK.out _ _ (zN (by kernel_rfl)) ?_
  clear hK K
  refine wpAnyT_done (by kernel_rfl) ?_ _
  go_wp2
  go_ret
  exact HFIN.out _ rfl
end Go.Proofs.Ytdldfllllgogoaa
namespace Go.Proofs.Ytdldfllllgogoaa
open Go.RowKit
/-- what a call answers: a segment, or a fault -/
def segOr:Except Int Segment→Segment
 | .ok s=>s
 | .error _=>sg.noSeg
def SegRes (r:Except Int Segment) (w:World) (e:Ending) (w':World):Prop:=
 ∃ A0 c0 A1 c1,e=.returned (.tuple #[(segOr r).val A0 c0 A1 c1,.int .i64 (exC r)])∧SlRep Rng.rep w' (fun k=>w.heap.size≤k∧k<w'.heap.size) (segOr r).sacks A0 c0∧SlRep Rep.u8 w' (fun k=>w.heap.size≤k∧k<w'.heap.size) (segOr r).data A1 c1∧Below w.heap.size w w'
theorem SegRes.no {r:Except Int Segment} {c:Int} (h:r=.error c) {w w':World} (hb:Below w.heap.size w w'):SegRes r w (.returned (.tuple #[.agg #[.int .i64 0,.int .i64 0,.int .i64 0,.bool false,.bool false,.bool false,.bool false,.slice none 0 0,.slice none 0 0],.int .i64 c])) w':=by
 subst h
 exact ⟨none,0,none,0,rfl,sl_nil _ _ _,sl_nil _ _ _,hb⟩
theorem bits_or_hi (x y:Int) (hx:0≤x∧x<256) (hy:0≤y∧y<256):bits .or .i64 (x * 256) y=x * 256+y:=by
 obtain ⟨a,rfl⟩:=Int.eq_ofNat_of_zero_le hx.1
 obtain ⟨b,rfl⟩:=Int.eq_ofNat_of_zero_le hy.1
 have ha:(BitVec.ofInt 64 ((a:Int) * 256)).toNat=a * 256:=by
  rw [show ((a:Int) * 256)=((a * 256:Nat):Int) by omega,BitVec.ofInt_natCast,BitVec.toNat_ofNat];exact Nat.mod_eq_of_lt (by omega)
 have hb:(BitVec.ofInt 64 (b:Int)).toNat=b:=by
  rw [BitVec.ofInt_natCast,BitVec.toNat_ofNat];exact Nat.mod_eq_of_lt (by omega)
 show IntKind.i64.wrap ((BitVec.ofInt 64 ((a:Int) * 256) ||| BitVec.ofInt 64 (b:Int)).toNat:Int)=_
 rw [BitVec.toNat_or,ha,hb,show a * 256=2 ^ 8 * a by omega,← Nat.two_pow_add_eq_or_of_lt (by omega),IntKind.wrap_i64]
 omega
set_option maxHeartbeats 400000 in
theorem seg_word (b:List UInt8) (A:Option Addr) (c B:Nat) (S:Nat→Prop) (w:World) (hB:w.cell? ⟨B,0,none⟩=some (.slice A b.length c)) (hl:SlRep Rep.u8 w S b A c) (i:Nat) (j:Int) (hj:j=i) (hi:i+1<b.length) (hn:b.length≤140737488351232) :
  Calls Try.prog 113 #[.int .i64 j,.pointer (some ⟨B,0,none⟩)] w fun e w'=>e=.returned (.int .i64 (sg.w16 b i))∧∃ m,w'=w.drewN m:=by
 subst hj
 obtain ⟨bb,oo,rfl,_,hc1⟩:=u8_at hl (show i<b.length by omega)
 obtain ⟨b',o',he,_,hc2⟩:=u8_at hl hi
 simp only [Option.some.injEq,Addr.mk.injEq,and_true] at he
 obtain ⟨rfl,rfl⟩:=he
 have hx:=sg.byteAt_bd b i
 have hy:=sg.byteAt_bd b (i+1)
 have HW:Hid (sg.w16 b i=sg.byteAt b i * 256+sg.byteAt b (i+1)):=Lib.hid (by unfold sg.w16;omega)
 change _=some (Value.int .u8 (sg.byteAt b i)) at hc1
 change _=some (Value.int .u8 (sg.byteAt b (i+1))) at hc2
 have hi1:(i:Int)<(b.length:Int):=by omega
 have hi2:(i:Int)+1<(b.length:Int):=by omega
 have hi3:¬ ((i:Int)+1<0):=by omega
 have hi4:=IntWalk.i64_in ((i:Int)+1) (by omega)
 have hii:((i:Int)+1).toNat=i+1:=by omega
 have hb:=bits_or_hi _ _ hx hy
 have hw:=IntWalk.i64_in (sg.byteAt b i * 256) (by omega)
 have hwx:=IntWalk.i64_in (sg.byteAt b i) (by omega)
 have hwy:=IntWalk.i64_in (sg.byteAt b (i+1)) (by omega)
 generalize sg.byteAt b i=x at *
 generalize sg.byteAt b (i+1)=y at *
 clear hl
 go_enter Try.func113,Try.ntmps113
 go_wp2
 go_quiet (fail)
 go_wp2
 go_ret
 exact ⟨by rw [HW.out];rfl,_,rfl⟩
set_option maxHeartbeats 400000 in
theorem ref_word (b:List UInt8) (A:Option Addr) (c B:Nat) (S:Nat→Prop) (w:World) (hB:w.cell? ⟨B,0,none⟩=some (.slice A b.length c)) (hl:SlRep Rep.u8 w S b A c) (i:Nat) (j:Int) (hj:j=i) (hi:i+1<b.length) (hn:b.length≤140737488351232) :
  Calls Try.prog 108 #[.int .i64 j,.pointer (some ⟨B,0,none⟩)] w fun e w'=>e=.returned (.int .i64 (sg.w16 b i))∧∃ m,w'=w.drewN m:=by
 subst hj
 obtain ⟨bb,oo,rfl,_,hc1⟩:=u8_at hl (show i<b.length by omega)
 obtain ⟨b',o',he,_,hc2⟩:=u8_at hl hi
 simp only [Option.some.injEq,Addr.mk.injEq,and_true] at he
 obtain ⟨rfl,rfl⟩:=he
 have hx:=sg.byteAt_bd b i
 have hy:=sg.byteAt_bd b (i+1)
 have HW:Hid (sg.w16 b i=256 * sg.byteAt b i+sg.byteAt b (i+1)):=Lib.hid (by unfold sg.w16;omega)
 change _=some (Value.int .u8 (sg.byteAt b i)) at hc1
 change _=some (Value.int .u8 (sg.byteAt b (i+1))) at hc2
 have hi1:(i:Int)<(b.length:Int):=by omega
 have hi2:(i:Int)+1<(b.length:Int):=by omega
 have hi3:¬ ((i:Int)+1<0):=by omega
 have hi4:=IntWalk.i64_in ((i:Int)+1) (by omega)
 have hii:((i:Int)+1).toNat=i+1:=by omega
 have hw:=IntWalk.i64_in (256 * sg.byteAt b i) (by omega)
 have hw2:=IntWalk.i64_in (256 * sg.byteAt b i+sg.byteAt b (i+1)) (by omega)
 have hwx:=IntWalk.i64_in (sg.byteAt b i) (by omega)
 have hwy:=IntWalk.i64_in (sg.byteAt b (i+1)) (by omega)
 generalize sg.byteAt b i=x at *
 generalize sg.byteAt b (i+1)=y at *
 clear hl
 go_enter Try.func108,Try.ntmps108
 go_wp2
 go_quiet (fail)
 go_wp2
 go_ret
 exact ⟨by rw [HW.out];rfl,_,rfl⟩
/-! ### The segment that is made -/
def segCells (s:Segment) (A0:Option Addr) (c0:Nat) (A1:Option Addr) (c1:Nat):List Value:=
 [.int .i64 s.seq,.int .i64 s.ack,.int .i64 s.window,.bool s.syn,.bool s.fin,.bool s.rst,.bool s.acks,.slice A0 s.sacks.length c0,.slice A1 s.data.length c1]
theorem segAt_iff {w:World} {g:Nat} {s:Segment} {A0:Option Addr} {c0:Nat} {A1:Option Addr} {c1:Nat}:SegAt w g s A0 c0 A1 c1↔g<w.heap.size∧∀ o u,(segCells s A0 c0 A1 c1)[o]? = some u→w.cell? ⟨g,o,none⟩=some u:=by
 constructor
 ·rintro ⟨h0,h1,h2,h3,h4,h5,h6,h7,h8,h9⟩
  refine ⟨h0,fun o u hu=>?_⟩
  rcases (show o=0∨o=1∨o=2∨o=3∨o=4∨o=5∨o=6∨o=7∨o=8∨9≤o by omega) with rfl | rfl | rfl | rfl | rfl | rfl | rfl | rfl | rfl | h
  all_goals first | (cases hu;assumption) | (rw [List.getElem?_eq_none (by simp [segCells];omega)] at hu;cases hu)
 ·rintro ⟨h0,h⟩
  exact ⟨h0,h 0 _ rfl,h 1 _ rfl,h 2 _ rfl,h 3 _ rfl,h 4 _ rfl,h 5 _ rfl,h 6 _ rfl,h 7 _ rfl,h 8 _ rfl⟩
theorem SegAt.put {w:World} {g:Nat} {s s':Segment} {A0 A0':Option Addr} {c0 c0':Nat} {A1 A1':Option Addr} {c1 c1':Nat} (h:SegAt w g s A0 c0 A1 c1) (k:Nat) (v:Value) (hk:k<9) (hs:segCells s' A0' c0' A1' c1'=(segCells s A0 c0 A1 c1).set k v):SegAt (w.setCell ⟨g,k,none⟩ v) g s' A0' c0' A1' c1':=by
 rw [segAt_iff] at h ⊢
 refine ⟨by simpa [World.setCell] using h.1,fun o u hu=>?_⟩
 rw [hs] at hu
 have hlen:(segCells s A0 c0 A1 c1).length=9:=rfl
 by_cases ho:k=o
 ·subst ho
  rw [List.getElem?_set_self (by omega)] at hu
  cases hu
  obtain ⟨u0,h0⟩:∃ u0,(segCells s A0 c0 A1 c1)[k]? = some u0:=⟨_,List.getElem?_eq_getElem (by omega)⟩
  exact World.cell?_setCell_same' _ _ _ (by rw [h.2 _ _ h0];rfl)
 ·rw [List.getElem?_set_ne ho] at hu
  have:=h.2 o u hu
  simp [go_sem,ho,Ne.symm ho,this]
structure DecAt (w wr:World) (G:Nat) (A:Option Addr) (n c:Nat) (s:Segment) (A0:Option Addr) (c0:Nat) (A1:Option Addr) (c1:Nat):Prop where
 box:wr.cell? ⟨w.heap.size,0,none⟩=some (.slice A n c)
 res:SegAt wr (w.heap.size+1) sg.noSeg none 0 none 0
 rfz:∀ o,wr.frozen? ⟨w.heap.size+1,o,none⟩=false
 seg:SegAt wr G s A0 c0 A1 c1
 sfz:∀ o,wr.frozen? ⟨G,o,none⟩=false
 hG:w.heap.size+1<G
 below:Below w.heap.size w wr
theorem DecAt.next {w wr wr':World} {G:Nat} {A:Option Addr} {n c:Nat} {s:Segment} {A0:Option Addr} {c0:Nat} {A1:Option Addr} {c1:Nat} (h:DecAt w wr G A n c s A0 c0 A1 c1) {B:Nat} (hb:Below B wr wr') (hB:G<B):DecAt w wr' G A n c s A0 c0 A1 c1:=
 have hG:=h.hG
 ⟨(hb.cell (p:=⟨w.heap.size,0,none⟩) (by show w.heap.size<B;omega)).trans h.box,h.res.below hb (by omega),fun o=>(hb.frozen (p:=⟨w.heap.size+1,o,none⟩) (by show w.heap.size+1<B;omega)).trans (h.rfz o),h.seg.below hb hB,fun o=>(hb.frozen (p:=⟨G,o,none⟩) hB).trans (h.sfz o),hG,h.below.trans (hb.mono (by omega))⟩
theorem DecAt.put {w wr:World} {G:Nat} {A:Option Addr} {n c:Nat} {s s':Segment} {A0 A0':Option Addr} {c0 c0':Nat} {A1 A1':Option Addr} {c1 c1':Nat} (h:DecAt w wr G A n c s A0 c0 A1 c1) (k:Nat) (v:Value) (hk:k<9) (hs:segCells s' A0' c0' A1' c1'=(segCells s A0 c0 A1 c1).set k v):DecAt w (wr.setCell ⟨G,k,none⟩ v) G A n c s' A0' c0' A1' c1':=
 have hG:=h.hG
 have hb:Below G wr (wr.setCell ⟨G,k,none⟩ v):=(Below.refl _ _).setCell (p:=⟨G,k,none⟩) (Nat.le_refl _) _
 ⟨(hb.cell (p:=⟨w.heap.size,0,none⟩) (by show w.heap.size<G;omega)).trans h.box,h.res.below hb hG,fun o=>(hb.frozen (p:=⟨w.heap.size+1,o,none⟩) hG).trans (h.rfz o),h.seg.put k v hk hs,fun o=>by rw [World.frozen?_setCell];exact h.sfz o,hG,h.below.trans (hb.mono (by omega))⟩
/-! ### Too short -/
set_option maxRecDepth 100000 in
set_option maxHeartbeats 2000000 in
theorem seg_Decode_short (b:List UInt8) (A:Option Addr) (c:Nat) (w:World) (h:b.length<10) :
  Calls Try.prog 101 #[.slice A b.length c] w (SegRes (.error 5) w):=by
 have h':(b.length:Int)<10:=by omega
 generalize b.length=n at *
 go_enter Try.func101,Try.ntmps101
 go_wp2
 refine bodyPost_ret (v:=.tuple #[.agg #[.int .i64 0,.int .i64 0,.int .i64 0,.bool false,.bool false,.bool false,.bool false,.slice none 0 0,.slice none 0 0],.int .i64 5]) (by simp [results,Try.results101,go_sem]) rfl ?_
 exact SegRes.no rfl (by repeat (first | (with_reducible first | exact Below.refl _ _ | assumption | refine bset ?_ ?_ _ | refine balloc ?_ _ | refine Below.drew ?_ | refine bdrewN ?_ _ | refine bnext ?_ (by with_reducible assumption)) | exact Nat.le_refl _ | (simp;done) | omega | (simp;omega)))
set_option maxRecDepth 100000 in
set_option maxHeartbeats 2000000 in
theorem ref_Decoded_short (b:List UInt8) (A:Option Addr) (c:Nat) (w:World) (h:b.length<10) :
  Calls Try.prog 91 #[.slice A b.length c] w (SegRes (.error 5) w):=by
 have h':(b.length:Int)<10:=by omega
 generalize b.length=n at *
 go_enter Try.func91,Try.ntmps91
 go_wp2
 refine bodyPost_ret (v:=.tuple #[.agg #[.int .i64 0,.int .i64 0,.int .i64 0,.bool false,.bool false,.bool false,.bool false,.slice none 0 0,.slice none 0 0],.int .i64 5]) (by simp [results,Try.results91,go_sem]) rfl ?_
 exact SegRes.no rfl (by repeat (first | (with_reducible first | exact Below.refl _ _ | assumption | refine bset ?_ ?_ _ | refine balloc ?_ _ | refine Below.drew ?_ | refine bdrewN ?_ _ | refine bnext ?_ (by with_reducible assumption)) | exact Nat.le_refl _ | (simp;done) | omega | (simp;omega)))
end Go.Proofs.Ytdldfllllgogoaa
