/- Texts in one: Sacks2, Sacks3, RecvP, SendP, SendP2, RecvP2, Inet, SegP, SegD, Serial, Serial3, PipeP. No condition. -/
import Derived.Test.YtdldfllllgogoaaPipM2
import Derived.Test.YtdldfllllgogoaaPipM1
import Derived.LoopTactic
import Derived.Laws.BitsAllLaws
import Derived.Laws.BitsLemmas
namespace Go.Proofs.Ytdldfllllgogoaa
open Go.RowKit Go.Shelf
attribute [local go_sem] Oper.semAt_some
theorem info_rng:(Try.prog.info? 78).map (fun i=>(i.zero,i.size,i.bytes))=some (some (.agg #[.int .i64 0,.int .i64 0]),2,16):=by kernel_rfl
def hits (last:Int) (pre:List (Int × Rng)):List Rng:=(pre.map Prod.snd).filter (hitB last)
def miss (last:Int) (pre:List (Int × Rng)):List Rng:=(pre.map Prod.snd).filter (fun r=>! hitB last r)
theorem hits_yes {last:Int} {pre:List (Int × Rng)} {x:Int × Rng} (h:hitB last x.2=true):hits last (pre ++ [x])=hits last pre ++ [x.2]∧miss last (pre ++ [x])=miss last pre:=by
 constructor <;> simp [hits,miss,h]
theorem hits_no {last:Int} {pre:List (Int × Rng)} {x:Int × Rng} (h:hitB last x.2=false):hits last (pre ++ [x])=hits last pre∧miss last (pre ++ [x])=miss last pre ++ [x.2]:=by
 constructor <;> simp [hits,miss,h]
theorem hits_le (last:Int) (pre:List (Int × Rng)):(hits last pre).length≤pre.length∧(miss last pre).length≤pre.length:=by
 constructor <;> exact Nat.le_trans (List.length_filter_le _ _) (by simp)
theorem back_snd (l:List Rng):∀ k,k≤l.length→(backTo l k).map Prod.snd=l.reverse.take k:=by
 intro k
 induction k with
 | zero=>intro _;rfl
 | succ k ih=>
  intro hk
  rw [backTo,List.map_append,ih (by omega),rev_take_succ l (l.length - 1 - k) k (by omega)]
  rfl
theorem filter_once (last:Int):∀ l:List Rng,(∀ i j,i<l.length→j<l.length→hitB last (l.getD i Rng.z)=true→hitB last (l.getD j Rng.z)=true→i=j)→(l.filter (hitB last)).length≤1
 | [],_=>by simp
 | a :: t,h=>by
  cases ha:hitB last a with
  | false=>
   rw [List.filter_cons_of_neg (by simp [ha])]
   exact filter_once last t fun i j hi hj h1 h2=>by
    have:=h (i+1) (j+1) (by simpa using hi) (by simpa using hj) (by simpa using h1) (by simpa using h2)
    omega
  | true=>
   rw [List.filter_cons_of_pos ha]
   have:t.filter (hitB last)=[]:=by
    rw [List.filter_eq_nil_iff]
    intro b hb hh
    obtain ⟨k,hk,rfl⟩:=mem_at hb
    have:=h 0 (k+1) (by simp) (by simpa using hk) (by simpa using ha) (by simpa using hh)
    omega
   rw [this]
   simp
theorem hit_once {done last:Int} {l:List Rng} (h:HoleMay done l):l.reverse.filter (hitB last)=l.filter (hitB last):=by
 have h1:=filter_once last l fun i j hi hj=>one_hit h hi hj
 rw [List.filter_reverse]
 cases hf:l.filter (hitB last) with
 | nil=>rfl
 | cons x r=>
  rw [hf] at h1
  cases r with
  | nil=>rfl
  | cons y r=>simp at h1
set_option maxRecDepth 100000 in
set_option maxHeartbeats 4000000 in
theorem hole_Sacks_in (done:Int) (l:List Rng) (last n:Int) (A:Option Addr) (c:Nat) (w:World) (hl:SlRep Rng.rep w (· < w.heap.size) l A c) (h:holeMayB done l=true) (hn:0≤n∧n≤16) :
  CallsIn Fence.wide 9 Try.prog 41 #[.int .i64 done,.slice A l.length c,.int .i64 last,.int .i64 n] w (RngsRes (.ok (sacks last n l)) w):=by
 have hm:HoleMay done l:=by simpa [holeMayB] using h
 have hn16:=hm.2.2.1
 have HMAY:=Lib.hid hm
 have HL:=Lib.hid hl
 clear hl hm
 obtain ⟨i0,hi,hz0,hz1,hz2⟩:=info_parts info_rng
 refine callsIn_of_wp_marks Try.func41 rfl trivial ?_ rfl
 simp only [Try.ntmps41,List.size_toArray,List.length_cons,List.length_nil,Nat.reduceAdd,Nat.reduceSub,Array.replicate_succ,Array.replicate_zero,List.push_toArray,List.append_toArray,List.nil_append,List.cons_append]
 gi_wp2_with (first
  | (refine ⟨trivial,?_⟩;gi_at_call 73;refine (callsIn_wide.2 (hole_May_yes done l A c _ (HL.out.next (balloc (bself w) _)) (by omega) h)).mono ?_;rintro e w1 ⟨rfl,hb1⟩;have hL1:Boxed w1 w.heap.size 3 (.int .i64 last):=(hb1.block w.heap.size (by simp)).trans (Boxed.new w 3 (.int .i64 last));have B1:Below w.heap.size w w1:=(by repeat (first | (with_reducible first | exact Below.refl _ _ | assumption | refine bset ?_ ?_ _ | refine balloc ?_ _ | refine Below.drew ?_ | refine bdrewN ?_ _ | refine bnext ?_ (by with_reducible assumption)) | exact Nat.le_refl _ | (simp;done) | omega | (simp;omega)));have ha1:∀ b o,b<w.heap.size→w1.cell? ⟨b,o,none⟩=w.cell? ⟨b,o,none⟩:=fun b o h=>B1.cell (p:=⟨b,o,none⟩) h;have hk1:∀ k,k<w.heap.size→k<w1.heap.size:=fun _ h=>Nat.lt_of_lt_of_le h B1.size;have hz1:=hb1.size;(try simp at hz1);have hl1_w0:w.heap.size<w1.heap.size:=Nat.lt_of_lt_of_le (by first | (simp;done) | (simp;omega) | omega) hb1.size;have hc1_w0:=fun o=>hb1.cell (p:=⟨w.heap.size,o,none⟩) (by first | (simp;done) | (simp;omega) | omega);have hf1_w0:=fun o=>hb1.frozen (p:=⟨w.heap.size,o,none⟩) (by first | (simp;done) | (simp;omega) | omega);(try simp [go_sem, *] at hc1_w0);(try simp [go_sem, *] at hf1_w0);clear hb1)
  | (refine ⟨trivial,?_⟩;gi_at_call 74;refine (back_in Fence.wide _ trivial rfl _ _ _ _).mono ?_;rintro e w' ⟨rfl,rfl⟩)
  | fail)
 have hw1:w.heap.size<w1.heap.size:=hl1_w0
 obtain ⟨B,hB⟩:∃ B,B=w1.heap.size:=⟨_,rfl⟩
 have bA:=((Boxed.new w1 39 (.slice none 0 0)).alloc (.cells #[.slice none 0 0] 39)).alloc (.cells #[.slice A l.length c] 39)
 have bR:=(Boxed.new (w1.alloc (.cells #[.slice none 0 0] 39)) 39 (.slice none 0 0)).alloc (.cells #[.slice A l.length c] 39)
 have bS:=Boxed.new ((w1.alloc (.cells #[.slice none 0 0] 39)).alloc (.cells #[.slice none 0 0] 39)) 39 (.slice A l.length c)
 have bL:=((hL1.alloc (.cells #[.slice none 0 0] 39)).alloc (.cells #[.slice none 0 0] 39)).alloc (.cells #[.slice A l.length c] 39)
 simp only [World.size_alloc] at bA bR bS bL
 have hBW:Below w.heap.size w (((w1.alloc (.cells #[.slice none 0 0] 39)).alloc (.cells #[.slice none 0 0] 39)).alloc (.cells #[.slice A l.length c] 39)):=balloc (balloc (balloc B1 _) _) _
 have hsz:(((w1.alloc (.cells #[.slice none 0 0] 39)).alloc (.cells #[.slice none 0 0] 39)).alloc (.cells #[.slice A l.length c] 39)).heap.size=B+3:=by rw [hB];simp
 obtain ⟨W0,hW0⟩:∃ W0,((w1.alloc (.cells #[.slice none 0 0] 39)).alloc (.cells #[.slice none 0 0] 39)).alloc (.cells #[.slice A l.length c] 39)=W0:=⟨_,rfl⟩
 rw [hW0] at bA bR bS bL hBW hsz ⊢
 clear hW0 hL1
 rw [← hB] at bA bR bS ⊢
 have hwB:w.heap.size<B:=by omega
 clear ha1 hk1 hz1 hl1_w0 hc1_w0 hf1_w0 hB
 refine wpIn_rangeFunc_ownH rfl (by omega) (gf:=97) (lb:=#[.pointer (some ⟨B+1+1,0,none⟩)]) rfl trivial (enters_of Try.func97 (by kernel_rfl) rfl)
  (back_stops Fence.wide _ trivial rfl (by omega) (B+1+1) w.heap.size l A c (by omega) W0 (by omega) (by omega) bS.cell (HL.out.below hBW)) BackKp.trans (fun W lp o o'=>back_keeps (by omega) W lp o o') (Below.refl _ _) (fun _=>rfl)
  (fun pre W=>∃ A1 c1 A2 c2,SackC w (B+3) B (B+1) (B+1+1) w.heap.size last A l.length c (hits last pre) (miss last pre) A1 c1 A2 c2 W)
  (fun _ _ _=>False)
  (fun pre W W' row hs hg hr=>by obtain ⟨A1,c1,A2,c2,hS⟩:=hs;exact ⟨A1,c1,A2,c2,hS.kept hg (fun r e=>⟨by have:=(hr r e).1;omega,(hr r e).2⟩)⟩)
  (fun _ _ _ _ _ hs _ _=>hs)
  ⟨none,0,none,0,bA,bR,bS,bL,Own.nil _ _ _ _,Own.nil _ _ _ _,Two.none_left _,hBW,⟨by omega,by omega⟩,⟨by omega,by omega⟩,⟨by omega,by omega⟩,by omega,by omega,by omega,by omega,by omega,by omega,by omega⟩
  (fun x a' W=>∃ Bx,B+3≤Bx∧W.heap[Bx]? = some (.cells #[.int .i64 x.2.lo,.int .i64 x.2.hi] 78)∧a'={ tmps:=#[.int .i64 done,.slice A l.length c,.int .i64 last,.int .i64 n,undef,undef,.pointer (some ⟨w.heap.size,0,none⟩),undef,.slice none 0 0,.int .i64 0,.pointer (some ⟨B,0,none⟩),.pointer (some ⟨B+1,0,none⟩),undef,.pointer (some ⟨Bx,0,none⟩),.int .i64 done,.slice A l.length c,.bool true,.bool false,.int .i64 n,.bool (decide (n<0)),.bool (decide (n<0)),.int .i64 n,.bool (decide (16<n)),.bool (decide (n<0) || decide (16<n)),.slice A l.length c,.func (.func 97) #[] #[.pointer (some ⟨B+1+1,0,none⟩)],.int .i64 x.1,.agg #[.int .i64 x.2.lo,.int .i64 x.2.hi],undef,undef,undef,undef,undef,undef,undef,undef,undef,undef,undef,undef,undef,undef,undef,undef,undef,undef,undef,undef,undef,undef,undef,undef,undef,undef,undef],defers:=[] })
  (fun x a' _ X Y row hs hg hr=>by
   obtain ⟨Bx,h1,h2,h3⟩:=hs
   refine ⟨Bx,h1,(hg.block Bx (Array.getElem?_eq_some_iff.1 h2).1 (fun e=>?_)).trans h2,h3⟩
   obtain ⟨_,o,ho,hc⟩:=hr Bx e.symm
   rw [h2] at ho
   cases ho
   cases hc)
  ?assign ?body ?done ?stop
 case assign=>
  rintro lp pre x W K ⟨A1,c1,A2,c2,hS⟩ hK
  gi_wp2
  exact hK _ _ ((KeepsOthers.alloc _ _).from _) ⟨(Below.refl _ W).alloc hS.low.size _,fun v hv=>((balloc (bself W) _).cell (p:=⟨B+1+1,0,none⟩) hS.bs.lt).trans hv⟩ ⟨A1,c1,A2,c2,hS.alloc _⟩ ⟨W.heap.size,hS.h0.2,World.alloc_heap_new _ _,rfl⟩
 case body=>
  rintro lp pre ⟨xi,⟨x,y⟩⟩ a' W _ ⟨r,hr⟩ ⟨A1,c1,A2,c2,hS⟩ ⟨Bx,hBx,hX,rfl⟩ hlt
  dsimp only at hX ⊢
  have x0:W.cell? ⟨Bx,0,none⟩=some (.int .i64 x):=by simp [World.cell?,hX]
  have x1:W.cell? ⟨Bx,1,none⟩=some (.int .i64 y):=by simp [World.cell?,hX]
  have y0:=hS.bl.cell
  have y1:W.cell? ⟨B,0,none⟩=some (.slice A1 (hits last pre).length c1):=hS.ba.cell
  have y2:W.cell? ⟨B+1,0,none⟩=some (.slice A2 (miss last pre).length c2):=hS.bb.cell
  have z1:W.frozen? ⟨B,0,none⟩=false:=hS.ba.frozen
  have z2:W.frozen? ⟨B+1,0,none⟩=false:=hS.bb.frozen
  have hlh:=hits_le last pre
  have HS:=Lib.hid hS
  have hsW:=hS.h0.2
  clear hS hX
  by_cases h1:x≤last
  ·by_cases h2:last<y
   ·have hh:hitB last ⟨x,y⟩=true:=by simp [hitB,h1,h2]
    gi_wp2_with (gi_at_builtin;refine wpIn_app _ rfl _ _ _ rfl elemRng (B+3) A1 _ c1 _ rfl (HS.out.alloc _).o1 (some ⟨W.heap.size,0,none⟩) 1 1 [.int .i64 x,.int .i64 y] rfl rfl (Cells.newAt _ _ _ rfl) (by simp [Value.oneCell']) (by omega) (by unfold maxLen;omega) (by simp;omega) ?_;intro A3 c3 w3 hO hg;obtain ⟨hS2,hKF,hLow,hb3⟩:=HS.out.step (x:=⟨x,y⟩) hg hO;have hc3:=hb3.cell;have hf3:=hb3.frozen)
    exact ⟨hKF _,⟨hLow _ (by omega),fun v hv=>by rw [HS.out.bs.cell] at hv;cases hv;exact hS2.bs.cell⟩,⟨A3,c3,A2,c2,by rw [(hits_yes (x:=(xi,⟨x,y⟩)) hh).1,(hits_yes (x:=(xi,⟨x,y⟩)) hh).2];exact hS2⟩⟩
   ·have hh:hitB last ⟨x,y⟩=false:=by simp [hitB,h2]
    gi_wp2_with (gi_at_builtin;refine wpIn_app _ rfl _ _ _ rfl elemRng (B+3) A2 _ c2 _ rfl (HS.out.alloc _).o2 (some ⟨W.heap.size,0,none⟩) 1 1 [.int .i64 x,.int .i64 y] rfl rfl (Cells.newAt _ _ _ rfl) (by simp [Value.oneCell']) (by omega) (by unfold maxLen;omega) (by simp;omega) ?_;intro A3 c3 w3 hO hg;obtain ⟨hS2,hKF,hLow,hb3⟩:=HS.out.swap.step (x:=⟨x,y⟩) hg hO;have hc3:=hb3.cell;have hf3:=hb3.frozen)
    exact ⟨hKF _,⟨hLow _ (by omega),fun v hv=>by rw [HS.out.bs.cell] at hv;cases hv;exact hS2.bs.cell⟩,⟨A1,c1,A3,c3,by rw [(hits_no (x:=(xi,⟨x,y⟩)) hh).1,(hits_no (x:=(xi,⟨x,y⟩)) hh).2];exact hS2.swap⟩⟩
  ·have hh:hitB last ⟨x,y⟩=false:=by simp [hitB,h1]
   gi_wp2_with (gi_at_builtin;refine wpIn_app _ rfl _ _ _ rfl elemRng (B+3) A2 _ c2 _ rfl (HS.out.alloc _).o2 (some ⟨W.heap.size,0,none⟩) 1 1 [.int .i64 x,.int .i64 y] rfl rfl (Cells.newAt _ _ _ rfl) (by simp [Value.oneCell']) (by omega) (by unfold maxLen;omega) (by simp;omega) ?_;intro A3 c3 w3 hO hg;obtain ⟨hS2,hKF,hLow,hb3⟩:=HS.out.swap.step (x:=⟨x,y⟩) hg hO;have hc3:=hb3.cell;have hf3:=hb3.frozen)
   exact ⟨hKF _,⟨hLow _ (by omega),fun v hv=>by rw [HS.out.bs.cell] at hv;cases hv;exact hS2.bs.cell⟩,⟨A1,c1,A3,c3,by rw [(hits_no (x:=(xi,⟨x,y⟩)) hh).1,(hits_no (x:=(xi,⟨x,y⟩)) hh).2];exact hS2.swap⟩⟩
 case done=>
  rintro D ys W hD rfl ⟨A1,c1,A2,c2,hS⟩ hK
  have e1:hits last (backTo l l.length)=l.filter (hitB last):=by
   unfold hits
   rw [back_snd l _ (Nat.le_refl _),List.take_of_length_le (by simp),hit_once HMAY.out]
  have e2:miss last (backTo l l.length)=l.reverse.filter (fun r=>! hitB last r):=by
   unfold miss
   rw [back_snd l _ (Nat.le_refl _),List.take_of_length_le (by simp)]
  have hlh:=hits_le last (backTo l l.length)
  rw [backTo_length] at hlh
  have HALL:Hid (hits last (backTo l l.length) ++ miss last (backTo l l.length)=sackAll last l):=Lib.hid (by rw [e1,e2];rfl)
  have HLEN:=Lib.hid (sackAll_length last l)
  clear e1 e2
  generalize hits last (backTo l l.length)=l1 at *
  generalize miss last (backTo l l.length)=l2 at *
  have y1:W.cell? ⟨B,0,none⟩=some (.slice A1 l1.length c1):=hS.ba.cell
  have y2:W.cell? ⟨B+1,0,none⟩=some (.slice A2 l2.length c2):=hS.bb.cell
  have z1:W.frozen? ⟨B,0,none⟩=false:=hS.ba.frozen
  have hsum:l1.length+l2.length=l.length:=by rw [← List.length_append,HALL.out,HLEN.out]
  have HS:=Lib.hid hS
  have hsW:=hS.h0.2
  clear hS
  have HT:Hid ((sacks last n l).length=min n.toNat l.length):=Lib.hid (by unfold sacks;rw [List.length_take,HLEN.out])
  by_cases hgt:(l.length:Int)<n
  ·have HCG:=Lib.hid (fun (A3:Option Addr) (c3:Nat) (hc:l.length≤c3)=>run_cut_h (P:=Try.prog) elemRng A3 l.length c3 l.length hc (l.length:Int) rfl)
   gi_wp2_with (gi_at_builtin;refine wpIn_app _ rfl _ _ _ rfl elemRng (B+3) A1 _ c1 _ rfl HS.out.o1 A2 l2.length c2 (l2.flatMap Rng.cells) rfl (by rw [flatMap_len Rng.cells 2 (fun _=>rfl)]) HS.out.o2.cells (Rng.one l2) (by omega) (by unfold maxLen;omega) (by omega) ?_;intro A3 c3 w3 hO hg;have hba:=HS.out.ba.kept hg.grown (box_row HS.out.ba HS.out.o1);have hc3:=hba.cell;have hf3:=hba.frozen;have HO:=Lib.hid hO;have hcut:=HCG.out A3 c3 (Nat.le_trans (Nat.le_of_eq hsum.symm) hO.cap.1);clear hO)
   have hD3:w3.heap[D]? = some (.deferred (some [])):=(hg.grown.block D (Array.getElem?_eq_some_iff.1 hK).1 (fun e=>by
    rcases row_ne HS.out.o1 (row:=some D) (fun r e'=>by cases e';exact ⟨_,hK,rfl⟩) with h1 | h1
    ·rw [h1] at e;cases e
    ·exact h1 e.symm)).trans hK
   have hK3:=fun v=>(Below.heap_setCell w3 ⟨B,0,none⟩ v D (by show D≠B;omega)).trans hD3
   refine ⟨by simp,.inl ⟨_,_,rfl,run_takeDeferred (hK3 _),?_⟩⟩
   refine ⟨_,results_tmp2 rfl _ _ _,A3,c3,?_,?_,?_⟩
   ·show _=Ending.returned (.tuple #[.slice A3 (sacks last n l).length c3,.int .i64 0])
    rw [HT.out,Nat.min_eq_right (by omega)]
    try rfl
   ·have o1:=HO.out.setCell (p:=⟨B,0,none⟩) (fun e=>by have h1:B+3≤B:=(HO.out.lt _ e).1;omega) (.slice A3 (l1.length+l2.length) c3)
    have o2:Own _ (B+3) 78 2 A3 (l1.length+l2.length) c3 (l1.flatMap Rng.cells ++ l2.flatMap Rng.cells):=ownsRow_putObj o1 (.deferred none) (hK3 _) rfl
    rw [← List.flatMap_append,HALL.out] at o2
    have o3:=(o2.rng.2.take n.toNat).keep (S':=fun k=>w.heap.size≤k∧k<((w3.setCell ⟨B,0,none⟩ (.slice A3 (l1.length+l2.length) c3)).putObj D (.deferred none)).heap.size) (w':=(w3.setCell ⟨B,0,none⟩ (.slice A3 (l1.length+l2.length) c3)).putObj D (.deferred none)) (fun k hk=>⟨⟨by omega,hk.2⟩,rfl⟩)
    rw [hsum] at o3
    exact o3
   ·have k1:Below w.heap.size w (w3.setCell ⟨B,0,none⟩ (.slice A3 l.length c3)):=(HS.out.low.trans (hg.below HS.out.low.size (fun k e=>by have:=(HS.out.o1.lt k e).1;omega))).setCell (p:=⟨B,0,none⟩) (by show w.heap.size≤B;omega) _
    exact k1.trans (belowK_b (w:=w) (Nat.le_refl _) _ D _ _ (by omega) (hK3 _) rfl rfl)
  ·have HCG:=Lib.hid (fun (A3:Option Addr) (c3:Nat) (hc:l.length≤c3)=>run_cut_h (P:=Try.prog) elemRng A3 l.length c3 n.toNat (by omega) n (by omega))
   gi_wp2_with (gi_at_builtin;refine wpIn_app _ rfl _ _ _ rfl elemRng (B+3) A1 _ c1 _ rfl HS.out.o1 A2 l2.length c2 (l2.flatMap Rng.cells) rfl (by rw [flatMap_len Rng.cells 2 (fun _=>rfl)]) HS.out.o2.cells (Rng.one l2) (by omega) (by unfold maxLen;omega) (by omega) ?_;intro A3 c3 w3 hO hg;have hba:=HS.out.ba.kept hg.grown (box_row HS.out.ba HS.out.o1);have hc3:=hba.cell;have hf3:=hba.frozen;have HO:=Lib.hid hO;have hcut:=HCG.out A3 c3 (Nat.le_trans (Nat.le_of_eq hsum.symm) hO.cap.1);clear hO)
   have hD3:w3.heap[D]? = some (.deferred (some [])):=(hg.grown.block D (Array.getElem?_eq_some_iff.1 hK).1 (fun e=>by
    rcases row_ne HS.out.o1 (row:=some D) (fun r e'=>by cases e';exact ⟨_,hK,rfl⟩) with h1 | h1
    ·rw [h1] at e;cases e
    ·exact h1 e.symm)).trans hK
   have hK3:=fun v=>(Below.heap_setCell w3 ⟨B,0,none⟩ v D (by show D≠B;omega)).trans hD3
   refine ⟨by simp,.inl ⟨_,_,rfl,run_takeDeferred (hK3 _),?_⟩⟩
   refine ⟨_,results_tmp2 rfl _ _ _,A3,c3,?_,?_,?_⟩
   ·show _=Ending.returned (.tuple #[.slice A3 (sacks last n l).length c3,.int .i64 0])
    rw [HT.out,Nat.min_eq_left (by omega)]
    try rfl
   ·have o1:=HO.out.setCell (p:=⟨B,0,none⟩) (fun e=>by have h1:B+3≤B:=(HO.out.lt _ e).1;omega) (.slice A3 (l1.length+l2.length) c3)
    have o2:Own _ (B+3) 78 2 A3 (l1.length+l2.length) c3 (l1.flatMap Rng.cells ++ l2.flatMap Rng.cells):=ownsRow_putObj o1 (.deferred none) (hK3 _) rfl
    rw [← List.flatMap_append,HALL.out] at o2
    have o3:=(o2.rng.2.take n.toNat).keep (S':=fun k=>w.heap.size≤k∧k<((w3.setCell ⟨B,0,none⟩ (.slice A3 (l1.length+l2.length) c3)).putObj D (.deferred none)).heap.size) (w':=(w3.setCell ⟨B,0,none⟩ (.slice A3 (l1.length+l2.length) c3)).putObj D (.deferred none)) (fun k hk=>⟨⟨by omega,hk.2⟩,rfl⟩)
    rw [hsum] at o3
    exact o3
   ·have k1:Below w.heap.size w (w3.setCell ⟨B,0,none⟩ (.slice A3 l.length c3)):=(HS.out.low.trans (hg.below HS.out.low.size (fun k e=>by have:=(HS.out.o1.lt k e).1;omega))).setCell (p:=⟨B,0,none⟩) (by show w.heap.size≤B;omega) _
    exact k1.trans (belowK_b (w:=w) (Nat.le_refl _) _ D _ _ (by omega) (hK3 _) rfl rfl)
 case stop=>
  rintro D c pre W _ _ h _
  exact h.elim
end Go.Proofs.Ytdldfllllgogoaa
namespace Go.Proofs.Ytdldfllllgogoaa
open Go.RowKit Go.Shelf
section
attribute [local go_sem] Oper.semAt_some
set_option maxRecDepth 100000 in
set_option maxHeartbeats 2000000 in
theorem hole_Sacks_form (done:Int) (l:List Rng) (last n:Int) (A:Option Addr) (c:Nat) (w:World) (hl:SlRep Rng.rep w (· < w.heap.size) l A c) (hn:l.length≤140737488351232) (h:holeMayB done l=false) :
  CallsIn Fence.wide 9 Try.prog 41 #[.int .i64 done,.slice A l.length c,.int .i64 last,.int .i64 n] w (RngsRes (.error 4) w):=by
 have HL:=Lib.hid hl
 clear hl
 refine callsIn_of_wp_marks Try.func41 rfl trivial ?_ rfl
 simp only [Try.ntmps41,List.size_toArray,List.length_cons,List.length_nil,Nat.reduceAdd,Nat.reduceSub,Array.replicate_succ,Array.replicate_zero,List.push_toArray,List.append_toArray,List.nil_append,List.cons_append]
 gi_wp2_with (first
  | (refine ⟨trivial,?_⟩;gi_at_call 73;refine (callsIn_wide.2 (hole_May_no done l A c _ (HL.out.next (balloc (bself w) _)) hn h)).mono ?_;rintro e w1 ⟨rfl,hb1⟩)
  | fail)
 exact ⟨_,results_tmp2 rfl _ _ _,none,0,rfl,sl_nil _ _ _,(by repeat (first | (with_reducible first | exact Below.refl _ _ | assumption | refine bset ?_ ?_ _ | refine balloc ?_ _ | refine Below.drew ?_ | refine bdrewN ?_ _ | refine bnext ?_ (by with_reducible assumption)) | exact Nat.le_refl _ | (simp;done) | omega | (simp;omega)))⟩
set_option maxRecDepth 100000 in
set_option maxHeartbeats 2000000 in
theorem hole_Sacks_range (done:Int) (l:List Rng) (last n:Int) (A:Option Addr) (c:Nat) (w:World) (hl:SlRep Rng.rep w (· < w.heap.size) l A c) (hn:l.length≤140737488351232) (h:holeMayB done l=true) (hr:n<0∨16<n) :
  CallsIn Fence.wide 9 Try.prog 41 #[.int .i64 done,.slice A l.length c,.int .i64 last,.int .i64 n] w (RngsRes (.error 2) w):=by
 have HL:=Lib.hid hl
 clear hl
 refine callsIn_of_wp_marks Try.func41 rfl trivial ?_ rfl
 simp only [Try.ntmps41,List.size_toArray,List.length_cons,List.length_nil,Nat.reduceAdd,Nat.reduceSub,Array.replicate_succ,Array.replicate_zero,List.push_toArray,List.append_toArray,List.nil_append,List.cons_append]
 gi_wp2_with (first
  | (refine ⟨trivial,?_⟩;gi_at_call 73;refine (callsIn_wide.2 (hole_May_yes done l A c _ (HL.out.next (balloc (bself w) _)) hn h)).mono ?_;rintro e w1 ⟨rfl,hb1⟩)
  | fail)
 all_goals first
  | exact ⟨_,results_tmp2 rfl _ _ _,none,0,rfl,sl_nil _ _ _,(by repeat (first | (with_reducible first | exact Below.refl _ _ | assumption | refine bset ?_ ?_ _ | refine balloc ?_ _ | refine Below.drew ?_ | refine bdrewN ?_ _ | refine bnext ?_ (by with_reducible assumption)) | exact Nat.le_refl _ | (simp;done) | omega | (simp;omega)))⟩
  | omega
end
set_option maxHeartbeats 1000000 in
theorem ref_Sacks_form (done:Int) (l:List Rng) (last n:Int) (A:Option Addr) (c:Nat) (w:World) (hl:SlRep Rng.rep w (· < w.heap.size) l A c) (hn:l.length≤140737488351232) (h:holeMayB done l=false) :
  Calls Try.prog 44 #[.int .i64 done,.slice A l.length c,.int .i64 last,.int .i64 n] w (RngsRes (.error 4) w):=by
 have HL:=Lib.hid hl
 clear hl
 go_enter Try.func44,Try.ntmps44
 go_wp2_with (go_at_call 75;refine (ref_HoleMay_no done l A c _ HL.out hn h).mono ?_;rintro e w1 ⟨rfl,hb1⟩)
 go_ret2
 exact ⟨none,0,rfl,sl_nil _ _ _,hb1⟩
set_option maxHeartbeats 1000000 in
theorem ref_Sacks_range (done:Int) (l:List Rng) (last n:Int) (A:Option Addr) (c:Nat) (w:World) (hl:SlRep Rng.rep w (· < w.heap.size) l A c) (hn:l.length≤140737488351232) (h:holeMayB done l=true) (hr:n<0∨16<n) :
  Calls Try.prog 44 #[.int .i64 done,.slice A l.length c,.int .i64 last,.int .i64 n] w (RngsRes (.error 2) w):=by
 have HL:=Lib.hid hl
 clear hl
 by_cases h0:n<0
 ·go_enter Try.func44,Try.ntmps44
  go_wp2_with (go_at_call 75;refine (ref_HoleMay_yes done l A c _ HL.out hn h).mono ?_;rintro e w1 ⟨rfl,hb1⟩)
  go_ret2
  exact ⟨none,0,rfl,sl_nil _ _ _,hb1⟩
 ·have h1:16<n:=by omega
  clear hr
  go_enter Try.func44,Try.ntmps44
  go_wp2_with (go_at_call 75;refine (ref_HoleMay_yes done l A c _ HL.out hn h).mono ?_;rintro e w1 ⟨rfl,hb1⟩)
  go_ret2
  exact ⟨none,0,rfl,sl_nil _ _ _,hb1⟩
/-- what both answer -/
noncomputable def sackRes (done:Int) (l:List Rng) (last n:Int):Except Int (List Rng):=
 if holeMayB done l=false then .error 4 else if n<0∨16<n then .error 2 else .ok (sacks last n l)
theorem hole_Sacks_res (done:Int) (l:List Rng) (last n:Int) (A:Option Addr) (c:Nat) (w:World) (hl:SlRep Rng.rep w (· < w.heap.size) l A c) (hn:l.length≤140737488351232) :
  Calls Try.prog 41 #[.int .i64 done,.slice A l.length c,.int .i64 last,.int .i64 n] w (RngsRes (sackRes done l last n) w):=by
 cases h:holeMayB done l with
 | false=>rw [show sackRes done l last n=.error 4 from if_pos h];exact callsIn_wide.1 (hole_Sacks_form done l last n A c w hl hn h)
 | true=>
  by_cases hr:n<0∨16<n
  ·rw [show sackRes done l last n=.error 2 by unfold sackRes;rw [if_neg (by simp [h]),if_pos hr]];exact callsIn_wide.1 (hole_Sacks_range done l last n A c w hl hn h hr)
  ·rw [show sackRes done l last n=.ok (sacks last n l) by unfold sackRes;rw [if_neg (by simp [h]),if_neg hr]];exact callsIn_wide.1 (hole_Sacks_in done l last n A c w hl h (by omega))
theorem ref_Sacks_res (done:Int) (l:List Rng) (last n:Int) (A:Option Addr) (c:Nat) (w:World) (hl:SlRep Rng.rep w (· < w.heap.size) l A c) (hn:l.length≤140737488351232) :
  Calls Try.prog 44 #[.int .i64 done,.slice A l.length c,.int .i64 last,.int .i64 n] w (RngsRes (sackRes done l last n) w):=by
 cases h:holeMayB done l with
 | false=>rw [show sackRes done l last n=.error 4 from if_pos h];exact ref_Sacks_form done l last n A c w hl hn h
 | true=>
  by_cases hr:n<0∨16<n
  ·rw [show sackRes done l last n=.error 2 by unfold sackRes;rw [if_neg (by simp [h]),if_pos hr]];exact ref_Sacks_range done l last n A c w hl hn h hr
  ·rw [show sackRes done l last n=.ok (sacks last n l) by unfold sackRes;rw [if_neg (by simp [h]),if_neg hr]];exact ref_Sacks_ok done l last n A c w hl h (by omega)
end Go.Proofs.Ytdldfllllgogoaa
namespace Go.Proofs.Ytdldfllllgogoaa.rv
open had
/-- the ranges of places from lo on, k of them looked at -/
def runs (P:Int→Bool) (lo:Int):Nat→List Rng
 | 0=>[]
 | k+1=>if P (lo+k)=true then (match (runs P lo k).getLast? with
   | some x=>if x.hi=lo+k then (runs P lo k).dropLast ++ [⟨x.lo,lo+k+1⟩] else runs P lo k ++ [⟨lo+k,lo+k+1⟩]
   | none=>[⟨lo+k,lo+k+1⟩]) else runs P lo k
theorem runs_ok (P:Int→Bool) (lo:Int):∀ k:Nat,Canon (lo - 1) (runs P lo k)∧(∀ x,x ∈ runs P lo k→x.hi≤lo+k)∧∀ p,cov (runs P lo k) p↔(lo≤p∧p<lo+k)∧P p=true
 | 0=>⟨trivial,fun x hx=>(by cases hx),fun p=>⟨fun h=>absurd h (cov_nil p),fun h=>(by omega)⟩⟩
 | k+1=>by
  obtain ⟨h1,h2,h3⟩:=runs_ok P lo k
  have hk:((k+1:Nat):Int)=(k:Int)+1:=by omega
  rw [runs,hk]
  generalize runs P lo k=o at *
  generalize ha:lo+(k:Int)=a at *
  have hla:lo≤a:=by omega
  have e1:lo+((k:Int)+1)=a+1:=by omega
  rw [e1]
  by_cases hc:P a=true
  ·rw [if_pos hc]
   have key:∀ {o':List Rng},(∀ p,cov o' p↔cov o p∨(a≤p∧p<a+1))→∀ p,cov o' p↔(lo≤p∧p<a+1)∧P p=true:=fun {o'} ho p=>by
    rw [ho,h3]
    constructor
    ·rintro (⟨⟨e1,e2⟩,e3⟩ | ⟨e1,e2⟩)
     ·exact ⟨⟨e1,by omega⟩,e3⟩
     ·obtain rfl:p=a:=by omega
      exact ⟨⟨by omega,e2⟩,hc⟩
    ·rintro ⟨⟨e1,e2⟩,e3⟩
     by_cases e4:p<a
     ·exact .inl ⟨⟨e1,e4⟩,e3⟩
     ·exact .inr ⟨by omega,e2⟩
   rcases List.eq_nil_or_concat o with rfl | ⟨o',x,ho⟩
   ·simp only [List.getLast?_nil]
    refine ⟨⟨by simp only;omega,by simp only;omega,trivial⟩,fun y hy=>?_,key fun p=>?_⟩
    ·simp at hy;subst hy;exact Int.le_refl _
    ·rw [cov_cons];simp only [cov_nil,or_false,false_or];rfl
   ·subst ho
    rw [List.concat_eq_append] at *
    simp only [List.getLast?_append,List.getLast?_singleton,Option.some_or]
    have hxl:=h1.mem x (by simp)
    have hxa:=h2 x (by simp)
    by_cases e:x.hi=a
    ·rw [if_pos e,List.dropLast_concat]
     refine ⟨h1.stretch (by omega),fun y hy=>?_,key fun p=>?_⟩
     ·rcases List.mem_append.1 hy with hy | hy
      ·have:=h2 y (by simp [hy]);omega
      ·simp at hy;subst hy;exact Int.le_refl _
     ·rw [cov_app,cov_app,cov_cons,cov_cons]
      simp only [cov_nil,or_false,or_assoc]
      refine or_congr Iff.rfl ?_
      unfold inR
      simp only
      omega
    ·rw [if_neg e]
     refine ⟨h1.snoc (by simp only;omega) (fun y hy=>?_) (by simp only;omega),fun y hy=>?_,key fun p=>?_⟩
     ·rcases List.mem_append.1 hy with hy' | hy'
      ·have e1:=h1.lastlo y hy'
       simp only
       omega
      ·simp at hy';subst hy';simp only;omega
     ·rcases List.mem_append.1 hy with hy | hy
      ·have:=h2 y hy;omega
      ·simp at hy;subst hy;exact Int.le_refl _
     ·rw [cov_app,cov_cons]
      simp only [cov_nil,or_false]
      rfl
  ·rw [if_neg hc]
   refine ⟨h1,fun y hy=>by have:=h2 y hy;omega,fun p=>?_⟩
   rw [h3]
   constructor
   ·rintro ⟨⟨e1,e2⟩,e3⟩
    exact ⟨⟨e1,by omega⟩,e3⟩
   ·rintro ⟨⟨e1,e2⟩,e3⟩
    by_cases e4:p<a
    ·exact ⟨⟨e1,e4⟩,e3⟩
    ·obtain rfl:p=a:=by omega
     exact absurd e3 hc
/-- who hears -/
structure St where
 done:Int
 more:List Rng
 taken:Int
 end_:Int
 data:List UInt8
def start:St:=⟨0,[],0,-1,[]⟩
def came (s:St) (n:Int):Prop:=(0≤n∧n<s.done)∨cov s.more n
theorem chain_of:∀ (l:List Rng) (done:Int),Canon done l→Chain done l l.length
 | [],_,_=>fun i hi=>by simp at hi
 | r :: l,done,h=>by
  intro i hi
  cases i with
  | zero=>exact ⟨by simpa [endAt] using h.1,by simpa using h.2.1⟩
  | succ i=>
   have h1:=chain_of l r.hi h.2.2 i (by simpa using hi)
   rw [endAt_succ]
   cases i with
   | zero=>simpa [endAt] using h1
   | succ i=>rw [endAt_succ] at h1;simpa using h1
theorem may_of {done:Int} {l:List Rng} (hc:Canon done l) (h0:0≤done) (h1:done≤1048576) (hl:l.length≤16) (hh:∀ r,r ∈ l→r.hi≤1048576):HoleMay done l:=by
 refine ⟨h0,h1,hl,chain_of l done hc,?_⟩
 unfold endAt
 split
 ·exact h1
 ·next hne=>
  have hi:l.length - 1<l.length:=by omega
  rw [List.getD_eq_getElem?_getD,List.getElem?_eq_getElem hi]
  exact hh _ (List.getElem_mem hi)
/-- what holds of it -/
structure Inv (room:Int) (s:St):Prop where
 lo:0≤s.taken∧s.taken≤s.done∧s.done≤s.taken+room
 canon:Canon s.done s.more
 few:s.more.length≤16
 top:s.done≤1048575
 hi:∀ r,r ∈ s.more→r.hi≤s.taken+room∧r.hi≤1048575
 fin:s.end_ = -1∨0≤s.end_∧s.end_<1048576
 len:s.done≤s.data.length∧∀ r,r ∈ s.more→r.hi≤s.data.length
theorem Inv.may {room:Int} {s:St} (h:Inv room s):HoleMay s.done s.more:=may_of h.canon (by have:=h.lo;omega) (by have:=h.top;omega) h.few fun r hr=>by have:=(h.hi r hr).2;omega
open Classical in
/-- the places' bytes -/
noncomputable def bytesOf (s:St) (n:Int):Option UInt8:=if came s n then some (s.data.getD n.toNat 0) else none
theorem bytesOf_some {s:St} {n:Int}:bytesOf s n≠none↔came s n:=by
 unfold bytesOf
 by_cases h:came s n
 ·simp [h]
 ·simp [h]
/-- the first place that did not come -/
theorem low_not {room:Int} {s:St} (h:Inv room s):¬ came s s.done:=by
 rintro (e | ⟨r,hr,hp⟩)
 ·omega
 ·have:=(h.canon.mem r hr).1
  have:=hp.1
  omega
theorem Inv.start {room:Int} (h:1≤room):Inv room start:=⟨by show (0:Int)≤0∧(0:Int)≤0∧(0:Int)≤0+room;omega,trivial,by decide,by decide,fun r hr=>(by cases hr),.inl rfl,by decide,fun r hr=>(by cases hr)⟩
/-! ### What an arrival does -/
def to_ (a:Arrival):Int:=a.from_+a.data.length
def beyond (s:St):Int:=match s.more.getLast? with
 | some r=>r.hi
 | none=>s.done
/-- bytes laid where none came -/
noncomputable def putAll (more:List Rng) (fr:Nat) (b:List UInt8):Nat→List UInt8→List UInt8
 | 0,d=>d
 | k+1,d=>open Classical in if cov more (fr+k:Nat) then putAll more fr b k d else (putAll more fr b k d).set (fr+k) (b.getD k 0)
noncomputable def kept (more:List Rng) (d:List UInt8) (fr:Nat) (b:List UInt8):List UInt8:=putAll more fr b b.length (d ++ List.replicate (fr+b.length - d.length) 0)
def frOf (s:St) (a:Arrival):Int:=max a.from_ s.done
def upOf (room:Int) (s:St) (a:Arrival):Int:=min (to_ a) (s.taken+room)
def part (room:Int) (s:St) (a:Arrival):List UInt8:=(a.data.drop (frOf s a - a.from_).toNat).take (upOf room s a - frOf s a).toNat
noncomputable def arrive (room:Int) (s:St) (a:Arrival):Int × St:=
  if a.from_<0∨1048576≤a.from_∨1048576≤to_ a then (2,s)
  else if 64<a.data.length then (1,s)
  else if (0≤s.end_∧(s.end_<to_ a∨a.fin=true∧to_ a≠s.end_))∨a.fin=true∧to_ a<beyond s then (10,s)
  else if frOf s a<upOf room s a then
    (if 16<(addTo s.done s.more ⟨frOf s a,upOf room s a⟩).2.length then (9,s)
     else (0,{ s with done:=(addTo s.done s.more ⟨frOf s a,upOf room s a⟩).1,more:=(addTo s.done s.more ⟨frOf s a,upOf room s a⟩).2,data:=kept s.more s.data (frOf s a).toNat (part room s a),end_:=if a.fin=true then to_ a else s.end_ }))
  else (0,{ s with end_:=if a.fin=true then to_ a else s.end_ })
def takeOf (s:St) (count:Int):Nat:=(min count (s.done - s.taken)).toNat
/-- one arrival: code, data, whether the end was taken, and who hears behind it; what was last -/
noncomputable def step (room:Int) (s:St) (a:Arrival):Told × St:=
  if a.kind=1 then (⟨(arrive room s a).1,0,0,[],[],false⟩,(arrive room s a).2)
  else if a.kind=2 then
    (if a.count<0∨4096<a.count then (⟨2,0,0,[],[],false⟩,s)
     else (⟨0,0,0,[],(s.data.drop s.taken.toNat).take (takeOf s a.count),decide (s.taken+takeOf s a.count=s.end_)⟩,{ s with taken:=s.taken+takeOf s a.count }))
  else (⟨3,0,0,[],[],false⟩,s)
def lastOf (a:Arrival):Int:=if a.kind=1 then a.from_ else -1
noncomputable def doIt (room:Int) (s:St) (a:Arrival):Told × St:=
 let r:=step room s a
 (⟨r.1.code,if r.2.done=r.2.end_ then r.2.done+1 else r.2.done,r.2.taken+room - r.2.done,sacks (lastOf a) 3 r.2.more,r.1.data,r.1.end_⟩,r.2)
theorem cov_bound {d:Int} {l:List Rng} (hd:0≤d) (hl:Canon d l) {B:Int}:(∀ p,cov (full d l) p→p<B)→0≤B→d≤B∧∀ r,r ∈ l→r.hi≤B:=by
 intro h hB
 constructor
 ·by_cases e:d=0
  ·omega
  ·have:=h (d - 1) (cov_full.2 (.inl ⟨by omega,by omega⟩));omega
 ·intro r hr
  have h1:=hl.mem r hr
  have:=h (r.hi - 1) (cov_full.2 (.inr ⟨r,hr,by omega,by omega⟩))
  omega
/-- what holds goes on to hold: bytes came -/
theorem Inv.add {room:Int} {s:St} (h:Inv room s) {fr up e:Int} {d:List UInt8} (h0:0≤fr) (h1:fr<up) (h2:up≤s.taken+room) (h3:up≤1048575) (hl:(addTo s.done s.more ⟨fr,up⟩).2.length≤16) (he:e = -1∨0≤e∧e<1048576) (hdl:s.data.length≤d.length∧up≤d.length) :
  Inv room { s with done:=(addTo s.done s.more ⟨fr,up⟩).1,more:=(addTo s.done s.more ⟨fr,up⟩).2,data:=d,end_:=e }:=by
 obtain ⟨a1,a2,a3⟩:=addTo_ok (r:=⟨fr,up⟩) (by have:=h.lo;omega) h.canon h0 (by simp only;omega)
 have hlo:=h.lo
 have b1:=cov_bound a1 a2 (B:=s.taken+room) (fun p hp=>by
  rcases (a3 p).1 hp with e | ⟨r,hr,e⟩ | e
  ·omega
  ·have:=(h.hi r hr).1;have:=e.2;omega
  ·have:=e.2;simp only at this;omega) (by omega)
 have b2:=cov_bound a1 a2 (B:=1048575) (fun p hp=>by
  rcases (a3 p).1 hp with e | ⟨r,hr,e⟩ | e
  ·have:=h.top;omega
  ·have:=(h.hi r hr).2;have:=e.2;omega
  ·have:=e.2;simp only at this;omega) (by omega)
 have b3:=cov_bound a1 a2 (B:=d.length) (fun p hp=>by
  rcases (a3 p).1 hp with e | ⟨r,hr,e⟩ | e
  ·have:=h.len.1;omega
  ·have:=h.len.2 r hr;have:=e.2;omega
  ·have:=e.2;simp only at this;omega) (by omega)
 have c1:s.done≤(addTo s.done s.more ⟨fr,up⟩).1:=by
  by_cases hx:(addTo s.done s.more ⟨fr,up⟩).1<s.done
  ·exfalso
   have:=(a3 (addTo s.done s.more ⟨fr,up⟩).1).2 (.inl ⟨a1,hx⟩)
   rcases cov_full.1 this with e | ⟨r,hr,e⟩
   ·omega
   ·have:=(a2.mem r hr).1;have:=e.1;omega
  ·omega
 exact ⟨⟨by simp only;omega,by simp only;omega,by simp only;omega⟩,a2,hl,b2.1,fun r hr=>⟨b1.2 r hr,b2.2 r hr⟩,he,b3⟩
theorem putAll_len (more:List Rng) (fr:Nat) (b:List UInt8) (d:List UInt8):∀ k,(putAll more fr b k d).length=d.length
 | 0=>rfl
 | k+1=>by
  rw [putAll]
  split
  ·exact putAll_len more fr b d k
  ·rw [List.length_set];exact putAll_len more fr b d k
theorem kept_len (more:List Rng) (d:List UInt8) (fr:Nat) (b:List UInt8):(kept more d fr b).length=max d.length (fr+b.length):=by
 unfold kept
 rw [putAll_len,List.length_append,List.length_replicate]
 omega
open Classical in
theorem putAll_at (more:List Rng) (fr:Nat) (b:List UInt8) (d:List UInt8) (n:Nat):∀ k,fr+k≤d.length→(putAll more fr b k d).getD n 0=if (fr≤n∧n<fr+k)∧¬ cov more (n:Int) then b.getD (n - fr) 0 else d.getD n 0
 | 0,_=>by rw [putAll,if_neg (by omega)]
 | k+1,hk=>by
  have ih:=putAll_at more fr b d n k (by omega)
  have hl:=putAll_len more fr b d k
  rw [putAll]
  by_cases hc:cov more ((fr+k:Nat):Int)
  ·rw [if_pos hc,ih]
   by_cases e:n=fr+k
   ·subst e
    rw [if_neg (fun x=>x.2 hc),if_neg (fun x=>x.2 hc)]
   ·have:((fr≤n∧n<fr+k)∧¬ cov more (n:Int))↔((fr≤n∧n<fr+(k+1))∧¬ cov more (n:Int)):=by
     constructor
     ·rintro ⟨x,y⟩;exact ⟨by omega,y⟩
     ·rintro ⟨x,y⟩;exact ⟨by omega,y⟩
    simp only [this]
  ·rw [if_neg hc]
   by_cases e:n=fr+k
   ·subst e
    rw [if_pos ⟨by omega,hc⟩,List.getD_eq_getElem?_getD,List.getElem?_set_self (by omega),show fr+k - fr=k by omega]
    rfl
   ·rw [List.getD_eq_getElem?_getD,List.getElem?_set_ne (by omega),← List.getD_eq_getElem?_getD,ih]
    have:((fr≤n∧n<fr+k)∧¬ cov more (n:Int))↔((fr≤n∧n<fr+(k+1))∧¬ cov more (n:Int)):=by
     constructor
     ·rintro ⟨x,y⟩;exact ⟨by omega,y⟩
     ·rintro ⟨x,y⟩;exact ⟨by omega,y⟩
    simp only [this]
open Classical in
theorem kept_at (more:List Rng) (d:List UInt8) (fr:Nat) (b:List UInt8) (n:Nat):(kept more d fr b).getD n 0=if (fr≤n∧n<fr+b.length)∧¬ cov more (n:Int) then b.getD (n - fr) 0 else d.getD n 0:=by
 unfold kept
 rw [putAll_at more fr b _ n b.length (by rw [List.length_append,List.length_replicate];omega)]
 congr 1
 rw [List.getD_eq_getElem?_getD,List.getD_eq_getElem?_getD]
 by_cases h:n<d.length
 ·rw [List.getElem?_append_left h]
 ·rw [List.getElem?_append_right (by omega),List.getElem?_eq_none (by omega:d.length≤n),List.getElem?_replicate]
  split <;> rfl
open Classical in
/-- the places' bytes when bytes came -/
theorem bytes_add {room:Int} {s:St} (h:Inv room s) {fr up e:Int} {b:List UInt8} (h0:s.done≤fr) (h1:fr<up) (hb:(b.length:Int)=up - fr) (n:Int) :
  bytesOf { s with done:=(addTo s.done s.more ⟨fr,up⟩).1,more:=(addTo s.done s.more ⟨fr,up⟩).2,data:=kept s.more s.data fr.toNat b,end_:=e } n=if came s n then bytesOf s n else if fr≤n∧n<up then some (b.getD (n - fr).toNat 0) else none:=by
 obtain ⟨a1,a2,a3⟩:=addTo_ok (r:=⟨fr,up⟩) (by have:=h.lo;omega) h.canon (by have:=h.lo;simp only;omega) (by simp only;omega)
 have hlo:=h.lo
 have hcame:came { s with done:=(addTo s.done s.more ⟨fr,up⟩).1,more:=(addTo s.done s.more ⟨fr,up⟩).2,data:=kept s.more s.data fr.toNat b,end_:=e } n↔came s n∨(fr≤n∧n<up):=by
  have h3:=a3 n
  rw [cov_full] at h3
  unfold came
  simp only
  rw [h3,or_assoc]
  rfl
 unfold bytesOf
 by_cases hc:came s n
 ·rw [if_pos (hcame.2 (.inl hc)),if_pos hc,if_pos hc]
  simp only
  congr 1
  rw [kept_at,if_neg]
  rintro ⟨⟨e1,e2⟩,e3⟩
  rcases hc with ⟨e4,e5⟩ | e4
  ·omega
  ·have hn:((n.toNat:Nat):Int)=n:=by
    obtain ⟨r,hr,hp⟩:=e4
    have:=(h.canon.mem r hr).1
    have:=hp.1
    omega
   rw [hn] at e3
   exact e3 e4
 ·rw [if_neg hc]
  by_cases hf:fr≤n∧n<up
  ·have hn:((n.toNat:Nat):Int)=n:=by omega
   rw [if_pos (hcame.2 (.inr hf)),if_pos hf]
   simp only
   rw [kept_at,if_pos ⟨⟨by omega,by omega⟩,by rw [hn];exact fun x=>hc (.inr x)⟩,show n.toNat - fr.toNat=(n - fr).toNat by omega]
  ·rw [if_neg (fun x=>(hcame.1 x).elim hc hf),if_neg hf]
end Go.Proofs.Ytdldfllllgogoaa.rv
namespace Go.Proofs.Ytdldfllllgogoaa.sd
open had
/-- who sends -/
structure St where
 data:List UInt8
 closed:Bool
 done:Int
 more:List Rng
 next:Int
 again:Int
 edge:Int
def start (window:Int):St:=⟨[],false,0,[],0,0,window⟩
def fin1 (b:Bool):Int:=if b=true then 1 else 0
def endOf (s:St):Int:=s.data.length+fin1 s.closed
def total (l:List Rng):Int:=(l.map fun r=>r.hi - r.lo).sum
def leftOf (s:St):Int:=endOf s - s.done - total s.more
def heardP (s:St) (n:Int):Prop:=(0≤n∧n<s.done)∨cov s.more n
/-- the first place from f on that no range covers -/
def firstFrom (l:List Rng) (f:Int):Int:=l.foldl (fun f r=>if r.lo≤f∧f<r.hi then r.hi else f) f
def first (s:St) (f t:Int):Int:=min (firstFrom s.more (max f s.done)) t
/-- the first range behind a place begins here -/
def ahead (l:List Rng) (at_ t:Int):Int:=l.foldr (fun r t=>if at_<r.lo then r.lo else t) t
def piece (s:St) (f t:Int):Sent:=
 let n:=min (min t s.data.length) (f+64)
 ⟨0,f,(s.data.drop f.toNat).take (n - f).toNat,decide (n=s.data.length∧n<t),false,false,0⟩
def after (p:Sent):Int:=p.from_+p.data.length+fin1 p.fin
def poll (s:St):Sent × St:=
 let at_:=first s s.again s.next
 if at_<s.next then
  let p:=piece s at_ (ahead s.more at_ s.next)
  ({ p with again:=true },{ s with again:=after p })
 else
  let t:=min (endOf s) s.edge
  if t≤s.next then (⟨0,0,[],false,false,true,0⟩,s)
  else
   let p:=piece s s.next t
   (p,{ s with next:=after p,again:=after p })
def timeout (s:St):St:={ s with again:=s.done,edge:=if first s s.done s.next=s.next∧s.next<endOf s∧s.edge≤s.next then s.next+1 else s.edge }
def odd (next:Int) (r:Rng):Prop:=r.lo<0∨r.hi≤r.lo∨next<r.hi
instance (next:Int) (r:Rng):Decidable (odd next r):=by unfold odd;infer_instance
def adds (done:Int) (more:List Rng):List Rng→Except Int (Int × List Rng)
 | []=>.ok (done,more)
 | r :: l=>if 16<(addTo done more r).2.length then .error 9 else adds (addTo done more r).1 (addTo done more r).2 l
def heard (s:St) (d:Deed):Int × St:=
 if d.ack<0∨s.next<d.ack∨d.window<0∨65535<d.window then (2,s)
 else if 3<d.sacks.length then (1,s)
 else if ∃ r,r ∈ d.sacks∧odd s.next r then (2,s)
 else match adds s.done s.more (⟨0,d.ack⟩ :: d.sacks) with
  | .error e=>(e,s)
  | .ok (dn,mo)=>(0,{ s with done:=dn,more:=mo,edge:=max s.edge (d.ack+d.window) })
def submit (s:St) (b:List UInt8):Int × St:=
 if s.closed=true then (10,s) else if 4096<b.length then (1,s) else if 1048576≤s.data.length+b.length then (9,s) else (0,{ s with data:=s.data ++ b })
def coded (c:Int):Sent:=⟨c,0,[],false,false,false,0⟩
def step (s:St) (d:Deed):Sent × St:=
 if d.kind=1 then (coded (submit s d.data).1,(submit s d.data).2)
 else if d.kind=5 then (if s.closed=true then (coded 10,s) else (coded 0,{ s with closed:=true }))
 else if d.kind=2 then (coded (heard s d).1,(heard s d).2)
 else if d.kind=4 then (coded 0,timeout s)
 else if d.kind=3 then poll s
 else (coded 3,s)
def doIt (s:St) (d:Deed):Sent × St:=({ (step s d).1 with left:=leftOf (step s d).2 },(step s d).2)
/-- so many deeds done -/
def afterAll (window:Int) (l:List Deed):Nat→List Sent × St
 | 0=>([],start window)
 | k+1=>match l[k]? with
  | some a=>((afterAll window l k).1 ++ [(doIt (afterAll window l k).2 a).1],(doIt (afterAll window l k).2 a).2)
  | none=>afterAll window l k
/-- what holds of it -/
structure Inv (s:St):Prop where
 lo:0≤s.done∧s.done≤s.next∧s.next≤endOf s
 canon:Canon s.done s.more
 few:s.more.length≤16
 hi:∀ r,r ∈ s.more→r.hi≤s.next
 size:s.data.length≤1048575
 again:0≤s.again∧s.again≤s.next
 edge:0≤s.edge∧s.edge≤1200000
theorem fin1_le (b:Bool):0≤fin1 b∧fin1 b≤1:=by cases b <;> decide
theorem Inv.end_ {s:St} (h:Inv s):endOf s≤1048576:=by have:=h.size;have:=fin1_le s.closed;unfold endOf;omega
theorem Inv.start {w:Int} (h0:0≤w) (h1:w≤65535):Inv (start w):=⟨⟨Int.le_refl _,Int.le_refl _,Int.le_refl _⟩,trivial,Nat.zero_le _,fun r hr=>(by cases hr),Nat.zero_le _,⟨Int.le_refl _,Int.le_refl _⟩,by show 0≤w∧w≤1200000;omega⟩
/-! ### The first place not heard of, and the first that is behind it -/
theorem firstFrom_ok:∀ {l:List Rng} {a f:Int},Canon a l→f≤firstFrom l f∧¬ cov l (firstFrom l f)∧∀ x,f≤x→x<firstFrom l f→cov l x
 | [],a,f,_=>⟨Int.le_refl _,cov_nil _,fun x h1 h2=>by have h3:x<f:=h2;omega⟩
 | r :: l,a,f,h=>by
  have hr:=h.1
  have hr2:=h.2.1
  show f≤firstFrom l (if r.lo≤f∧f<r.hi then r.hi else f)∧¬ cov (r :: l) (firstFrom l (if r.lo≤f∧f<r.hi then r.hi else f))∧∀ x,f≤x→x<firstFrom l (if r.lo≤f∧f<r.hi then r.hi else f)→cov (r :: l) x
  by_cases c:r.lo≤f∧f<r.hi
  ·rw [if_pos c]
   obtain ⟨h1,h2,h3⟩:=firstFrom_ok (f:=r.hi) h.2.2
   refine ⟨by omega,?_,fun x hx1 hx2=>?_⟩
   ·rw [cov_cons]
    rintro (e | e)
    ·have:=e.2;omega
    ·exact h2 e
   ·rw [cov_cons]
    by_cases hx:x<r.hi
    ·exact .inl ⟨by omega,hx⟩
    ·exact .inr (h3 x (by omega) hx2)
  ·rw [if_neg c]
   obtain ⟨h1,h2,h3⟩:=firstFrom_ok (f:=f) h.2.2
   refine ⟨h1,?_,fun x hx1 hx2=>by rw [cov_cons];exact .inr (h3 x hx1 hx2)⟩
   rw [cov_cons]
   rintro (e | e)
   ·have e1:=e.1
    have e2:=e.2
    by_cases hf:f<r.lo
    ·obtain ⟨q,hq,hin⟩:=h3 f (Int.le_refl _) (by omega)
     have:=(h.2.2.mem q hq).1
     have:=hin.1
     omega
    ·omega
   ·exact h2 e
theorem firstFrom_le:∀ {l:List Rng} {f t:Int},f≤t→(∀ r,r ∈ l→r.hi≤t)→firstFrom l f≤t
 | [],f,t,hf,_=>hf
 | r :: l,f,t,hf,hh=>by
  show firstFrom l (if r.lo≤f∧f<r.hi then r.hi else f)≤t
  refine firstFrom_le ?_ (fun q hq=>hh q (by simp [hq]))
  split
  ·exact hh r (by simp)
  ·exact hf
theorem ahead_ok:∀ {l:List Rng} {a p t:Int},Canon a l→¬ cov l p→p<t→(∀ r,r ∈ l→r.hi≤t)→p<ahead l p t∧ahead l p t≤t∧(∀ x,p≤x→x<ahead l p t→¬ cov l x)∧(ahead l p t=t∨cov l (ahead l p t))
 | [],a,p,t,_,_,hp,_=>⟨hp,Int.le_refl _,fun x _ _=>cov_nil x,.inl rfl⟩
 | r :: l,a,p,t,h,hc,hp,hh=>by
  have hr2:=h.2.1
  show p<(if p<r.lo then r.lo else ahead l p t)∧(if p<r.lo then r.lo else ahead l p t)≤t∧(∀ x,p≤x→x<(if p<r.lo then r.lo else ahead l p t)→¬ cov (r :: l) x)∧((if p<r.lo then r.lo else ahead l p t)=t∨cov (r :: l) (if p<r.lo then r.lo else ahead l p t))
  by_cases c:p<r.lo
  ·rw [if_pos c]
   refine ⟨c,by have:=hh r (by simp);omega,fun x h1 h2=>?_,.inr (cov_cons.2 (.inl ⟨Int.le_refl _,hr2⟩))⟩
   rw [cov_cons]
   rintro (e | ⟨q,hq,e⟩)
   ·have:=e.1;omega
   ·have:=(h.2.2.mem q hq).1
    have:=e.1
    omega
  ·rw [if_neg c]
   rw [cov_cons] at hc
   have hge:r.hi≤p:=by
    by_cases hx:p<r.hi
    ·exact absurd (.inl ⟨by omega,hx⟩) hc
    ·omega
   obtain ⟨h1,h2,h3,h4⟩:=ahead_ok (p:=p) (t:=t) h.2.2 (fun e=>hc (.inr e)) hp (fun q hq=>hh q (by simp [hq]))
   refine ⟨h1,h2,fun x hx1 hx2=>?_,h4.imp id fun e=>cov_cons.2 (.inr e)⟩
   rw [cov_cons]
   rintro (e | e)
   ·have:=e.2;omega
   ·exact h3 x hx1 hx2 e
/-- the place from which it is sent again, or none -/
theorem first_ok {s:St} (h:Inv s) {f:Int} (hf:f≤s.next):first s f s.next≤s.next∧max f s.done≤first s f s.next∧(∀ x,0≤x→f≤x→x<first s f s.next→heardP s x)∧(first s f s.next<s.next→¬ heardP s (first s f s.next)):=by
 obtain ⟨h1,h2,h3⟩:=firstFrom_ok (f:=max f s.done) h.canon
 have hle:=firstFrom_le (f:=max f s.done) (t:=s.next) (by have:=h.lo;omega) h.hi
 unfold first
 refine ⟨by omega,by omega,fun x h0 hx1 hx2=>?_,fun hlt=>?_⟩
 ·by_cases hd:x<s.done
  ·exact .inl ⟨h0,hd⟩
  ·exact .inr (h3 x (by omega) (by omega))
 ·rintro (e | e)
  ·omega
  ·rw [show min (firstFrom s.more (max f s.done)) s.next=firstFrom s.more (max f s.done) by omega] at e
   exact h2 e
/-- nothing is missing, or something is -/
theorem first_all {s:St} (h:Inv s):first s s.done s.next=s.next↔∀ x,0≤x→x<s.next→heardP s x:=by
 obtain ⟨h1,h2,h3,h4⟩:=first_ok h (f:=s.done) h.lo.2.1
 constructor
 ·intro e x hx0 hx
  by_cases hd:x<s.done
  ·exact .inl ⟨hx0,hd⟩
  ·exact h3 x hx0 (by omega) (by omega)
 ·intro e
  by_cases hlt:first s s.done s.next<s.next
  ·exact absurd (e _ (by have:=h.lo;omega) hlt) (h4 hlt)
  ·omega
end Go.Proofs.Ytdldfllllgogoaa.sd
namespace Go.Proofs.Ytdldfllllgogoaa.sd
open had
/-- ranges added, one by one -/
structure Added (done:Int) (more:List Rng) (N:Int) (d:Int) (m:List Rng) (rs:List Rng):Prop where
 lo:0≤d∧done≤d∧d≤N
 canon:Canon d m
 hi:∀ r,r ∈ m→r.hi≤N
 came:∀ p,((0≤p∧p<d)∨cov m p)↔((0≤p∧p<done)∨cov more p)∨cov rs p
theorem add_one {done N:Int} {more:List Rng} {r:Rng} (h0:0≤done) (h1:done≤N) (hc:Canon done more) (hh:∀ r,r ∈ more→r.hi≤N) (hr:0≤r.lo∧r.lo≤r.hi∧r.hi≤N):Added done more N (addTo done more r).1 (addTo done more r).2 [r]:=by
 obtain ⟨a1,a2,a3⟩:=addTo_ok (r:=r) h0 hc hr.1 hr.2.1
 have b1:=rv.cov_bound a1 a2 (B:=N) (fun p hp=>by
  rcases (a3 p).1 hp with e | ⟨q,hq,e⟩ | e
  ·omega
  ·have:=hh q hq;have:=e.2;omega
  ·have:=e.2;omega) (by omega)
 have c1:done≤(addTo done more r).1:=by
  by_cases hx:(addTo done more r).1<done
  ·exfalso
   have:=(a3 (addTo done more r).1).2 (.inl ⟨a1,hx⟩)
   rcases cov_full.1 this with e | ⟨q,hq,e⟩
   ·omega
   ·have:=(a2.mem q hq).1;have:=e.1;omega
  ·omega
 refine ⟨⟨a1,c1,b1.1⟩,a2,b1.2,fun p=>?_⟩
 have h3:=a3 p
 rw [cov_full] at h3
 rw [h3,or_assoc,cov_cons]
 simp only [cov_nil,or_false]
theorem Added.next {done N d d2:Int} {more m m2 rs:List Rng} {r:Rng} (h:Added done more N d m [r]) (h2:Added d m N d2 m2 rs):Added done more N d2 m2 (r :: rs):=
 ⟨⟨h2.lo.1,by have:=h.lo;have:=h2.lo;omega,h2.lo.2.2⟩,h2.canon,h2.hi,fun p=>by
  rw [h2.came p,h.came p,cov_cons,cov_cons]
  simp only [cov_nil,or_false,or_assoc]⟩
theorem Added.none {done N:Int} {more:List Rng} (h0:0≤done) (h1:done≤N) (hc:Canon done more) (hh:∀ r,r ∈ more→r.hi≤N):Added done more N done more []:=⟨⟨h0,Int.le_refl _,h1⟩,hc,hh,fun p=>by simp [cov_nil]⟩
theorem adds_ok:∀ {rs:List Rng} {done N:Int} {more:List Rng},0≤done→done≤N→Canon done more→(∀ r,r ∈ more→r.hi≤N)→more.length≤16→(∀ r,r ∈ rs→0≤r.lo∧r.lo≤r.hi∧r.hi≤N) →
  ∀ {d m},adds done more rs=.ok (d,m)→Added done more N d m rs∧m.length≤16
 | [],done,N,more,h0,h1,hc,hh,hl,_,d,m,e=>by
  simp only [adds,Except.ok.injEq,Prod.mk.injEq] at e
  obtain ⟨rfl,rfl⟩:=e
  exact ⟨Added.none h0 h1 hc hh,hl⟩
 | r :: rs,done,N,more,h0,h1,hc,hh,hl,hr,d,m,e=>by
  rw [adds] at e
  split at e
  ·cases e
  ·next hle=>
   have ha:=add_one h0 h1 hc hh (hr r (by simp))
   obtain ⟨h3,h4⟩:=adds_ok ha.lo.1 ha.lo.2.2 ha.canon ha.hi (by omega) (fun q hq=>hr q (by simp [hq])) e
   exact ⟨ha.next h3,h4⟩
theorem Inv.submit {s:St} (h:Inv s) (b:List UInt8):Inv (submit s b).2:=by
 unfold sd.submit
 split
 ·exact h
 ·split
  ·exact h
  ·split
   ·exact h
   ·next hc _ hl=>
    refine ⟨?_,h.canon,h.few,h.hi,by simp only [List.length_append];omega,h.again,h.edge⟩
    have:=h.lo
    unfold endOf at *
    simp only [List.length_append]
    omega
theorem Inv.heard {s:St} (h:Inv s) (d:Deed):Inv (heard s d).2:=by
 unfold sd.heard
 split
 ·exact h
 ·next hr=>
  split
  ·exact h
  ·split
   ·exact h
   ·next hs=>
    have hall:∀ r,r ∈ (⟨0,d.ack⟩:Rng) :: d.sacks→0≤r.lo∧r.lo≤r.hi∧r.hi≤s.next:=fun r hm=>by
     rcases List.mem_cons.1 hm with rfl | hm
     ·simp only;omega
     ·have:¬ odd s.next r:=fun e=>hs ⟨r,hm,e⟩
      unfold odd at this
      omega
    cases e:adds s.done s.more (⟨0,d.ack⟩ :: d.sacks) with
    | error c=>exact h
    | ok x=>
     obtain ⟨dn,mo⟩:=x
     obtain ⟨h3,h4⟩:=adds_ok h.lo.1 h.lo.2.1 h.canon h.hi h.few hall e
     refine ⟨⟨h3.lo.1,h3.lo.2.2,h.lo.2.2⟩,h3.canon,h4,h3.hi,h.size,h.again,?_⟩
     have:=h.edge
     have:=h.lo
     have:=h.end_
     simp only
     omega
theorem piece_len (s:St) (f t:Int) (hf:0≤f) (hft:f<t) (hl:f≤s.data.length):((piece s f t).data.length:Int)=min (min t s.data.length) (f+64) - f:=by
 unfold piece
 simp only
 rw [List.length_take,List.length_drop]
 omega
theorem piece_fin (s:St) (f t:Int):(piece s f t).fin=decide (min (min t s.data.length) (f+64)=s.data.length∧min (min t s.data.length) (f+64)<t):=rfl
theorem after_piece {s:St} {f t:Int} (hf:0≤f) (hft:f<t) (hl:f≤s.data.length) (ht:t≤s.data.length+1):f<after (piece s f t)∧after (piece s f t)≤t∧after (piece s f t)=min (min t s.data.length) (f+64)+fin1 (piece s f t).fin:=by
 have h1:=piece_len s f t hf hft hl
 have h2:(piece s f t).from_=f:=rfl
 unfold after
 rw [h1,h2,piece_fin]
 by_cases c:min (min t s.data.length) (f+64)=s.data.length∧min (min t s.data.length) (f+64)<t
 ·rw [decide_eq_true c]
  simp only [fin1,if_true]
  omega
 ·rw [decide_eq_false c]
  simp only [fin1]
  refine ⟨?_,?_,?_⟩ <;> simp <;> omega
theorem Inv.poll {s:St} (h:Inv s):Inv (poll s).2:=by
 have hlo:=h.lo
 have hen:endOf s≤s.data.length+1:=by unfold endOf;have:=fin1_le s.closed;omega
 unfold sd.poll
 simp only
 split
 ·next hlt=>
  obtain ⟨h1,h2,h3,h4⟩:=first_ok h h.again.2
  have hnc:¬ cov s.more (first s s.again s.next):=fun e=>h4 hlt (.inr e)
  obtain ⟨a1,a2,_,_⟩:=ahead_ok h.canon hnc hlt h.hi
  obtain ⟨b1,b2,_⟩:=after_piece (s:=s) (f:=first s s.again s.next) (t:=ahead s.more (first s s.again s.next) s.next) (by omega) a1 (by omega) (by omega)
  exact ⟨h.lo,h.canon,h.few,h.hi,h.size,⟨by simp only;omega,by simp only;omega⟩,h.edge⟩
 ·split
  ·exact h
  ·next hlt hle=>
   obtain ⟨b1,b2,_⟩:=after_piece (s:=s) (f:=s.next) (t:=min (endOf s) s.edge) (by omega) (by omega) (by omega) (by omega)
   exact ⟨⟨hlo.1,by simp only;omega,by show after _≤endOf s;omega⟩,h.canon,h.few,fun r hr=>by have:=h.hi r hr;simp only;omega,h.size,⟨by simp only;omega,Int.le_refl _⟩,h.edge⟩
theorem Inv.timeout {s:St} (h:Inv s):Inv (timeout s):=by
 refine ⟨h.lo,h.canon,h.few,h.hi,h.size,⟨h.lo.1,h.lo.2.1⟩,?_⟩
 unfold sd.timeout
 simp only
 split
 ·have:=h.lo;have:=h.end_;omega
 ·exact h.edge
theorem Inv.step {s:St} (h:Inv s) (d:Deed):Inv (step s d).2:=by
 unfold sd.step
 split
 ·exact h.submit _
 ·split
  ·split
   ·exact h
   ·refine ⟨?_,h.canon,h.few,h.hi,h.size,h.again,h.edge⟩
    have:=h.lo
    unfold endOf at *
    have:=fin1_le s.closed
    simp only [fin1,if_true] at *
    omega
  ·split
   ·exact h.heard d
   ·split
    ·exact h.timeout
    ·split
     ·exact h.poll
     ·exact h
theorem Inv.afterAll {w:Int} (h0:0≤w) (h1:w≤65535) (l:List Deed):∀ k,Inv (afterAll w l k).2
 | 0=>Inv.start h0 h1
 | k+1=>by
  have ih:=Inv.afterAll h0 h1 l k
  rw [sd.afterAll]
  split
  ·exact ih.step _
  ·exact ih
/-! ### Places counted -/
/-- so many of the places from lo on, k of them looked at -/
def cnt (P:Int→Bool) (lo:Int):Nat→Int
 | 0=>0
 | k+1=>cnt P lo k+if P (lo+k)=true then 1 else 0
theorem cnt_add (P:Int→Bool) (lo:Int) (k:Nat):∀ m:Nat,cnt P lo (k+m)=cnt P lo k+cnt P (lo+k) m
 | 0=>by simp [cnt]
 | m+1=>by
  rw [← Nat.add_assoc,cnt,cnt_add P lo k m,cnt,show lo+((k+m:Nat):Int)=lo+(k:Int)+(m:Int) by omega]
  omega
theorem cnt_none {P:Int→Bool} {lo:Int}:∀ {k:Nat},(∀ x,lo≤x→x<lo+k→P x=false)→cnt P lo k=0
 | 0,_=>rfl
 | k+1,h=>by
  rw [cnt,cnt_none (fun x h1 h2=>h x h1 (by omega)),h (lo+k) (by omega) (by omega)]
  rfl
theorem cnt_all {P:Int→Bool} {lo:Int}:∀ {k:Nat},(∀ x,lo≤x→x<lo+k→P x=true)→cnt P lo k=k
 | 0,_=>rfl
 | k+1,h=>by
  rw [cnt,cnt_all (fun x h1 h2=>h x h1 (by omega)),h (lo+k) (by omega) (by omega)]
  simp
theorem cnt_canon {P:Int→Bool}:∀ {l:List Rng} {a:Int} {k:Nat},Canon a l→(∀ r,r ∈ l→r.hi≤a+k)→(∀ x,a≤x→x<a+k→(P x=true↔cov l x))→cnt P a k=total l
 | [],a,k,_,_,h=>by
  rw [cnt_none (fun x h1 h2=>by
   cases hp:P x
   ·rfl
   ·exact absurd ((h x h1 h2).1 hp) (cov_nil x))]
  rfl
 | r :: l,a,k,hc,hh,h=>by
  have h1:=hc.1
  have h2:=hc.2.1
  have h3:=hh r (by simp)
  obtain ⟨k1,hk1⟩:∃ k1:Nat,r.lo=a+k1:=⟨(r.lo - a).toNat,by omega⟩
  obtain ⟨k2,hk2⟩:∃ k2:Nat,r.hi=a+k1+k2:=⟨(r.hi - r.lo).toNat,by omega⟩
  obtain ⟨k3,hk3⟩:∃ k3:Nat,k=k1+k2+k3:=⟨k - k1 - k2,by omega⟩
  subst hk3
  rw [cnt_add,cnt_add]
  have e1:cnt P a k1=0:=cnt_none (fun x x1 x2=>by
   cases hp:P x
   ·rfl
   ·rcases cov_cons.1 ((h x x1 (by omega)).1 hp) with e | ⟨q,hq,e⟩
    ·have:=e.1;omega
    ·have:=(hc.2.2.mem q hq).1;have:=e.1;omega)
  have e2:cnt P (a+k1) k2=k2:=cnt_all (fun x x1 x2=>(h x (by omega) (by omega)).2 (cov_cons.2 (.inl ⟨by omega,by omega⟩)))
  have e3:cnt P (a+((k1+k2:Nat):Int)) k3=total l:=by
   rw [show a+((k1+k2:Nat):Int)=r.hi by omega]
   refine cnt_canon hc.2.2 (fun q hq=>by have:=hh q (by simp [hq]);omega) (fun x x1 x2=>?_)
   rw [h x (by omega) (by omega),cov_cons]
   constructor
   ·rintro (e | e)
    ·have:=e.2;omega
    ·exact e
   ·exact .inr
  rw [e1,e2,e3]
  unfold total
  rw [List.map_cons,List.sum_cons]
  omega
/-- the places heard of, counted -/
theorem cnt_heard {s:St} (h:Inv s) {P:Int→Bool} (hP:∀ x,0≤x→x<s.next→(P x=true↔heardP s x)) {N:Nat} (hN:s.next=N):cnt P 0 N=s.done+total s.more:=by
 have hlo:=h.lo
 obtain ⟨d,hd⟩:∃ d:Nat,s.done=d:=⟨s.done.toNat,by omega⟩
 obtain ⟨m,rfl⟩:∃ m:Nat,N=d+m:=⟨N - d,by omega⟩
 rw [cnt_add,cnt_all (fun x h1 h2=>(hP x h1 (by omega)).2 (.inl ⟨h1,by omega⟩))]
 rw [show (0:Int)+(d:Int)=s.done by omega,cnt_canon h.canon (fun r hr=>by have:=h.hi r hr;omega) (fun x h1 h2=>by
  rw [hP x (by omega) (by omega)]
  unfold heardP
  constructor
  ·rintro (e | e)
   ·omega
   ·exact e
  ·exact .inr)]
 omega
/-! ### Ranges counted -/
/-- so many ranges begin, k places from lo on looked at -/
def isl (P:Int→Bool) (lo:Int):Nat→Nat
 | 0=>0
 | k+1=>isl P lo k+if (P (lo+k) && !P (lo+k - 1))=true then 1 else 0
theorem isl_runs {P:Int→Bool} {lo:Int} (h0:P lo=false):∀ k:Nat,(rv.runs P lo k).length=isl P lo k
 | 0=>rfl
 | k+1=>by
  have ih:=isl_runs h0 k
  obtain ⟨c1,c2,c3⟩:=rv.runs_ok P lo k
  rw [isl,rv.runs]
  cases hp:P (lo+k) with
  | false=>simp [ih]
  | true=>
   have hk:0<k:=by
    rcases Nat.eq_zero_or_pos k with e | e
    ·subst e
     simp at hp
     rw [hp] at h0
     cases h0
    ·exact e
   rw [if_pos rfl]
   rcases List.eq_nil_or_concat (rv.runs P lo k) with e | ⟨o,x,e⟩
   ·rw [e] at ih c3 ⊢
    have hq:P (lo+k - 1)=false:=by
     cases hq:P (lo+k - 1)
     ·rfl
     ·exact absurd ((c3 (lo+k - 1)).2 ⟨⟨by omega,by omega⟩,hq⟩) (cov_nil _)
    rw [hq]
    simp at ih ⊢
    omega
   ·rw [List.concat_eq_append] at e
    rw [e] at ih c1 c2 c3 ⊢
    simp only [List.getLast?_append,List.getLast?_singleton,Option.some_or]
    have hx:=c1.mem x (by simp)
    by_cases hh:x.hi=lo+k
    ·have hq:P (lo+k - 1)=true:=((c3 (lo+k - 1)).1 ⟨x,by simp,by unfold inR;omega⟩).2
     rw [if_pos hh,hq,List.dropLast_concat]
     simp at ih ⊢
     exact ih
    ·have hq:P (lo+k - 1)=false:=by
      cases hq:P (lo+k - 1)
      ·rfl
      ·exfalso
       obtain ⟨r,hr,hin⟩:=(c3 (lo+k - 1)).2 ⟨⟨by omega,by omega⟩,hq⟩
       have h2:=c2 r hr
       have h4:=hin.2
       rcases List.mem_append.1 hr with hr | hr
       ·have:=c1.lastlo r hr
        have:=c2 x (by simp)
        omega
       ·rw [List.mem_singleton] at hr
        subst hr
        omega
     rw [if_neg hh,hq]
     simp at ih ⊢
     exact ih
end Go.Proofs.Ytdldfllllgogoaa.sd
namespace Go.Proofs.Ytdldfllllgogoaa.rv
open had
theorem part_len {room:Int} {s:St} {a:Arrival} (h:frOf s a<upOf room s a):((part room s a).length:Int)=upOf room s a - frOf s a:=by
 have h1:a.from_≤frOf s a:=by unfold frOf;omega
 have h2:upOf room s a≤to_ a:=by unfold upOf;omega
 unfold to_ at h2
 unfold part
 rw [List.length_take,List.length_drop]
 omega
theorem Inv.arrive {room : Int} {s : St} (h : Inv room s) (a : Arrival) : Inv room (arrive room s a).2 := by
  have hlo := h.lo
  unfold rv.arrive
  split
  · exact h
  · next h1 =>
    split
    · exact h
    · split
      · exact h
      · have he : (if a.fin = true then to_ a else s.end_) = -1 ∨ 0 ≤ (if a.fin = true then to_ a else s.end_) ∧ (if a.fin = true then to_ a else s.end_) < 1048576 := by
          split
          · right; unfold to_ at *; omega
          · exact h.fin
        split
        · next hlt =>
          split
          · exact h
          · next hl =>
            have hp := part_len hlt
            have hfr : 0 ≤ frOf s a := by unfold frOf; omega
            refine h.add hfr hlt (by unfold upOf; omega) (by have : upOf room s a ≤ to_ a := by unfold upOf; omega
                                                             omega) (by omega) he ?_
            rw [kept_len]
            omega
        · exact ⟨h.lo, h.canon, h.few, h.top, h.hi, he, h.len⟩
theorem takeOf_le {room:Int} {s:St} (h:Inv room s) {c:Int} (hc:0≤c):((takeOf s c:Nat):Int)=min c (s.done - s.taken):=by
 have:=h.lo
 unfold takeOf
 omega
theorem Inv.step {room:Int} {s:St} (h:Inv room s) (a:Arrival):Inv room (step room s a).2:=by
 unfold rv.step
 split
 ·exact h.arrive a
 ·split
  ·split
   ·exact h
   ·next hc=>
    have hk:=takeOf_le h (c:=a.count) (by omega)
    have hlo:=h.lo
    exact ⟨by simp only;omega,h.canon,h.few,h.top,fun r hr=>⟨by have:=(h.hi r hr).1;simp only;omega,(h.hi r hr).2⟩,h.fin,h.len⟩
  ·exact h
/-- what hole.Add says of it -/
theorem ans_of {room:Int} {s:St} (h:Inv room s) {fr up:Int} (h0:0≤fr) (h1:fr<up) (h3:up≤1048575) :
  ans s.done s.more ⟨fr,up⟩=if 16<(addTo s.done s.more ⟨fr,up⟩).2.length then (0,[],9) else ((addTo s.done s.more ⟨fr,up⟩).1,(addTo s.done s.more ⟨fr,up⟩).2,0):=by
 unfold ans
 rw [if_neg (by simp [holeMayB_true h.may]),if_neg (by simp only;omega)]
/-- what hole.Sacks says of it -/
theorem sack_of {room:Int} {s:St} (h:Inv room s) (last:Int):sackRes s.done s.more last 3=.ok (sacks last 3 s.more):=by
 unfold sackRes
 rw [if_neg (by simp [holeMayB_true h.may]),if_neg (by omega)]
/-- the last place of all that came -/
theorem beyond_iff {room:Int} {s:St} (h:Inv room s) (q:Int) (h0:0≤q):q<beyond s↔q<s.done∨∃ n,came s n∧q≤n:=by
 have hlo:=h.lo
 unfold beyond
 rcases List.eq_nil_or_concat s.more with e | ⟨o,x,e⟩
 ·rw [e]
  simp only [List.getLast?_nil]
  constructor
  ·exact .inl
  ·rintro (h1 | ⟨n,hn,h1⟩)
   ·exact h1
   ·rcases hn with h2 | ⟨r,hr,_⟩
    ·omega
    ·rw [e] at hr;cases hr
 ·rw [List.concat_eq_append] at e
  have hc:=h.canon
  rw [e] at hc ⊢
  simp only [List.getLast?_append,List.getLast?_singleton,Option.some_or]
  have hx:=hc.mem x (by simp)
  constructor
  ·intro h1
   exact .inr ⟨x.hi - 1,.inr ⟨x,by rw [e];simp,by unfold inR;omega⟩,by omega⟩
  ·rintro (h1 | ⟨n,hn,h1⟩)
   ·omega
   ·rcases hn with h2 | ⟨r,hr,hp⟩
    ·omega
    ·rw [e] at hr
     rcases List.mem_append.1 hr with hr | hr
     ·have:=hc.lastlo r hr
      have:=hp.2
      omega
     ·rw [List.mem_singleton] at hr
      subst hr
      have:=hp.2
      omega
end Go.Proofs.Ytdldfllllgogoaa.rv
namespace Go.Proofs.Ytdldfllllgogoaa
open Go.RowKit
/-! ### The plain law -/
/-- a number folded into 16 bits -/
def foldOf (n:Int):Int:=if n=0 then 0 else (n - 1) % 65535+1
theorem foldOf_small (n:Int) (_h0:0≤n) (h:n≤65535):foldOf n=n:=by unfold foldOf;split <;> omega
theorem foldOf_step (n:Int) (h:65535<n):foldOf (n / 65536+n % 65536)=foldOf n:=by unfold foldOf;split <;> split <;> omega
theorem foldOf_bd (n:Int) (_h:0≤n):0≤foldOf n∧foldOf n≤65535:=by unfold foldOf;split <;> omega
theorem foldOf_add (n x:Int) (h:0≤n) (hx:0≤x) (hx2:x≤65535):foldOf (n+x)=if 65535<foldOf n+x then foldOf n+x - 65535 else foldOf n+x:=by
 unfold foldOf;split <;> split <;> split <;> omega
/-- the sum of pairs, up to the k-th byte -/
def sumTo (l:List UInt8):Nat→Int
 | 0=>0
 | k+1=>sumTo l k+(if k % 2=0 then 256 * ((l.getD k 0).toNat:Int) else ((l.getD k 0).toNat:Int))
theorem sumTo_bd (l:List UInt8) (k:Nat):0≤sumTo l k∧sumTo l k≤65280 * k:=by
 induction k with
 | zero=>simp [sumTo]
 | succ k ih=>
  have:=(l.getD k 0).toNat_lt
  simp only [sumTo]
  split <;> omega
theorem i64_and_16 (n:Int) (h:0≤n) (h':n<9223372036854775808):bits .and .i64 n 65535=n % 65536:=by
 obtain ⟨m,rfl⟩:=Int.eq_ofNat_of_zero_le h
 have hx:m &&& 65535<2 ^ 63:=Nat.and_lt_two_pow _ (by omega)
 have hm:(BitVec.ofInt 64 (m:Int)).toNat=m:=by
  rw [BitVec.ofInt_natCast,BitVec.toNat_ofNat];exact Nat.mod_eq_of_lt (by omega)
 show IntKind.i64.wrap ((BitVec.ofInt 64 (m:Int) &&& BitVec.ofInt 64 (65535:Int)).toNat:Int)=_
 rw [BitVec.toNat_and,hm,show (BitVec.ofInt 64 (65535:Int)).toNat=65535 by decide,IntKind.wrap_i64]
 rw [show (65535:Nat)=2 ^ 16 - 1 by decide,Nat.and_two_pow_sub_one_eq_mod] at hx ⊢
 omega
/-! ### The walks -/
set_option maxHeartbeats 400000 in
theorem inet_fold (n:Int) (h:0≤n) (h':n≤9223372036854775807) (w:World) :
  Calls Try.prog 119 #[.int .i64 n] w fun e w'=>e=.returned (.int .i64 (foldOf n))∧w=w':=by
 go_enter Try.func119,Try.ntmps119
 go_wp2
 go_loop [0] (fun i=>∃ m:Int,0≤m∧m≤9223372036854775807∧Hid (foldOf m=foldOf n)∧i=.int .i64 m) (fun i=>(intOf i).toNat)
 case atStart=>exact ⟨n,h,h',Lib.hid rfl,rfl⟩
 case round=>
  obtain ⟨m,m1,m2,HM,rfl⟩:=hrel
  by_cases hlt:65535<m
  ·have hand:=i64_and_16 m m1 (by omega)
   have hs:=Lib.hid (foldOf_step m hlt)
   go_wp2
   go_round
   case rel=>exact ⟨m / 65536+m % 65536,by omega,by omega,Lib.hid (hs.out.trans HM.out),rfl⟩
   case measure=>simp [intOf];omega
  ·go_wp2
   go_ret
   exact ⟨ret_int (by rw [← HM.out,foldOf_small m m1 (by omega)]),rfl⟩
set_option maxHeartbeats 400000 in
theorem inet_Fold (l:List UInt8) (A:Option Addr) (c:Nat) (S:Nat→Prop) (w:World) (hl:SlRep Rep.u8 w S l A c) (hn:l.length≤140737488351232) :
  Calls Try.prog 118 #[.slice A l.length c] w fun e w'=>e=.returned (.int .i64 (foldOf (sumTo l l.length)))∧w=w':=by
 have HL:=Lib.hid hl
 clear hl
 go_enter Try.func118,Try.ntmps118
 go_wp2
 go_loop [3,4,5,8] (fun m _ _ i=>∃ k:Nat,k≤l.length∧i=.int .i64 k∧m=.int .i64 (sumTo l k)) (fun _ _ _ i=>l.length - (intOf i).toNat)
 case atStart=>exact ⟨0,Nat.zero_le _,rfl,rfl⟩
 case round=>
  obtain ⟨k,hk,rfl,rfl⟩:=hrel
  have hb:=sumTo_bd l k
  by_cases hlt:k<l.length
  ·obtain ⟨b,o,rfl,_,hc⟩:=u8_at HL.out hlt
   have hx:=(l.getD k 0).toNat_lt
   have hsn:Hid (sumTo l (k+1)=sumTo l k+(if k % 2=0 then 256 * ((l.getD k 0).toNat:Int) else ((l.getD k 0).toNat:Int))):=Lib.hid rfl
   generalize (l.getD k 0).toNat=x at hc hx hsn
   generalize sumTo l k=s at *
   by_cases hev:k % 2=0
   ·go_wp2
    go_round
    case rel=>exact ⟨k+1,by omega,by go_num,by rw [hsn.out,if_pos hev];congr 1;omega⟩
    case measure=>simp [intOf];omega
   ·go_wp2
    go_round
    case rel=>exact ⟨k+1,by omega,by go_num,by rw [hsn.out,if_neg hev]⟩
    case measure=>simp [intOf];omega
  ·obtain rfl:k=l.length:=by omega
   go_wp2_with (go_at_call 119;refine (inet_fold _ hb.1 (by omega) _).mono ?_;rintro e w' ⟨rfl,rfl⟩)
   go_ret
   exact ⟨rfl,rfl⟩
set_option maxHeartbeats 400000 in
theorem inet_Sum (l:List UInt8) (A:Option Addr) (c:Nat) (S:Nat→Prop) (w:World) (hl:SlRep Rep.u8 w S l A c) (hn:l.length≤140737488351232) :
  Calls Try.prog 112 #[.slice A l.length c] w fun e w'=>e=.returned (.int .i64 (65535 - foldOf (sumTo l l.length)))∧w=w':=by
 have hb:=foldOf_bd _ (sumTo_bd l l.length).1
 have H:=Lib.hid (inet_Fold l A c S w hl hn)
 clear hl
 generalize foldOf (sumTo l l.length)=x at *
 go_enter Try.func112,Try.ntmps112
 go_wp2_with (go_at_call 118;refine H.out.mono ?_;rintro e w' ⟨rfl,rfl⟩)
 go_ret
 exact ⟨rfl,rfl⟩
set_option maxHeartbeats 1000000 in
theorem ref_InetFold (l:List UInt8) (A:Option Addr) (c:Nat) (S:Nat→Prop) (w:World) (hl:SlRep Rep.u8 w S l A c) (hn:l.length≤140737488351232) :
  Calls Try.prog 107 #[.slice A l.length c] w fun e w'=>e=.returned (.int .i64 (foldOf (sumTo l l.length)))∧w=w':=by
 have HL:=Lib.hid hl
 clear hl
 go_enter Try.func107,Try.ntmps107
 go_wp2
 go_loop [3,4,5] (fun m i _=>∃ k:Nat,k≤l.length+1∧k % 2=0∧i=.int .i64 k∧m=.int .i64 (foldOf (sumTo l (min k l.length)))) (fun _ i _=>l.length+1 - (intOf i).toNat)
 case atStart=>exact ⟨0,Nat.zero_le _,rfl,rfl,by simp [sumTo,foldOf]⟩
 case round=>
  obtain ⟨k,hk,hev,rfl,rfl⟩:=hrel
  by_cases hlt:k<l.length
  ·have hmin:min k l.length=k:=by omega
   rw [hmin]
   have hb:=sumTo_bd l k
   have hfb:=foldOf_bd _ hb.1
   obtain ⟨b,o,rfl,_,hc⟩:=u8_at HL.out hlt
   have hx:=(l.getD k 0).toNat_lt
   by_cases h1:k+1<l.length
   ·obtain ⟨b',o',hbo,_,hd⟩:=u8_at HL.out h1
    simp only [Option.some.injEq,Addr.mk.injEq,and_true] at hbo
    obtain ⟨rfl,rfl⟩:=hbo
    have hy:=(l.getD (k+1) 0).toNat_lt
    have hfin:Hid (foldOf (sumTo l (min (k+2) l.length))=if 65535<foldOf (sumTo l k)+(256 * ((l.getD k 0).toNat:Int)+((l.getD (k+1) 0).toNat:Int)) then foldOf (sumTo l k)+(256 * ((l.getD k 0).toNat:Int)+((l.getD (k+1) 0).toNat:Int)) - 65535 else foldOf (sumTo l k)+(256 * ((l.getD k 0).toNat:Int)+((l.getD (k+1) 0).toNat:Int))):=Lib.hid (by
     rw [show min (k+2) l.length=k+2 by omega,← foldOf_add _ _ hb.1 (by omega) (by omega)]
     simp only [sumTo]
     rw [if_pos hev,if_neg (by omega)]
     congr 1
     omega)
    rw [← Nat.add_assoc] at hd
    generalize (l.getD k 0).toNat=x at *
    generalize (l.getD (k+1) 0).toNat=y at *
    generalize foldOf (sumTo l k)=s at *
    have hd':w.cell? ⟨b,o+(k+1),none⟩=some (.int .u8 (y:Int)):=hd
    by_cases hov:65535<s+(256 * (x:Int)+(y:Int))
    ·go_wp2
     go_round
     case rel=>exact ⟨k+2,by omega,by omega,by go_num,by rw [hfin.out,if_pos hov]⟩
     case measure=>simp [intOf];omega
    ·go_wp2
     go_round
     case rel=>exact ⟨k+2,by omega,by omega,by go_num,by rw [hfin.out,if_neg hov]⟩
     case measure=>simp [intOf];omega
   ·have hfin:Hid (foldOf (sumTo l (min (k+2) l.length))=if 65535<foldOf (sumTo l k)+256 * ((l.getD k 0).toNat:Int) then foldOf (sumTo l k)+256 * ((l.getD k 0).toNat:Int) - 65535 else foldOf (sumTo l k)+256 * ((l.getD k 0).toNat:Int)):=Lib.hid (by
     rw [show min (k+2) l.length=k+1 by omega,← foldOf_add _ _ hb.1 (by omega) (by omega)]
     simp only [sumTo]
     rw [if_pos hev])
    generalize (l.getD k 0).toNat=x at *
    generalize foldOf (sumTo l k)=s at *
    by_cases hov:65535<s+256 * (x:Int)
    ·go_wp2
     go_round
     case rel=>exact ⟨k+2,by omega,by omega,by go_num,by rw [hfin.out,if_pos hov]⟩
     case measure=>simp [intOf];omega
    ·go_wp2
     go_round
     case rel=>exact ⟨k+2,by omega,by omega,by go_num,by rw [hfin.out,if_neg hov]⟩
     case measure=>simp [intOf];omega
  ·rw [show min k l.length=l.length by omega]
   go_wp2
   go_ret
   exact ⟨rfl,rfl⟩
end Go.Proofs.Ytdldfllllgogoaa
namespace Go.Proofs.Ytdldfllllgogoaa.sg
def serB (n:Int):Bool:=decide (0≤n∧n<65536)
def rngOk (r:Rng):Bool:=serB r.lo && serB r.hi
theorem rngOk_iff {r:Rng}:rngOk r=true↔(0≤r.lo∧r.lo<65536)∧(0≤r.hi∧r.hi<65536):=by simp [rngOk,serB]
def bad1 (s:Segment):Prop:=¬ (0≤s.seq∧s.seq<65536)∨¬ (0≤s.ack∧s.ack<65536)∨s.window<0∨65535<s.window
instance (s:Segment):Decidable (bad1 s):=by unfold bad1;infer_instance
def bad4 (s:Segment):Prop:=s.acks=false∧(s.ack≠0∨s.window≠0∨s.sacks.length≠0)
instance (s:Segment):Decidable (bad4 s):=by unfold bad4;infer_instance
def fault (s:Segment):Int:=
 if bad1 s then 2 else if 3<s.sacks.length∨64<s.data.length then 1 else if s.sacks.all rngOk=false then 2 else if bad4 s then 4 else 0
theorem fault_zero {s:Segment} (h:fault s=0):¬ bad1 s∧s.sacks.length≤3∧s.data.length≤64∧s.sacks.all rngOk=true∧¬ bad4 s:=by
 unfold fault at h
 split at h
 ·simp at h
 ·rename_i h1
  split at h
  ·simp at h
  ·rename_i h2
   split at h
   ·simp at h
   ·rename_i h3
    split at h
    ·simp at h
    ·rename_i h4
     exact ⟨h1,by omega,by omega,by simpa using h3,h4⟩
theorem all_true {l:List Rng} {k:Nat} (h:l.all rngOk=true) (hk:k<l.length) (z:Rng):rngOk (l.getD k z)=true:=by
 rw [List.getD_eq_getElem?_getD,List.getElem?_eq_getElem hk]
 exact List.all_eq_true.1 h _ (List.getElem_mem hk)
theorem all_of {l:List Rng} (z:Rng) (h:∀ k,k<l.length→rngOk (l.getD k z)=true):l.all rngOk=true:=by
 rw [List.all_eq_true]
 intro x hx
 obtain ⟨k,hk,rfl⟩:=List.getElem_of_mem hx
 have:=h k hk
 rwa [List.getD_eq_getElem?_getD,List.getElem?_eq_getElem hk] at this
theorem all_false {l:List Rng} {k:Nat} (hk:k<l.length) (z:Rng) (h:rngOk (l.getD k z)=false):l.all rngOk=false:=by
 cases e:l.all rngOk with
 | false=>rfl
 | true=>rw [all_true e hk z] at h;cases h
/-- a number in two bytes -/
def two (n:Int):List UInt8:=[byteOf (n / 256),byteOf n]
def flagsOf (s:Segment):Int:=(if s.syn then 1 else 0)+(if s.fin then 2 else 0)+(if s.rst then 4 else 0)+(if s.acks then 8 else 0)
def head (s:Segment):List UInt8:=two s.seq ++ two s.ack ++ two s.window ++ [byteOf (flagsOf s),byteOf s.sacks.length,0,0]
def ranges (s:Segment):Nat→List UInt8
 | 0=>[]
 | k+1=>ranges s k ++ (two (s.sacks.getD k ⟨0,0⟩).lo ++ two (s.sacks.getD k ⟨0,0⟩).hi)
theorem ranges_length (s:Segment) (k:Nat):(ranges s k).length=4 * k:=by
 induction k with
 | zero=>rfl
 | succ k ih=>simp [ranges,ih,two];omega
def bare (s:Segment):List UInt8:=head s ++ ranges s s.sacks.length ++ s.data
theorem head_length (s:Segment):(head s).length=10:=rfl
theorem bare_length (s:Segment):(bare s).length=10+4 * s.sacks.length+s.data.length:=by simp [bare,ranges_length,head_length];omega
def sumOf (l:List UInt8):Int:=65535 - foldOf (sumTo l l.length)
def summed (l:List UInt8):List UInt8:=(l.set 8 (byteOf (sumOf l / 256))).set 9 (byteOf (sumOf l))
def enc (s:Segment):Except Int (List UInt8):=if fault s=0 then .ok (summed (bare s)) else .error (fault s)
theorem sumOf_bd (l:List UInt8):0≤sumOf l∧sumOf l≤65535:=by
 have:=foldOf_bd _ (sumTo_bd l l.length).1
 unfold sumOf
 omega
end Go.Proofs.Ytdldfllllgogoaa.sg
namespace Go.Proofs.Ytdldfllllgogoaa.sg
def byteAt (b:List UInt8) (i:Nat):Int:=((b.getD i 0).toNat:Int)
theorem byteAt_bd (b:List UInt8) (i:Nat):0≤byteAt b i∧byteAt b i<256:=by
 have:=(b.getD i 0).toNat_lt
 unfold byteAt
 omega
/-- two bytes as a number -/
def w16 (b:List UInt8) (i:Nat):Int:=byteAt b i * 256+byteAt b (i+1)
theorem w16_bd (b:List UInt8) (i:Nat):0≤w16 b i∧w16 b i<65536:=by
 have:=byteAt_bd b i
 have:=byteAt_bd b (i+1)
 unfold w16
 omega
def blank (b:List UInt8):List UInt8:=(b.set 8 0).set 9 0
def rngs (b:List UInt8):Nat→List Rng
 | 0=>[]
 | k+1=>rngs b k ++ [⟨w16 b (10+4 * k),w16 b (10+4 * k+2)⟩]
theorem rngs_length (b:List UInt8) (k:Nat):(rngs b k).length=k:=by
 induction k with
 | zero=>rfl
 | succ k ih=>simp [rngs,ih]
theorem rngs_getD (b:List UInt8) (n k:Nat) (h:k<n):(rngs b n).getD k ⟨0,0⟩=⟨w16 b (10+4 * k),w16 b (10+4 * k+2)⟩:=by
 induction n with
 | zero=>omega
 | succ n ih=>
  rw [rngs,List.getD_eq_getElem?_getD]
  rcases Nat.lt_or_ge k n with h1 | h1
  ·rw [List.getElem?_append_left (by rw [rngs_length];exact h1),← List.getD_eq_getElem?_getD]
   exact ih h1
  ·obtain rfl:k=n:=by omega
   rw [List.getElem?_append_right (by rw [rngs_length];omega),rngs_length]
   simp
def flagAt (b:List UInt8) (i:Int):Bool:=decide (byteAt b 6 / i % 2=1)
def count (b:List UInt8):Nat:=(b.getD 7 0).toNat
def segOf (b:List UInt8):Segment:={ seq:=w16 b 0,ack:=w16 b 2,window:=w16 b 4,syn:=flagAt b 1,fin:=flagAt b 2,rst:=flagAt b 4,acks:=flagAt b 8,sacks:=rngs b (count b),data:=b.drop (10+4 * count b) }
/-- the segment as far as its first k flags -/
def part (b:List UInt8) (k:Nat):Segment:={ seq:=w16 b 0,ack:=w16 b 2,window:=w16 b 4,syn:=decide (0<k) && flagAt b 1,fin:=decide (1<k) && flagAt b 2,rst:=decide (2<k) && flagAt b 4,acks:=decide (3<k) && flagAt b 8,sacks:=[],data:=[] }
/-- .. and its first k ranges -/
def part2 (b:List UInt8) (k:Nat):Segment:={ segOf b with sacks:=rngs b k,data:=[] }
def noSeg:Segment:={ seq:=0,ack:=0,window:=0,syn:=false,fin:=false,rst:=false,acks:=false,sacks:=[],data:=[] }
def dec (b:List UInt8):Except Int Segment:=
 if b.length<10 then .error 5
 else if sumOf (blank b)≠w16 b 8 then .error 6
 else if 16≤byteAt b 6∨b.length<10+4 * count b then .error 4
 else if fault (segOf b)≠0 then .error 4 else .ok (segOf b)
theorem u8_and_1 (y:Int) (h:0≤y∧y<256):bits .and .u8 y 1=y % 2:=by
 obtain ⟨a,rfl⟩:=Int.eq_ofNat_of_zero_le h.1
 have ha:(BitVec.ofInt 8 (a:Int)).toNat=a:=by
  rw [BitVec.ofInt_natCast,BitVec.toNat_ofNat];exact Nat.mod_eq_of_lt (by omega)
 show IntKind.u8.wrap ((BitVec.ofInt 8 (a:Int) &&& BitVec.ofInt 8 (1:Int)).toNat:Int)=_
 rw [BitVec.toNat_and,ha,show (BitVec.ofInt 8 (1:Int)).toNat=2 ^ 1 - 1 by decide,Nat.and_two_pow_sub_one_eq_mod]
 simp [IntKind.wrap,IntKind.bits,IntKind.signed]
 omega
theorem ten {b:List UInt8} (h:10≤b.length):∃ b0 b1 b2 b3 b4 b5 b6 b7 b8 b9 r,b=b0 :: b1 :: b2 :: b3 :: b4 :: b5 :: b6 :: b7 :: b8 :: b9 :: r:=by
 have one:∀ {n:Nat} {l:List UInt8},n+1≤l.length→∃ x r,l=x :: r∧n≤r.length:=fun {n l} h=>by
  cases l with
  | nil=>simp at h
  | cons x r=>exact ⟨x,r,rfl,by simpa using h⟩
 obtain ⟨b0,r0,e0,h0⟩:=one h
 obtain ⟨b1,r1,e1,h1⟩:=one h0
 obtain ⟨b2,r2,e2,h2⟩:=one h1
 obtain ⟨b3,r3,e3,h3⟩:=one h2
 obtain ⟨b4,r4,e4,h4⟩:=one h3
 obtain ⟨b5,r5,e5,h5⟩:=one h4
 obtain ⟨b6,r6,e6,h6⟩:=one h5
 obtain ⟨b7,r7,e7,h7⟩:=one h6
 obtain ⟨b8,r8,e8,h8⟩:=one h7
 obtain ⟨b9,r9,e9,h9⟩:=one h8
 exact ⟨b0,b1,b2,b3,b4,b5,b6,b7,b8,b9,r9,by rw [e0,e1,e2,e3,e4,e5,e6,e7,e8,e9]⟩
theorem byteOf_low (x:Int) (y:UInt8):byteOf (x * 256+(y.toNat:Int))=y:=by
 apply UInt8.toNat_inj.1
 have h:=byteOf_toNat (x * 256+(y.toNat:Int))
 have:=y.toNat_lt
 omega
theorem byteOf_self (y:UInt8):byteOf (y.toNat:Int)=y:=by have:=byteOf_low 0 y;simpa using this
theorem two_of (x y:UInt8):two ((x.toNat:Int) * 256+(y.toNat:Int))=[x,y]:=by
 have:=y.toNat_lt
 rw [two,byteOf_low,show ((x.toNat:Int) * 256+(y.toNat:Int)) / 256=x.toNat by omega,byteOf_self]
theorem flags_of (b:List UInt8):flagsOf (segOf b)=byteAt b 6 % 16:=by
 have:=byteAt_bd b 6
 simp only [flagsOf,segOf,flagAt,decide_eq_true_eq]
 generalize byteAt b 6=x at *
 split <;> split <;> split <;> split <;> omega
theorem ranges_of (b:List UInt8) (k:Nat) (hk:k≤count b) (h:10+4 * count b≤b.length):ranges (segOf b) k=(b.drop 10).take (4 * k):=by
 induction k with
 | zero=>simp [ranges]
 | succ k ih=>
  rw [ranges,ih (by omega),show (segOf b).sacks=rngs b (count b) from rfl,rngs_getD _ _ _ (by omega)]
  simp only [w16,byteAt,two_of]
  have e:∀ j,10+j<b.length→b.getD (10+j) 0=(b.drop 10).getD j 0:=fun j hj=>by simp [List.getD_eq_getElem?_getD]
  rw [show 4 * (k+1)=4 * k+4 by omega]
  have hl:(b.drop 10).length=b.length - 10:=List.length_drop
  apply List.ext_getElem?
  intro i
  rcases Nat.lt_or_ge i (4 * k) with h1 | h1
  ·rw [List.getElem?_append_left (by simp;omega),List.getElem?_take,List.getElem?_take,if_pos h1,if_pos (by omega)]
  ·rw [List.getElem?_append_right (by simp;omega),List.getElem?_take]
   simp only [List.length_take,hl,Nat.min_eq_left (show 4 * k≤b.length - 10 by omega)]
   obtain ⟨j,rfl⟩:∃ j,i=4 * k+j:=⟨i - 4 * k,by omega⟩
   rw [Nat.add_sub_cancel_left,List.getElem?_drop]
   rcases (show j=0∨j=1∨j=2∨j=3∨4≤j by omega) with rfl | rfl | rfl | rfl | h4
   ·rw [if_pos (by omega)];simp [List.getD_eq_getElem?_getD];rw [List.getElem?_eq_getElem (by omega)];simp
   ·rw [if_pos (by omega)];simp [List.getD_eq_getElem?_getD];rw [List.getElem?_eq_getElem (by omega)];simp;(try rw [List.getElem?_eq_getElem (by omega)]);congr 1
   ·rw [if_pos (by omega)];simp [List.getD_eq_getElem?_getD];rw [List.getElem?_eq_getElem (by omega)];simp;(try rw [List.getElem?_eq_getElem (by omega)]);(try rfl)
   ·rw [if_pos (by omega)];simp [List.getD_eq_getElem?_getD];rw [List.getElem?_eq_getElem (by omega)];simp;(try rw [List.getElem?_eq_getElem (by omega)]);(try rfl)
   ·rw [if_neg (by omega),List.getElem?_eq_none (by simp;omega)]
set_option maxRecDepth 100000 in
theorem bare_of (b:List UInt8) (h:10+4 * count b≤b.length):bare (segOf b)=(blank b).set 6 (byteOf (byteAt b 6 % 16)):=by
 have hr:=ranges_of b (count b) (Nat.le_refl _) h
 rw [bare,show (segOf b).sacks.length=count b from rngs_length _ _,hr,show (segOf b).data=(b.drop 10).drop (4 * count b) by rw [List.drop_drop];rfl,List.append_assoc,List.take_append_drop]
 rw [head,flags_of]
 rw [show (segOf b).sacks.length=count b from rngs_length _ _]
 simp only [segOf,w16]
 obtain ⟨b0,b1,b2,b3,b4,b5,b6,b7,b8,b9,r,rfl⟩:=ten (show 10≤b.length by omega)
 ·simp only [byteAt,count,List.getD_cons_zero,List.getD_cons_succ,two_of,byteOf_self]
  simp [blank,List.set]
set_option maxRecDepth 100000 in
theorem enc_yes (b:List UInt8) (h10:10≤b.length) (h:10+4 * count b≤b.length) (hs:sumOf (blank b)=w16 b 8) (hf:fault (segOf b)=0) (h6:byteAt b 6<16):enc (segOf b)=.ok b:=by
 have h0:=byteAt_bd b 6
 have hb:bare (segOf b)=blank b:=by
  rw [bare_of b h,Int.emod_eq_of_lt h0.1 h6]
  obtain ⟨b0,b1,b2,b3,b4,b5,b6,b7,b8,b9,r,rfl⟩:=ten h10
  simp [blank,byteAt,byteOf_self,List.set]
 rw [enc,if_pos hf,summed,hb,hs]
 refine congrArg _ ?_
 clear hs hf hb
 obtain ⟨b0,b1,b2,b3,b4,b5,b6,b7,b8,b9,r,rfl⟩:=ten h10
 ·have:=two_of b8 b9
  rw [two] at this
  simp only [List.cons.injEq,and_true] at this
  simp [blank,w16,byteAt,List.set,this.1,this.2]
set_option maxRecDepth 100000 in
theorem enc_no (b:List UInt8) (h10:10≤b.length) (h:10+4 * count b≤b.length) (h6:16≤byteAt b 6) (l:List UInt8) (hl:enc (segOf b)=.ok l):l≠b:=by
 have h0:=byteAt_bd b 6
 unfold enc at hl
 split at hl
 ·cases hl
  rw [summed,bare_of b h]
  intro e
  have:((((blank b).set 6 (byteOf (byteAt b 6 % 16))).set 8 (byteOf (sumOf ((blank b).set 6 (byteOf (byteAt b 6 % 16))) / 256))).set 9 (byteOf (sumOf ((blank b).set 6 (byteOf (byteAt b 6 % 16)))))).getD 6 0=byteOf (byteAt b 6 % 16):=by
   rw [List.getD_eq_getElem?_getD,List.getElem?_set_ne (by decide),List.getElem?_set_ne (by decide),List.getElem?_set_self (by simp [blank];omega)]
   rfl
  rw [e] at this
  have h2:=byteOf_toNat (byteAt b 6 % 16)
  rw [← this] at h2
  unfold byteAt at *
  omega
 ·cases hl
theorem exC_enc (s:Segment):exC (enc s)=fault s:=by
 unfold enc
 split
 ·rename_i h
  rw [h]
  rfl
 ·rfl
/-- the reference's way: what is read is encoded again -/
theorem dec_ref (b:List UInt8) (h10:10≤b.length) (h:10+4 * count b≤b.length) (hs:sumOf (blank b)=w16 b 8) :
  dec b=if fault (segOf b)=0∧exL (enc (segOf b))=b then .ok (segOf b) else .error 4:=by
 unfold dec
 rw [if_neg (by omega),if_neg (fun e=>e hs)]
 by_cases h6:byteAt b 6<16
 ·rw [if_neg (by omega)]
  by_cases hf:fault (segOf b)=0
  ·rw [if_neg (fun e=>e hf),if_pos ⟨hf,by rw [enc_yes b h10 h hs hf h6];rfl⟩]
  ·rw [if_pos hf,if_neg (fun e=>hf e.1)]
 ·rw [if_pos (by omega),if_neg]
  rintro ⟨hf,he⟩
  cases hh:enc (segOf b) with
  | ok l=>rw [hh] at he;exact enc_no b h10 h (by omega) l hh he
  | error c=>rw [enc,if_pos hf] at hh;cases hh
end Go.Proofs.Ytdldfllllgogoaa.sg
namespace Go.Proofs.Ytdldfllllgogoaa
open Go.RowKit
set_option maxHeartbeats 400000 in
theorem serial_bad_ok (n b:Nat) (f:Nat→Int) (w:World) (hn:n≤1000) (hc:∀ k,k<n→w.cell? ⟨b,k,none⟩=some (.int .i64 (f k))) (hf:∀ k,k<n→0≤f k∧f k<65536) :
  Calls Try.prog 114 #[.slice (some ⟨b,0,none⟩) n n] w fun e w'=>e=.returned (.bool false)∧w=w':=by
 have HC:=Lib.hid hc
 have HF:=Lib.hid hf
 clear hc hf
 go_enter Try.func114,Try.ntmps114
 go_wp2
 go_loop [7] (fun i=>∃ k:Nat,k≤n∧i=.int .i64 k) (fun i=>n - (intOf i).toNat)
 case atStart=>exact ⟨0,Nat.zero_le _,rfl⟩
 case round=>
  obtain ⟨k,hk,rfl⟩:=hrel
  by_cases hlt:k<n
  ·have hcell:=HC.out k hlt
   have h1:=(HF.out k hlt).1
   have h2:=(HF.out k hlt).2
   go_wp2
   go_round
   case rel=>exact ⟨k+1,by omega,by go_num⟩
   case measure=>simp [intOf];omega
  ·go_wp2
   go_ret
   exact ⟨rfl,rfl⟩
/-- one number, two: what is asked ahead of the others -/
theorem serial_bad1_ok (b:Nat) (x:Int) (w:World) (hc:w.cell? ⟨b,0,none⟩=some (.int .i64 x)) (h1:0≤x) (h2:x<65536) :
  Calls Try.prog 114 #[.slice (some ⟨b,0,none⟩) 1 1] w fun e w'=>e=.returned (.bool false)∧w=w':=
 serial_bad_ok 1 b (fun _=>x) w (by omega) (fun k hk=>by
  obtain rfl:k=0:=by omega
  exact hc) (fun _ _=>⟨h1,h2⟩)
set_option maxHeartbeats 400000 in
theorem serial_far (a b:Int) (h1:0≤a) (h2:a<65536) (h3:0≤b) (h4:b<65536) (w:World) :
  Calls Try.prog 115 #[.int .i64 a,.int .i64 b] w fun e w'=>e=.returned (.int .i64 ((b - a) % 65536))∧w=w':=by
 go_enter Try.func115,Try.ntmps115
 go_wp2
 go_ret
 exact ⟨ret_int (by omega),rfl⟩
set_option maxHeartbeats 400000 in
theorem ref_serialMay (s:Int) (w:World) :
  Calls Try.prog 30 #[.int .i64 s] w fun e w'=>e=.returned (.bool (decide (0≤s∧s<65536)))∧w=w':=by
 by_cases h:0≤s
 all_goals
  go_enter Try.func30,Try.ntmps30
  go_wp2
  go_ret
  exact ⟨ret_bool (by rw [Bool.eq_iff_iff];simp;omega),rfl⟩
theorem ref_serialMay_yes (s:Int) (h1:0≤s) (h2:s<65536) (w:World):Calls Try.prog 30 #[.int .i64 s] w fun e w'=>e=.returned (.bool true)∧w=w':=
 (ref_serialMay s w).mono fun _ _ ⟨he,hw⟩=>⟨by rw [he];exact ret_bool (by simp;omega),hw⟩
set_option maxHeartbeats 400000 in
theorem ref_Far_ok (a b:Int) (h1:0≤a) (h2:a<65536) (h3:0≤b) (h4:b<65536) (w:World) :
  Calls Try.prog 92 #[.int .i64 a,.int .i64 b] w fun e w'=>e=.returned (.tuple #[.int .i64 ((b - a) % 65536),.int .i64 0])∧w=w':=by
 by_cases c:a≤b
 ·go_enter Try.func92,Try.ntmps92
  go_wp2_with (go_at_call 30;refine (ref_serialMay_yes _ (by omega) (by omega) _).mono ?_;rintro e w' ⟨rfl,rfl⟩)
  go_ret2
  exact ⟨ret2_int (by omega) rfl,rfl⟩
 ·have c':b<a:=by omega
  go_enter Try.func92,Try.ntmps92
  go_wp2_with (go_at_call 30;refine (ref_serialMay_yes _ (by omega) (by omega) _).mono ?_;rintro e w' ⟨rfl,rfl⟩)
  go_ret2
  exact ⟨ret2_int (by omega) rfl,rfl⟩
end Go.Proofs.Ytdldfllllgogoaa
namespace Go.Proofs.Ytdldfllllgogoaa
open Go.RowKit
/-- the place nearest to p that bears the number s -/
def nearOf (s p:Int):Int:=if 32768≤(s - p) % 65536 then p+((s - p) % 65536 - 65536) else p+(s - p) % 65536
set_option maxHeartbeats 400000 in
theorem serial_Near_ok (s p:Int) (h1:0≤s) (h2:s<65536) (h3:0≤p) (h4:p≤1048576) (w:World) :
  Calls Try.prog 102 #[.int .i64 s,.int .i64 p] w fun e w'=>e=.returned (.tuple #[.int .i64 (nearOf s p),.int .i64 0])∧Below w.heap.size w w':=by
 have hf:=serial_far (p % 65536) s (by omega) (by omega) h1 h2
 rw [show (s - p % 65536) % 65536=(s - p) % 65536 by omega] at hf
 have hd1:0≤(s - p) % 65536:=by omega
 have hd2:(s - p) % 65536<65536:=by omega
 unfold nearOf
 generalize (s - p) % 65536=d at hf hd1 hd2 ⊢
 have HF:=Lib.hid hf
 clear hf
 by_cases c:32768≤d
 ·rw [if_pos c]
  go_enter Try.func102,Try.ntmps102
  go_wp2_with (first
   | (go_at_call 114;refine (serial_bad1_ok _ s _ (by simp [go_sem]) h1 h2).mono ?_;rintro e w' ⟨rfl,rfl⟩)
   | (go_at_call 115;refine (HF.out _).mono ?_;rintro e w' ⟨rfl,rfl⟩))
  go_ret2
  exact ⟨rfl,(by repeat (first | (with_reducible first | exact Below.refl _ _ | assumption | refine bset ?_ ?_ _ | refine balloc ?_ _ | refine Below.drew ?_ | refine bdrewN ?_ _ | refine bnext ?_ (by with_reducible assumption)) | exact Nat.le_refl _ | (simp;done) | omega | (simp;omega)))⟩
 ·rw [if_neg c]
  have c':d<32768:=by omega
  go_enter Try.func102,Try.ntmps102
  go_wp2_with (first
   | (go_at_call 114;refine (serial_bad1_ok _ s _ (by simp [go_sem]) h1 h2).mono ?_;rintro e w' ⟨rfl,rfl⟩)
   | (go_at_call 115;refine (HF.out _).mono ?_;rintro e w' ⟨rfl,rfl⟩))
  go_ret2
  exact ⟨rfl,(by repeat (first | (with_reducible first | exact Below.refl _ _ | assumption | refine bset ?_ ?_ _ | refine balloc ?_ _ | refine Below.drew ?_ | refine bdrewN ?_ _ | refine bnext ?_ (by with_reducible assumption)) | exact Nat.le_refl _ | (simp;done) | omega | (simp;omega)))⟩
/-- what the search has found ahead of k: q is the number of rounds of the nearest place -/
def NearAt (s p k best least:Int):Prop:=
 (k = -2∧best=0∧least=1099511627776)∨(-2<k∧65536 * (k - 1)+s≤nearOf s p - 65536∧best=65536 * (k - 1)+s∧least=p - best) ∨
 (nearOf s p≤65536 * (k - 1)+s∧best=nearOf s p∧(least=p - best∧best≤p∨least=best - p∧p≤best))
theorem near_q (s p:Int) (h1:0≤s) (h2:s<65536) (h3:0≤p) (h4:p≤1048576):∃ q:Int,nearOf s p=65536 * q+s ∧ -1≤q∧q≤16∧p - 32768≤nearOf s p∧nearOf s p<p+32768:=by
 unfold nearOf
 split
 ·exact ⟨(p+((s - p) % 65536 - 65536) - s) / 65536,by omega,by omega,by omega,by omega,by omega⟩
 ·exact ⟨(p+(s - p) % 65536 - s) / 65536,by omega,by omega,by omega,by omega,by omega⟩
theorem near_bounds {s p k best least:Int} (h:NearAt s p k best least) (h1:0≤s) (h2:s<65536) (h3:0≤p) (h4:p≤1048576) (k1:-2≤k) (k2:k≤20):0≤least∧least≤1099511627776:=by
 obtain ⟨q,e,q1,q2,n1,n2⟩:=near_q s p h1 h2 h3 h4
 unfold NearAt at h
 generalize nearOf s p=X at *
 omega
theorem near_step (s p k best least:Int) (h1:0≤s) (h2:s<65536) (h3:0≤p) (h4:p≤1048576) (k1:-2≤k) (k2:k<20) (h:NearAt s p k best least) :
  (65536 * k+s - p<0 → -(65536 * k+s - p)<least→NearAt s p (k+1) (65536 * k+s) (-(65536 * k+s - p))) ∧
  (65536 * k+s - p<0→¬ -(65536 * k+s - p)<least→NearAt s p (k+1) best least) ∧
  (¬ 65536 * k+s - p<0→65536 * k+s - p<least→NearAt s p (k+1) (65536 * k+s) (65536 * k+s - p)) ∧
  (¬ 65536 * k+s - p<0→¬ 65536 * k+s - p<least→NearAt s p (k+1) best least):=by
 obtain ⟨q,e,q1,q2,n1,n2⟩:=near_q s p h1 h2 h3 h4
 unfold NearAt at *
 generalize nearOf s p=X at *
 rw [show k+1 - 1=k by omega]
 refine ⟨fun a b=>?_,fun a b=>?_,fun a b=>?_,fun a b=>?_⟩ <;> omega
theorem near_end (s p best least:Int) (h1:0≤s) (h2:s<65536) (h3:0≤p) (h4:p≤1048576) (h:NearAt s p 20 best least):best=nearOf s p:=by
 obtain ⟨q,e,q1,q2,n1,n2⟩:=near_q s p h1 h2 h3 h4
 unfold NearAt at h
 generalize nearOf s p=X at *
 omega
set_option maxHeartbeats 1000000 in
theorem ref_Near_ok (s p:Int) (h1:0≤s) (h2:s<65536) (h3:0≤p) (h4:p≤1048576) (w:World) :
  Calls Try.prog 93 #[.int .i64 s,.int .i64 p] w fun e w'=>e=.returned (.tuple #[.int .i64 (nearOf s p),.int .i64 0])∧w=w':=by
 go_enter Try.func93,Try.ntmps93
 go_wp2_with (go_at_call 30;refine (ref_serialMay_yes _ (by omega) (by omega) _).mono ?_;rintro e w' ⟨rfl,rfl⟩)
 go_loop [6,7,8,9,10] (fun b l k _ _=>∃ best least i:Int,-2≤i∧i≤20∧Hid (NearAt s p i best least)∧b=.int .i64 best∧l=.int .i64 least∧k=.int .i64 i) (fun _ _ k _ _=>(20 - intOf k).toNat)
 case atStart=>exact ⟨0,1099511627776,-2,by omega,by omega,Lib.hid (.inl ⟨rfl,rfl,rfl⟩),rfl,rfl,rfl⟩
 case round=>
  obtain ⟨best,least,i,i1,i2,HN,rfl,rfl,rfl⟩:=hrel
  have hb:=near_bounds HN.out h1 h2 h3 h4 i1 i2
  by_cases hlt:i<20
  ·have ST:=Lib.hid (near_step s p i best least h1 h2 h3 h4 i1 hlt HN.out)
   by_cases c1:65536 * i+s - p<0
   ·by_cases c2:-(65536 * i+s - p)<least
    ·go_wp2
     go_round
     case rel=>exact ⟨_,_,i+1,by omega,by omega,Lib.hid (ST.out.1 c1 c2),rfl,rfl,rfl⟩
     case measure=>simp [intOf];omega
    ·go_wp2
     go_round
     case rel=>exact ⟨_,_,i+1,by omega,by omega,Lib.hid (ST.out.2.1 c1 (by omega)),rfl,rfl,rfl⟩
     case measure=>simp [intOf];omega
   ·have c1':0≤65536 * i+s - p:=by omega
    by_cases c2:65536 * i+s - p<least
    ·go_wp2
     go_round
     case rel=>exact ⟨_,_,i+1,by omega,by omega,Lib.hid (ST.out.2.2.1 (by omega) c2),rfl,rfl,rfl⟩
     case measure=>simp [intOf];omega
    ·go_wp2
     go_round
     case rel=>exact ⟨_,_,i+1,by omega,by omega,Lib.hid (ST.out.2.2.2 (by omega) (by omega)),rfl,rfl,rfl⟩
     case measure=>simp [intOf];omega
  ·obtain rfl:i=20:=by omega
   go_wp2
   go_ret2
   exact ⟨ret2_int (near_end s p best least h1 h2 h3 h4 HN.out) rfl,rfl⟩
end Go.Proofs.Ytdldfllllgogoaa
namespace Go.Proofs.Ytdldfllllgogoaa.pp
/-- a frame on its way, and where it lies -/
structure Fr where
 bytes:List UInt8
 back:Bool
 hit:Bool
/-- both sides, and what is between -/
structure Wire where
 first:Int
 room:Int
 snd:sd.St
 rcv:rv.St
 frames:List Fr
def start (c:Line):Wire:=⟨c.first,c.room,sd.start c.room,rv.start,[]⟩
def none_:Passed:=⟨0,false,0,[],false,0⟩
def no (e:Int):Passed:={ none_ with code:=e }
def mark (x:Wire) (p:Int):Int:=(x.first+p) % 65536
def place (x:Wire) (s near:Int):Int:=nearOf ((s - x.first) % 65536) near
def putIn (x:Wire) (s:Segment) (back:Bool):Wire:={ x with frames:=x.frames ++ [⟨exL (sg.enc s),back,false⟩] }
def own (x:Wire) (d:Deed):Passed × Wire:=({ none_ with code:=(sd.doIt x.snd d).1.code,left:=(sd.doIt x.snd d).1.left },{ x with snd:=(sd.doIt x.snd d).2 })
def zseg:Segment:=⟨0,0,0,false,false,false,false,[],[]⟩
def pollD:Deed:=⟨3,[],0,0,[]⟩
def sendSeg (x:Wire) (p:Sent):Segment:={ zseg with seq:=mark x p.from_,fin:=p.fin,data:=p.data }
def send (x:Wire):Passed × Wire:=
 if (sd.doIt x.snd pollD).1.idle=true then (no 7,{ x with snd:=(sd.doIt x.snd pollD).2 })
 else ({ none_ with put:=true,id:=x.frames.length,left:=(sd.doIt x.snd pollD).1.left },putIn { x with snd:=(sd.doIt x.snd pollD).2 } (sendSeg x (sd.doIt x.snd pollD).1) false)
def zf:Fr:=⟨[],false,false⟩
def hitAt (f:Fr) (n:Nat) (y:UInt8):Fr:=⟨f.bytes.set n (f.bytes.getD n 0 ^^^ y),f.back,true⟩
def hit (x:Wire) (h:Hop):Int × Wire:=
 if h.id<0∨(x.frames.length:Int)≤h.id then (7,x)
 else if h.at_<0∨((x.frames.getD h.id.toNat zf).bytes.length:Int)≤h.at_ then (2,x)
 else if (x.frames.getD h.id.toNat zf).hit=true then (8,x)
 else (0,{ x with frames:=x.frames.set h.id.toNat (hitAt (x.frames.getD h.id.toNat zf) h.at_.toNat h.by_) })
def taken (x:Wire) (id:Int) (back:Bool):Except Int Segment:=
 if id<0∨(x.frames.length:Int)≤id∨(x.frames.getD id.toNat zf).back≠back then .error 7 else sg.dec (x.frames.getD id.toNat zf).bytes
def replySeg (x:Wire) (t:Told):Segment:={ zseg with acks:=true,ack:=mark x t.ack,window:=t.window,sacks:=t.sacks.map fun r=>⟨mark x r.lo,mark x r.hi⟩ }
def reply (x:Wire) (t:Told):Passed × Wire:=
 if t.code≠0 then (no t.code,x)
 else ({ none_ with put:=true,id:=x.frames.length,data:=t.data,end_:=t.end_ },putIn x (replySeg x t) true)
noncomputable def comes (x:Wire) (a:Arrival):Passed × Wire:=reply { x with rcv:=(rv.doIt x.room x.rcv a).2 } (rv.doIt x.room x.rcv a).1
noncomputable def carryOf (x:Wire):Except Int Segment→Passed × Wire
 | .error e=>(no e,x)
 | .ok s=>if place x s.seq x.rcv.done<0 then (no 2,x) else comes x ⟨1,place x s.seq x.rcv.done,s.data,s.fin,0⟩
noncomputable def carry (x:Wire) (id:Int):Passed × Wire:=carryOf x (taken x id false)
def backR (x:Wire) (r:Rng):Rng:=⟨place x r.lo x.snd.done,place x r.hi x.snd.done⟩
def backD (x:Wire) (s:Segment):Deed:=⟨2,[],place x s.ack x.snd.done,s.window,s.sacks.map (backR x)⟩
def belowR (r:Rng):Bool:=decide (r.lo<0∨r.hi<0)
def anyBelow (d:Deed):Bool:=decide (d.ack<0) || d.sacks.any belowR
def heardOf (x:Wire):Except Int Segment→Int × Wire
 | .error e=>(e,x)
 | .ok s=>if anyBelow (backD x s)=true then (2,x) else ((sd.doIt x.snd (backD x s)).1.code,{ x with snd:=(sd.doIt x.snd (backD x s)).2 })
def heard (x:Wire) (id:Int):Int × Wire:=heardOf x (taken x id true)
def back (x:Wire) (id:Int):Passed × Wire:=({ no (heard x id).1 with left:=sd.leftOf (heard x id).2.snd },(heard x id).2)
noncomputable def step (x:Wire) (h:Hop):Passed × Wire:=
 if h.kind=1 then own x ⟨1,h.data,0,0,[]⟩
 else if h.kind=2 then own x ⟨5,[],0,0,[]⟩
 else if h.kind=7 then own x ⟨4,[],0,0,[]⟩
 else if h.kind=3 then send x
 else if h.kind=4 then (no (hit x h).1,(hit x h).2)
 else if h.kind=5 then carry x h.id
 else if h.kind=6 then back x h.id
 else if h.kind=8 then comes x ⟨2,0,[],false,h.count⟩
 else (no 3,x)
/-- so many hops -/
noncomputable def afterAll (c:Line) (l:List Hop):Nat→List Passed × Wire
 | 0=>([],start c)
 | k+1=>match l[k]? with
  | some a=>((afterAll c l k).1 ++ [(step (afterAll c l k).2 a).1],(step (afterAll c l k).2 a).2)
  | none=>afterAll c l k
theorem afterAll_succ {c:Line} {l:List Hop} {k:Nat} {a:Hop} (h:l[k]? = some a):afterAll c l (k+1)=((afterAll c l k).1 ++ [(step (afterAll c l k).2 a).1],(step (afterAll c l k).2 a).2):=by
 rw [afterAll,h]
noncomputable def play (c:Line) (l:List Hop):Except Int (List Passed):=
 if c.first<0∨65535<c.first∨c.room<1∨4096<c.room then .error 2 else if 300<l.length then .error 1 else .ok (afterAll c l l.length).1
/-! ### What holds of it -/
structure Inv (x:Wire) (k:Nat):Prop where
 first:0≤x.first∧x.first<65536
 room:1≤x.room∧x.room≤4096
 snd:sd.Inv x.snd
 rcv:rv.Inv x.room x.rcv
 few:x.frames.length≤k
 size:∀ f,f ∈ x.frames→f.bytes.length≤86
theorem Inv.start {c:Line} (h:¬ (c.first<0∨65535<c.first∨c.room<1∨4096<c.room)):Inv (start c) 0:=
 ⟨by show 0≤c.first∧c.first<65536;omega,by show 1≤c.room∧c.room≤4096;omega,sd.Inv.start (w:=c.room) (by omega) (by omega),rv.Inv.start (room:=c.room) (by omega),Nat.le_refl _,fun f hf=>by cases hf⟩
theorem enc_size (s:Segment):(exL (sg.enc s)).length≤86:=by
 unfold sg.enc
 split
 ·next h=>
  obtain ⟨_,h1,h2,_,_⟩:=sg.fault_zero h
  show (sg.summed (sg.bare s)).length≤86
  unfold sg.summed
  rw [List.length_set,List.length_set,sg.bare_length]
  omega
 ·exact Nat.zero_le _
theorem Inv.up {x:Wire} {k m:Nat} (h:Inv x k) (hm:k≤m):Inv x m:=⟨h.first,h.room,h.snd,h.rcv,by have:=h.few;omega,h.size⟩
theorem Inv.putIn {x:Wire} {k:Nat} (h:Inv x k) (s:Segment) (b:Bool):Inv (putIn x s b) (k+1):=by
 refine ⟨h.first,h.room,h.snd,h.rcv,?_,fun f hf=>?_⟩
 ·show (x.frames ++ _).length≤k+1
  rw [List.length_append]
  have:=h.few
  simp
  omega
 ·rcases List.mem_append.1 hf with hf | hf
  ·exact h.size f hf
  ·rw [List.mem_singleton] at hf
   subst hf
   exact enc_size s
theorem Inv.setSnd {x:Wire} {k:Nat} (h:Inv x k) {s:sd.St} (hs:sd.Inv s):Inv { x with snd:=s } k:=⟨h.first,h.room,hs,h.rcv,h.few,h.size⟩
theorem Inv.setRcv {x:Wire} {k:Nat} (h:Inv x k) {s:rv.St} (hs:rv.Inv x.room s):Inv { x with rcv:=s } k:=⟨h.first,h.room,h.snd,hs,h.few,h.size⟩
theorem Inv.doSnd {x:Wire} {k:Nat} (h:Inv x k) (d:Deed):Inv { x with snd:=(sd.doIt x.snd d).2 } k:=h.setSnd (h.snd.step d)
theorem Inv.doRcv {x:Wire} {k:Nat} (h:Inv x k) (a:Arrival):Inv { x with rcv:=(rv.doIt x.room x.rcv a).2 } k:=h.setRcv (h.rcv.step a)
theorem getD_mem {x:Wire} {n:Nat} (h:n<x.frames.length):x.frames.getD n zf ∈ x.frames:=by rw [List.getD_eq_getElem?_getD,List.getElem?_eq_getElem h];exact List.getElem_mem h
theorem Inv.hit {x:Wire} {k:Nat} (h:Inv x k) (a:Hop):Inv (hit x a).2 k:=by
 unfold pp.hit
 split
 ·exact h
 ·next h1=>
  split
  ·exact h
  ·split
   ·exact h
   ·refine ⟨h.first,h.room,h.snd,h.rcv,by simpa using h.few,fun f hf=>?_⟩
    rcases List.mem_or_eq_of_mem_set hf with hf | rfl
    ·exact h.size f hf
    ·show (List.set _ _ _).length≤86
     rw [List.length_set]
     exact h.size _ (getD_mem (by omega))
theorem Inv.reply {x:Wire} {k:Nat} (h:Inv x k) (t:Told):Inv (reply x t).2 (k+1):=by
 unfold pp.reply
 split
 ·exact h.up (by omega)
 ·exact h.putIn _ _
theorem Inv.comes {x:Wire} {k:Nat} (h:Inv x k) (a:Arrival):Inv (comes x a).2 (k+1):=(h.doRcv a).reply _
theorem Inv.heard {x:Wire} {k:Nat} (h:Inv x k) (id:Int):Inv (heard x id).2 k:=by
 unfold pp.heard
 cases taken x id true with
 | error e=>exact h
 | ok s=>
  unfold heardOf
  simp only
  split
  ·exact h
  ·exact h.doSnd _
theorem Inv.step {x:Wire} {k:Nat} (h:Inv x k) (a:Hop):Inv (step x a).2 (k+1):=by
 have hu:=h.up (Nat.le_succ k)
 unfold pp.step
 split
 ·exact hu.doSnd _
 ·split
  ·exact hu.doSnd _
  ·split
   ·exact hu.doSnd _
   ·split
    ·unfold pp.send
     split
     ·exact hu.doSnd _
     ·exact (h.doSnd _).putIn _ _
    ·split
     ·exact hu.hit a
     ·split
      ·unfold pp.carry
       cases taken x a.id false with
       | error e=>exact hu
       | ok s=>
        unfold carryOf
        simp only
        split
        ·exact hu
        ·exact h.comes _
      ·split
       ·exact hu.heard _
       ·split
        ·exact h.comes _
        ·exact hu
theorem Inv.afterAll {c:Line} (h:¬ (c.first<0∨65535<c.first∨c.room<1∨4096<c.room)) (l:List Hop):∀ k,Inv (afterAll c l k).2 k
 | 0=>Inv.start h
 | k+1=>by
  have ih:=Inv.afterAll h l k
  rw [pp.afterAll]
  split
  ·exact ih.step _
  ·exact ih.up (Nat.le_succ k)
end Go.Proofs.Ytdldfllllgogoaa.pp
