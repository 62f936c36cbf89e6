/- Texts in one: Send5, Send6, Send9, ListRes, SendR1, SendR2, Make, SendRH, SendR3. No condition. -/
import Derived.Test.YtdldfllllgogoaaPipM5
import Derived.Test.YtdldfllllgogoaaPipM2
import Derived.Test.YtdldfllllgogoaaPipM4
import Derived.Test.YtdldfllllgogoaaPipM1
import Derived.Deep.MidRow
import Derived.Great.BuildSlice
namespace Go.Proofs.Ytdldfllllgogoaa
open Go.RowKit Go.Shelf
set_option linter.unusedSimpArgs false
def PollRes (w:World) (B F:Nat) (p:Sent) (s':sd.St) (D:Option Addr) (dc:Nat) (M:Option Addr) (mc:Nat) (e:Ending) (w':World):Prop:=
 ∃ E ec,e=.returned (.agg #[.int .i64 0,.int .i64 p.from_,.slice E p.data.length ec,.bool p.fin,.bool p.again,.bool p.idle,.int .i64 0])∧Own w' w.heap.size 5 1 E p.data.length ec (p.data.map rv.u8v)∧SAt w' B F s' D dc M mc∧Stays w w' (fun k=>k=F)
/-- what was gone through tells where the next range begins -/
def sd.seen (at_:Int) (pre:List (Int × Rng)) (t:Int):Int:=pre.foldl (fun t x=>if at_<x.2.lo then x.2.lo else t) t
theorem sd.seen_snoc (at_:Int) (pre:List (Int × Rng)) (x:Int × Rng) (t:Int):sd.seen at_ (pre ++ [x]) t=if at_<x.2.lo then x.2.lo else sd.seen at_ pre t:=by
 unfold sd.seen
 rw [List.foldl_append]
 rfl
theorem sd.back_all (l:List Rng):∀ k,k≤l.length→(backTo l k).map Prod.snd=l.reverse.take k:=by
 intro k
 induction k with
 | zero=>intro _;simp [backTo]
 | succ k ih=>
  intro hk
  rw [backTo,List.map_append,ih (by omega),List.take_add_one]
  congr 1
  rw [List.getElem?_reverse (by omega),List.getElem?_eq_getElem (by omega)]
  simp only [List.map_cons,List.map_nil,Option.toList_some,List.cons.injEq,and_true]
  rw [List.getD_eq_getElem?_getD,List.getElem?_eq_getElem (by omega)]
  rfl
theorem sd.seen_all (l:List Rng) (at_ t:Int):sd.seen at_ (backTo l l.length) t=sd.ahead l at_ t:=by
 have h:=sd.back_all l l.length (Nat.le_refl _)
 rw [List.take_of_length_le (by simp)] at h
 have e:∀ (pre:List (Int × Rng)) (t:Int),sd.seen at_ pre t=(pre.map Prod.snd).foldl (fun t r=>if at_<r.lo then r.lo else t) t:=by
  intro pre
  induction pre with
  | nil=>intro t;rfl
  | cons x pre ih=>intro t;exact ih _
 rw [e,h,List.foldl_reverse]
 rfl
/-- within the loop over the ranges: the boxes of at and of to, and the slice's -/
structure PolC (w:World) (b3 b4 Bs:Nat) (at_ t:Int) (v:Value) (W:World):Prop where
 low:Below w.heap.size w W
 box3:Boxed W b3 3 (.int .i64 at_)
 box4:Boxed W b4 3 (.int .i64 t)
 bs:Boxed W Bs 39 v
 ne:b3≠b4∧b4≠Bs∧w.heap.size≤b4
theorem PolC.kept {w:World} {b3 b4 Bs:Nat} {at_ t:Int} {v:Value} {W W':World} {row:Option Nat} (h:PolC w b3 b4 Bs at_ t v W) (hg:W.grownBy W' row) (hr:∀ r,row=some r→w.heap.size≤r∧∃ o:Obj,W.heap[r]? = some o∧o.isCells=false):PolC w b3 b4 Bs at_ t v W':=
 have hr':=fun r e=>(hr r e).2
 ⟨h.low.grown hg h.low.size (fun k e=>(hr k e).1),h.box3.kept hg (box_ne h.box3 hr'),h.box4.kept hg (box_ne h.box4 hr'),h.bs.kept hg (box_ne h.bs hr'),h.ne⟩
theorem PolC.alloc {w:World} {b3 b4 Bs:Nat} {at_ t:Int} {v:Value} {W:World} (h:PolC w b3 b4 Bs at_ t v W) (o:Obj):PolC w b3 b4 Bs at_ t v (W.alloc o):=
 h.kept (World.grownBy_alloc W o none) (fun r e=>by cases e)
theorem PolC.step {w:World} {b3 b4 Bs:Nat} {at_ t:Int} {v:Value} {W:World} (h:PolC w b3 b4 Bs at_ t v W) (x:Int):PolC w b3 b4 Bs at_ x v (W.setCell ⟨b4,0,none⟩ (.int .i64 x)):=
 ⟨h.low.setCell (p:=⟨b4,0,none⟩) h.ne.2.2 _,h.box3.other h.ne.1 _,h.box4.set _,h.bs.other h.ne.2.1.symm _,h.ne⟩
section
variable (B F:Nat) (s:sd.St) (D:Option Addr) (dc:Nat) (M:Option Addr) (mc:Nat) (w:World)
set_option maxRecDepth 100000 in
set_option maxHeartbeats 4000000 in
theorem send_poll_new (h:SAt w B F s D dc M mc) (hi:sd.Inv s) (hnew:¬ sd.first s s.again s.next<s.next) :
  Calls Try.prog 49 #[.pointer (some ⟨F,0,none⟩)] w (PollRes w B F (sd.poll s).1 (sd.poll s).2 D dc M mc):=by
 have H:=Lib.hid h
 have HI:=Lib.hid hi
 have hF:=h.blk.lt
 have hlo:=hi.lo
 have hen:=hi.end_
 have hed:=hi.edge
 have hag:=hi.again
 have hfew:=hi.few
 have HFI:=Lib.hid (fun wz (hb:Below w.heap.size w wz)=>send_first B F s D dc M mc s.again s.next wz (h.next hb) hi hi.again (by omega))
 obtain ⟨at_,hat⟩:∃ a,a=sd.first s s.again s.next:=⟨_,rfl⟩
 rw [← hat] at HFI hnew
 have HNEW:=Lib.hid hnew
 clear hnew
 have hfo:=sd.first_ok hi hi.again.2
 rw [← hat] at hfo
 have HFO:=Lib.hid hfo
 have hatb:0≤at_∧at_≤s.next:=by omega
 have HAT:=Lib.hid hat
 obtain ⟨w1,hw1⟩:∃ w1,w1=w.alloc (.cells #[.int .i64 0,.int .i64 0,.slice none 0 0,.bool false,.bool false,.bool false,.int .i64 0] 49):=⟨_,rfl⟩
 have HB1:Hid (Below w.heap.size w w1):=Lib.hid (by rw [hw1];exact balloc (bself w) _)
 have HR1:Hid (BlkA w1 w.heap.size 49 #[.int .i64 0,.int .i64 0,.slice none 0 0,.bool false,.bool false,.bool false,.int .i64 0]):=Lib.hid (by rw [hw1];exact BlkA.new _ _ _)
 have h1:=h.next HB1.out
 have b4:=h1.blk.get 4
 have b5:=h1.blk.get 5
 simp only [List.getElem?_toArray,List.getElem?_cons_succ,List.getElem?_cons_zero] at b4 b5
 have hF1:=h1.blk.lt
 have hb1:=HB1.out
 have hz1:=HR1.out.lt
 clear h hi hfo hat h1
 go_enter Try.func49,Try.ntmps49
 go_upto_region 1 with (fail)
 rw [← hw1]
 clear hw1
 go_cut [3] (fun s3 wx=>∃ b3:Nat,s3=.pointer (some ⟨b3,0,none⟩)∧w1.heap.size≤b3∧Hid (Below w1.heap.size w1 wx∧Boxed wx b3 3 (.int .i64 at_)))
 case first=>
  go_region_held3 (fun w'=>w'.cell? ⟨F,4,none⟩=some (.int .i64 s.next)∧w'.cell? ⟨F,5,none⟩=some (.int .i64 s.again)) ((first | (go_keep;done) | (refine ⟨?_,?_⟩ <;> (simp [go_sem, *];done)) | fail))
   (first
    | (go_at_call 79;((refine (HFI.out _ (by exact (by repeat (first | (with_reducible first | exact Below.refl _ _ | assumption | refine bset ?_ ?_ _ | refine balloc ?_ _ | refine Below.drew ?_ | refine bdrewN ?_ _ | refine bnext ?_ (by with_reducible assumption)) | exact Nat.le_refl _ | (simp;done) | omega | (simp;omega))))).mono ?_);rintro e w2 ⟨rfl,hb2⟩;have B2:Below w1.heap.size w1 w2:=(by repeat (first | (with_reducible first | exact Below.refl _ _ | assumption | refine bset ?_ ?_ _ | refine balloc ?_ _ | refine Below.drew ?_ | refine bdrewN ?_ _ | refine bnext ?_ (by with_reducible assumption)) | exact Nat.le_refl _ | (simp;done) | omega | (simp;omega)));have x4:=(B2.cell (p:=⟨F,4,none⟩) hF1).trans b4;have x5:=(B2.cell (p:=⟨F,5,none⟩) hF1).trans b5;have hF2:F<w2.heap.size:=Nat.lt_of_lt_of_le hF1 B2.size;have hn1:F≠w1.heap.size:=Nat.ne_of_lt hF1;have hn2:F≠w2.heap.size:=Nat.ne_of_lt hF2;have hn3:w1.heap.size≠F:=Nat.ne_of_gt hF1;have hn4:w2.heap.size≠F:=Nat.ne_of_gt hF2;(first | (have hq:=after_alloc hb2;have hzq:=hq.2;have yc:=hq.1.get;have yf:=hq.1.frozen) | (have hq:=after_allocD hb2;have hzq:=hq.2;have yc:=hq.1.get;have yf:=hq.1.frozen) | (have hq:=after_allocN hb2;have hzq:=hq.2;have yc:=hq.1.get;have yf:=hq.1.frozen) | skip);clear hb2))
    | fail)
  ·(try go_wp2)
   go_meet
   exact ⟨w2.heap.size,rfl,B2.size,Lib.hid ⟨balloc B2 _,Boxed.new _ _ _⟩⟩
  ·(try go_wp2)
   go_meet
   exact ⟨w1.heap.size,rfl,Nat.le_refl _,Lib.hid ⟨B2.trans ((Stays.set w2 w1.heap.size 0 _).below B2.size (fun k hk=>Nat.le_of_eq hk.symm)),show BlkA _ _ _ #[.int .i64 at_] from by simpa using hq.1.set 0 (.int .i64 at_)⟩⟩
 case rest=>
  obtain ⟨b3,rfl,hb3,HX3⟩:=hcut
  rename World=>w3
  have hB3:Below w1.heap.size w1 w3:=HX3.out.1
  have b4:=(hB3.cell (p:=⟨F,4,none⟩) hF1).trans b4
  have x3:w3.cell? ⟨b3,0,none⟩=some (.int .i64 at_):=HX3.out.2.cell
  have hbl3:b3<w3.heap.size:=HX3.out.2.lt
  obtain ⟨q,HQ⟩:∃ q:Bool,Hid (q=decide (at_<s.next)):=⟨_,Lib.hid rfl⟩
  have HB3:=Lib.hid hB3
  clear hB3 b5
  go_upto_region 2 with (fail)
  go_cut [25] (fun s25 wx=>s25=.bool q∧Hid (Below w3.heap.size w3 wx))
  case first=>
   go_quiet (fail)
   go_wp2
   go_meet
   exact ⟨by rw [HQ.out],Lib.hid (by repeat (first | (with_reducible first | exact Below.refl _ _ | assumption | refine bset ?_ ?_ _ | refine balloc ?_ _ | refine Below.drew ?_ | refine bdrewN ?_ _ | refine bnext ?_ (by with_reducible assumption)) | exact Nat.le_refl _ | (simp;done) | omega | (simp;omega)))⟩
  case rest=>
  obtain ⟨rfl,HB4⟩:=hcut
  rename World=>w4
  have hB4:Below w1.heap.size w1 w4:=HB3.out.trans (HB4.out.mono HB3.out.size)
  have H4:Hid (SAt w4 B F s D dc M mc):=Lib.hid ((H.out.next HB1.out).next hB4)
  have HX4:Hid (Boxed w4 b3 3 (.int .i64 at_)):=Lib.hid ((HB4.out.block b3 hbl3).trans HX3.out.2)
  have HR4:=Lib.hid (HR1.out.next hB4)
  have hR4:=HR4.out.lt
  have hF4:F<w4.heap.size:=H4.out.blk.lt
  have hbl4:b3<w4.heap.size:=HX4.out.lt
  have HB04:Hid (Below w.heap.size w w4):=Lib.hid (HB1.out.trans (hB4.mono HB1.out.size))
  clear HX3 b4 x3 hbl3 hB4 HB3 HB4
  cases q with
  | true=>
   have hlt:at_<s.next:=of_decide_eq_true HQ.out.symm
   exact absurd hlt HNEW.out
  | false=>
   have hlt:¬ at_<s.next:=of_decide_eq_false HQ.out.symm
   have hPO:sd.poll s=if min (sd.endOf s) s.edge≤s.next then (⟨0,0,[],false,false,true,0⟩,s) else (sd.piece s s.next (min (sd.endOf s) s.edge),{ s with next:=sd.after (sd.piece s s.next (min (sd.endOf s) s.edge)),again:=sd.after (sd.piece s s.next (min (sd.endOf s) s.edge)) }):=by
    unfold sd.poll
    simp only
    rw [← HAT.out,if_neg hlt]
   obtain ⟨tt,htt⟩:∃ tt,tt=min (sd.endOf s) s.edge:=⟨_,rfl⟩
   rw [← htt] at hPO
   have HPO:=Lib.hid hPO
   have HTT:=Lib.hid htt
   clear hPO htt
   have b6:=H4.out.blk.get 6
   simp only [List.getElem?_toArray,List.getElem?_cons_succ,List.getElem?_cons_zero] at b6
   have HEN:=Lib.hid (fun wz (hb:Below w4.heap.size w4 wz)=>send_end B F s D dc M mc wz (H4.out.next hb) HI.out.size)
   go_upto_region 11 with (fail)
   go_cut [8] (fun s8 wx=>s8=.int .i64 tt∧Hid (Below w4.heap.size w4 wx))
   case first=>
    go_quiet ((go_at_call 80;exact Calls.quiet_of_same ((HEN.out _ (by exact (by repeat (first | (with_reducible first | exact Below.refl _ _ | assumption | refine bset ?_ ?_ _ | refine balloc ?_ _ | refine Below.drew ?_ | refine bdrewN ?_ _ | refine bnext ?_ (by with_reducible assumption)) | exact Nat.le_refl _ | (simp;done) | omega | (simp;omega))))).mono (fun e w' he=>⟨he.1,he.2.symm⟩))))
    go_wp2
    all_goals
     go_meet
     refine ⟨?_,Lib.hid (by repeat (first | (with_reducible first | exact Below.refl _ _ | assumption | refine bset ?_ ?_ _ | refine balloc ?_ _ | refine Below.drew ?_ | refine bdrewN ?_ _ | refine bnext ?_ (by with_reducible assumption)) | exact Nat.le_refl _ | (simp;done) | omega | (simp;omega)))⟩
     rw [HTT.out];congr 1;omega
   case rest=>
    obtain ⟨rfl,HB5⟩:=hcut
    rename World=>w5
    have hb45:Below w4.heap.size w4 w5:=HB5.out
    have H5:=Lib.hid (H4.out.next hb45)
    have HR5:=Lib.hid (HR4.out.next hb45)
    have HB05:Hid (Below w.heap.size w w5):=Lib.hid (HB04.out.trans (hb45.mono HB04.out.size))
    have c4:=H5.out.blk.get 4
    simp only [List.getElem?_toArray,List.getElem?_cons_succ,List.getElem?_cons_zero] at c4
    have hF5:=H5.out.blk.lt
    have hR5:=HR5.out.lt
    have HEN2:=HTT.out
    have hen2:sd.endOf s≤s.data.length+1:=by unfold sd.endOf;have:=sd.fin1_le s.closed;omega
    clear b4 b6 HEN H4 HR4 HX4 HB04 hb45 HB5 hF4 hbl4 hR4
    by_cases hid:tt≤s.next
    ·have hid':s.next ≥ tt:=hid
     have tc:=HR5.out.get
     have tf:=HR5.out.frozen
     have HEND:Hid (∀ wx,Stays w5 wx (fun k=>k=w.heap.size)→PollRes w B F (sd.poll s).1 (sd.poll s).2 D dc M mc (.returned (.agg #[.int .i64 0,.int .i64 0,.slice none 0 0,.bool false,.bool false,.bool true,.int .i64 0])) wx):=Lib.hid (fun wx hs=>by
      rw [HPO.out,if_pos hid]
      exact ⟨none,0,rfl,Own.nil _ _ _ _,H5.out.stays hs (fun k hk e=>by have:=(H.out.hf_lt hk).2;omega),(Stays.of_below HB05.out _).trans hs (fun k hk e=>by omega)⟩)
     clear hid HEN2
     go_wp2
     exact bodyPost_ret (v:=.agg #[.int .i64 0,.int .i64 0,.slice none 0 0,.bool false,.bool false,.bool true,.int .i64 0]) (by simp [results,Try.results49,go_sem, *]) rfl (HEND.out _ (Stays.seven _ _ _ _ _ _ _ _ _))
    ·have hid':¬ s.next ≥ tt:=hid
     have HPC:=Lib.hid (send_piece B F s D dc M mc s.next tt w5 H5.out HI.out (by omega) (by omega) (by omega) (by omega))
     have hal:=sd.after_piece (s:=s) (f:=s.next) (t:=tt) (by omega) (by omega) (by omega) (by omega)
     have hpf:(sd.piece s s.next tt).from_=s.next:=rfl
     have hpi:(sd.piece s s.next tt).again=false∧(sd.piece s s.next tt).idle=false∧(sd.piece s s.next tt).code=0∧(sd.piece s s.next tt).left=0:=⟨rfl,rfl,rfl,rfl⟩
     have hpd:=sd.piece_len s s.next tt (by omega) (by omega) (by omega)
     have HPQ:Hid (sd.poll s=(sd.piece s s.next tt,{ s with next:=sd.after (sd.piece s s.next tt),again:=sd.after (sd.piece s s.next tt) })):=Lib.hid (by rw [HPO.out,if_neg hid])
     have hpd64:(sd.piece s s.next tt).data.length≤64:=by omega
     have HPF:=Lib.hid hpf
     have HPI:=Lib.hid hpi
     generalize sd.piece s s.next tt=pc at *
     obtain ⟨xc,xf,xd,xn,xa,xi,xl⟩:=pc
     simp only at hpf hpi hpd64 HPC HPQ HPI
     obtain ⟨rfl,rfl,rfl,rfl⟩:=hpi
     subst hpf
     have HAF:=Lib.hid (fun (G:Option Addr) (gc:Nat) wz=>send_after ⟨0,s.next,xd,xn,false,false,0⟩ G gc F wz ⟨by simp only;omega,by simp only;omega⟩ hpd64)
     simp only at HAF
     obtain ⟨av,hav⟩:∃ av,sd.after ⟨0,s.next,xd,xn,false,false,0⟩=av:=⟨_,rfl⟩
     rw [hav] at HAF HPQ hal
     have havb:0≤av∧av≤1048576:=by omega
     clear hav hpd hid HEN2 hal
     go_wp2_with (first
      | (go_at_call 81;((with_reducible refine HPC.out.mono ?_);rintro e w6 ⟨E,ec,rfl,hE,hb6⟩;have HE:=Lib.hid hE;have HB6:=Lib.hid hb6;clear hE hb6))
      | fail)
     refine (HAF.out E ec _).mono ?_
     rintro e w7 ⟨rfl,hb7⟩
     have B7:Below w5.heap.size w5 w7:=bnext (balloc HB6.out _) hb7
     have s7:=H5.out.next B7
     have d4:=s7.blk.get 4
     have d5:=s7.blk.get 5
     have f4:=s7.blk.frozen 4
     have f5:=s7.blk.frozen 5
     simp only [List.getElem?_toArray,List.getElem?_cons_succ,List.getElem?_cons_zero] at d4 d5
     have r7:=HR5.out.next B7
     have tc:=r7.get
     have tf:=r7.frozen
     have hq7:=after_alloc hb7
     have uc:=hq7.1.get
     have h56:=HB6.out.size
     have hn1:F≠w6.heap.size:=by omega
     have hn2:w.heap.size≠w6.heap.size:=by omega
     have hn3:F≠w.heap.size:=by omega
     have hn4:w6.heap.size≠F:=by omega
     have hn5:w6.heap.size≠w.heap.size:=by omega
     have hn6:w.heap.size≠F:=by omega
     have HE7:=Lib.hid ((HE.out.alloc (.cells #[.int .i64 0,.int .i64 s.next,.slice E xd.length ec,.bool xn,.bool false,.bool false,.int .i64 0] 49)).next hb7)
     have S7:=Lib.hid s7
     have HBB7:=Lib.hid B7
     have hl7:=hq7.2
     clear s7 r7 hq7 hb7 B7
     have HEND:Hid (∀ wx,Stays ((w7.setCell ⟨F,4,none⟩ (.int .i64 av)).setCell ⟨F,5,none⟩ (.int .i64 av)) wx (fun k=>k=w.heap.size)→PollRes w B F (sd.poll s).1 (sd.poll s).2 D dc M mc (.returned (.agg #[.int .i64 0,.int .i64 s.next,.slice E xd.length ec,.bool xn,.bool false,.bool false,.int .i64 0])) wx):=Lib.hid (fun wx hs=>by
      rw [HPQ.out]
      have hlt2:=HE7.out.lt
      have s8:=(S7.out.putNext av).putAgain av
      have st:Stays w7 wx (fun k=>k=F∨k=w.heap.size):=(((Stays.set w7 F 4 (.int .i64 av)).comp (Stays.set _ F 5 (.int .i64 av))).mono fun k _ e=>.inl e).comp (hs.mono fun k _ e=>.inr e)
      refine ⟨E,ec,rfl,?_,s8.stays hs (fun k hk e=>by have:=(H.out.hf_lt hk).2;omega),((Stays.of_below (HB05.out.trans (HBB7.out.mono HB05.out.size)) _).trans st (fun k hk e=>by omega))⟩
      exact (HE7.out.base_le HB05.out.size).stays st (fun k hk e=>by have:=(hlt2 k hk).1;omega))
     go_wp2
     exact bodyPost_ret (v:=.agg #[.int .i64 0,.int .i64 s.next,.slice E xd.length ec,.bool xn,.bool false,.bool false,.int .i64 0]) (by simp [results,Try.results49,go_sem, *]) rfl (HEND.out _ (Stays.seven _ _ _ _ _ _ _ _ _))
end
end Go.Proofs.Ytdldfllllgogoaa
namespace Go.Proofs.Ytdldfllllgogoaa
open Go.RowKit Go.Shelf
attribute [local go_sem] Oper.semAt_some
set_option linter.unusedSimpArgs false
section
variable (B F:Nat) (s:sd.St) (D:Option Addr) (dc:Nat) (M:Option Addr) (mc:Nat) (w:World)
set_option maxRecDepth 100000 in
set_option maxHeartbeats 4000000 in
theorem send_poll_again (h:SAt w B F s D dc M mc) (hi:sd.Inv s) (hnew:sd.first s s.again s.next<s.next) :
  Calls Try.prog 49 #[.pointer (some ⟨F,0,none⟩)] w (PollRes w B F (sd.poll s).1 (sd.poll s).2 D dc M mc):=by
 have H:=Lib.hid h
 have HI:=Lib.hid hi
 have hF:=h.blk.lt
 have hlo:=hi.lo
 have hen:=hi.end_
 have hed:=hi.edge
 have hag:=hi.again
 have hfew:=hi.few
 have HFI:=Lib.hid (fun wz (hb:Below w.heap.size w wz)=>send_first B F s D dc M mc s.again s.next wz (h.next hb) hi hi.again (by omega))
 obtain ⟨at_,hat⟩:∃ a,a=sd.first s s.again s.next:=⟨_,rfl⟩
 rw [← hat] at HFI hnew
 have HNEW:=Lib.hid hnew
 clear hnew
 have hfo:=sd.first_ok hi hi.again.2
 rw [← hat] at hfo
 have HFO:=Lib.hid hfo
 have hatb:0≤at_∧at_≤s.next:=by omega
 have HAT:=Lib.hid hat
 obtain ⟨w1,hw1⟩:∃ w1,w1=w.alloc (.cells #[.int .i64 0,.int .i64 0,.slice none 0 0,.bool false,.bool false,.bool false,.int .i64 0] 49):=⟨_,rfl⟩
 have HB1:Hid (Below w.heap.size w w1):=Lib.hid (by rw [hw1];exact balloc (bself w) _)
 have HR1:Hid (BlkA w1 w.heap.size 49 #[.int .i64 0,.int .i64 0,.slice none 0 0,.bool false,.bool false,.bool false,.int .i64 0]):=Lib.hid (by rw [hw1];exact BlkA.new _ _ _)
 have h1:=h.next HB1.out
 have b4:=h1.blk.get 4
 have b5:=h1.blk.get 5
 simp only [List.getElem?_toArray,List.getElem?_cons_succ,List.getElem?_cons_zero] at b4 b5
 have hF1:=h1.blk.lt
 have hb1:=HB1.out
 have hz1:=HR1.out.lt
 clear h hi hfo hat h1
 refine (callsIn_wide (n:=9)).1 ?_
 refine callsIn_of_wp_marks Try.func49 rfl trivial ?_ rfl
 simp only [Try.ntmps49,List.size_toArray,List.length_cons,List.length_nil,Nat.reduceAdd,Nat.reduceSub,Array.replicate_succ,Array.replicate_zero,List.push_toArray,List.append_toArray,List.nil_append,List.cons_append]
 refine wpIn_wide.2 ?_
 go_upto_region 1 with (fail)
 rw [← hw1]
 clear hw1
 go_cut [3] from 10 to 19 (fun s3 wx=>∃ b3:Nat,s3=.pointer (some ⟨b3,0,none⟩)∧w1.heap.size≤b3∧Hid (Below w1.heap.size w1 wx∧Boxed wx b3 3 (.int .i64 at_)))
 case first=>
  go_region_held3 (fun w'=>w'.cell? ⟨F,4,none⟩=some (.int .i64 s.next)∧w'.cell? ⟨F,5,none⟩=some (.int .i64 s.again)) ((first | (go_keep;done) | (refine ⟨?_,?_⟩ <;> (simp [go_sem, *];done)) | fail))
   (first
    | (go_at_call 79;((refine (HFI.out _ (by exact (by repeat (first | (with_reducible first | exact Below.refl _ _ | assumption | refine bset ?_ ?_ _ | refine balloc ?_ _ | refine Below.drew ?_ | refine bdrewN ?_ _ | refine bnext ?_ (by with_reducible assumption)) | exact Nat.le_refl _ | (simp;done) | omega | (simp;omega))))).mono ?_);rintro e w2 ⟨rfl,hb2⟩;have B2:Below w1.heap.size w1 w2:=(by repeat (first | (with_reducible first | exact Below.refl _ _ | assumption | refine bset ?_ ?_ _ | refine balloc ?_ _ | refine Below.drew ?_ | refine bdrewN ?_ _ | refine bnext ?_ (by with_reducible assumption)) | exact Nat.le_refl _ | (simp;done) | omega | (simp;omega)));have x4:=(B2.cell (p:=⟨F,4,none⟩) hF1).trans b4;have x5:=(B2.cell (p:=⟨F,5,none⟩) hF1).trans b5;have hF2:F<w2.heap.size:=Nat.lt_of_lt_of_le hF1 B2.size;have hn1:F≠w1.heap.size:=Nat.ne_of_lt hF1;have hn2:F≠w2.heap.size:=Nat.ne_of_lt hF2;have hn3:w1.heap.size≠F:=Nat.ne_of_gt hF1;have hn4:w2.heap.size≠F:=Nat.ne_of_gt hF2;(first | (have hq:=after_alloc hb2;have hzq:=hq.2;have yc:=hq.1.get;have yf:=hq.1.frozen) | (have hq:=after_allocD hb2;have hzq:=hq.2;have yc:=hq.1.get;have yf:=hq.1.frozen) | (have hq:=after_allocN hb2;have hzq:=hq.2;have yc:=hq.1.get;have yf:=hq.1.frozen) | skip);clear hb2))
    | fail)
  ·(try go_wp2)
   go_meet
   exact ⟨w2.heap.size,rfl,B2.size,Lib.hid ⟨balloc B2 _,Boxed.new _ _ _⟩⟩
  ·(try go_wp2)
   go_meet
   exact ⟨w1.heap.size,rfl,Nat.le_refl _,Lib.hid ⟨B2.trans ((Stays.set w2 w1.heap.size 0 _).below B2.size (fun k hk=>Nat.le_of_eq hk.symm)),show BlkA _ _ _ #[.int .i64 at_] from by simpa using hq.1.set 0 (.int .i64 at_)⟩⟩
 case rest=>
  obtain ⟨b3,rfl,hb3,HX3⟩:=hcut
  rename World=>w3
  have hB3:Below w1.heap.size w1 w3:=HX3.out.1
  have b4:=(hB3.cell (p:=⟨F,4,none⟩) hF1).trans b4
  have x3:w3.cell? ⟨b3,0,none⟩=some (.int .i64 at_):=HX3.out.2.cell
  have hbl3:b3<w3.heap.size:=HX3.out.2.lt
  obtain ⟨q,HQ⟩:∃ q:Bool,Hid (q=decide (at_<s.next)):=⟨_,Lib.hid rfl⟩
  have HB3:=Lib.hid hB3
  clear hB3 b5
  go_upto_region 2 with (fail)
  go_cut [25] from 20 to 25 (fun s25 wx=>s25=.bool q∧Hid (Below w3.heap.size w3 wx))
  case first=>
   go_quiet (fail)
   go_wp2
   go_meet
   exact ⟨by rw [HQ.out],Lib.hid (by repeat (first | (with_reducible first | exact Below.refl _ _ | assumption | refine bset ?_ ?_ _ | refine balloc ?_ _ | refine Below.drew ?_ | refine bdrewN ?_ _ | refine bnext ?_ (by with_reducible assumption)) | exact Nat.le_refl _ | (simp;done) | omega | (simp;omega)))⟩
  case rest=>
  obtain ⟨rfl,HB4⟩:=hcut
  rename World=>w4
  have hB4:Below w1.heap.size w1 w4:=HB3.out.trans (HB4.out.mono HB3.out.size)
  have H4:Hid (SAt w4 B F s D dc M mc):=Lib.hid ((H.out.next HB1.out).next hB4)
  have HX4:Hid (Boxed w4 b3 3 (.int .i64 at_)):=Lib.hid ((HB4.out.block b3 hbl3).trans HX3.out.2)
  have HR4:=Lib.hid (HR1.out.next hB4)
  have hR4:=HR4.out.lt
  have hF4:F<w4.heap.size:=H4.out.blk.lt
  have hbl4:b3<w4.heap.size:=HX4.out.lt
  have HB04:Hid (Below w.heap.size w w4):=Lib.hid (HB1.out.trans (hB4.mono HB1.out.size))
  clear HX3 b4 x3 hbl3 hB4 HB3 HB4
  cases q with
  | false=>exact absurd HNEW.out (of_decide_eq_false HQ.out.symm)
  | true=>
  have b4:=H4.out.blk.get 4
  have c3:=H4.out.blk.get 3
  simp only [List.getElem?_toArray,List.getElem?_cons_succ,List.getElem?_cons_zero] at b4 c3
  have x3:w4.cell? ⟨b3,0,none⟩=some (.int .i64 at_):=HX4.out.cell
  go_wp2_with (first
   | (go_at_call 74;refine (callsIn_wide.1 (back_in Fence.wide 9 trivial rfl M s.more.length mc _)).mono ?_;rintro e w' ⟨rfl,rfl⟩)
   | fail)
  obtain ⟨W0,hW0⟩:∃ W0,W0=(w4.alloc (.cells #[.int .i64 s.next] 3)).alloc (.cells #[.slice M s.more.length mc] 39):=⟨_,rfl⟩
  have hb40:Below w4.heap.size w4 W0:=by rw [hW0];exact balloc (balloc (bself w4) _) _
  have hbx4:Boxed W0 w4.heap.size 3 (.int .i64 s.next):=by rw [hW0];exact (Boxed.new w4 3 _).alloc _
  have hbxs:Boxed W0 (w4.heap.size+1) 39 (.slice M s.more.length mc):=by
   rw [hW0]
   have h:=Boxed.new (w4.alloc (.cells #[.int .i64 s.next] 3)) 39 (.slice M s.more.length mc)
   simpa using h
  have hbx3:Boxed W0 b3 3 (.int .i64 at_):=(hb40.block b3 hbl4).trans HX4.out
  have hsz0:W0.heap.size=w4.heap.size+1+1:=by rw [hW0];simp
  have hB40:Below w.heap.size w W0:=HB04.out.trans (hb40.mono HB04.out.size)
  rw [← hW0]
  clear hW0
  refine (wpIn_wide (n:=9)).1 ?_
  refine wpIn_rangeFunc_ownH rfl (by omega) (gf:=97) (lb:=#[.pointer (some ⟨w4.heap.size+1,0,none⟩)]) rfl trivial (enters_of Try.func97 (by kernel_rfl) rfl)
   (back_stops Fence.wide _ trivial rfl (by omega) (w4.heap.size+1) w4.heap.size s.more M mc (by omega) W0 (by omega) (by omega) hbxs.cell (H4.out.moreLt.below hb40)) BackKp.trans (fun W lp o o'=>back_keeps (by omega) W lp o o') (Below.refl _ _) (fun _=>rfl)
   (fun pre W=>PolC w4 b3 w4.heap.size (w4.heap.size+1) at_ (sd.seen at_ pre s.next) (.slice M s.more.length mc) W)
   (fun _ _ _=>False)
   (fun pre W W' row hs hg hr=>hs.kept hg (fun r e=>⟨by have:=(hr r e).1;omega,(hr r e).2⟩))
   (fun _ _ _ _ _ hs _ _=>hs)
   ⟨hb40,hbx3,hbx4,hbxs,by omega,by omega,by omega⟩
   (fun x a' W=>∃ Bx,(Bx≠w4.heap.size∧Bx≠b3∧Bx≠w4.heap.size+1)∧W.heap[Bx]? = some (.cells #[.int .i64 x.2.lo,.int .i64 x.2.hi] 78)∧a'={ tmps:=#[.pointer (some ⟨F,0,none⟩),undef,.pointer (some ⟨w.heap.size,0,none⟩),.pointer (some ⟨b3,0,none⟩),.pointer (some ⟨w4.heap.size,0,none⟩),undef,.pointer (some ⟨Bx,0,none⟩),undef,undef,undef,u10,u11,u12,u13,u14,u15,u16,u17,u18,u19,u20,u21,u22,u23,u24,.bool true,.pointer (some ⟨F,0,none⟩),.pointer (some ⟨F,0,none⟩),.pointer (some ⟨F,4,none⟩),.int .i64 s.next,.pointer (some ⟨F,0,none⟩),.pointer (some ⟨F,0,none⟩),.pointer (some ⟨F,3,none⟩),.slice M s.more.length mc,.func (.func 97) #[] #[.pointer (some ⟨w4.heap.size+1,0,none⟩)],.int .i64 x.1,.agg #[.int .i64 x.2.lo,.int .i64 x.2.hi],undef,undef,undef,undef,undef,undef,undef,undef,undef,undef,undef,undef,undef,undef,undef,undef,undef,undef,undef,undef,undef,undef,undef,undef,undef,undef,undef,undef,undef,undef,undef,undef,undef,undef,undef,undef,undef,undef,undef,undef,undef,undef,undef,undef,undef,undef,undef,undef,undef,undef,undef,undef,undef],defers:=[] })
   (fun x a' _ X Y row hs hg hr=>by
    obtain ⟨Bx,h1,h2,h3⟩:=hs
    refine ⟨Bx,h1,(hg.block Bx (Array.getElem?_eq_some_iff.1 h2).1 (fun e=>?_)).trans h2,h3⟩
    obtain ⟨_,o,ho,hc⟩:=hr Bx e.symm
    rw [h2] at ho
    cases ho
    cases hc)
   ?assign ?body ?done ?stop
  case assign=>
   rintro lp pre x W K hS hK
   gi_wp2
   exact hK _ _ ((KeepsOthers.alloc _ _).from _) ⟨(Below.refl _ W).alloc hS.low.size _,fun v hv=>((balloc (bself W) _).cell (p:=⟨w4.heap.size+1,0,none⟩) hS.bs.lt).trans hv⟩ (hS.alloc _) ⟨W.heap.size,⟨by have:=hS.box4.lt;omega,by have:=hS.box3.lt;omega,by have:=hS.bs.lt;omega⟩,World.alloc_heap_new _ _,rfl⟩
  case body=>
   rintro lp pre ⟨xi,⟨x,y⟩⟩ a' W _ ⟨r,hr⟩ hS ⟨Bx,hBx,hX,rfl⟩ hlt
   dsimp only at hX ⊢
   have x0:W.cell? ⟨Bx,0,none⟩=some (.int .i64 x):=by simp [World.cell?,hX]
   have y0:=hS.box3.cell
   have y1:=hS.box4.cell
   have z1:=hS.box4.frozen
   have HSN:=Lib.hid (sd.seen_snoc at_ pre (xi,(⟨x,y⟩:Rng)) s.next)
   have HS:=Lib.hid hS
   clear hS hX
   by_cases h1:at_<x
   ·have h1':x > at_:=h1
    gi_wp2
    exact ⟨(KeepsOthers.setCell _ _ _).from _,⟨(Below.refl _ _).setCell (p:=⟨w4.heap.size,0,none⟩) HS.out.ne.2.2 _,fun v hv=>by rw [HS.out.bs.cell] at hv;cases hv;exact (HS.out.step x).bs.cell⟩,by dsimp only;rw [HSN.out,if_pos h1];exact HS.out.step x⟩
   ·have h1':¬ x > at_:=h1
    gi_wp2
    exact ⟨(KeepsOthers.refl _).from _,⟨Below.refl _ _,fun v hv=>hv⟩,by dsimp only;rw [HSN.out,if_neg (show ¬ at_<x by omega)];exact HS.out⟩
  case done=>
   rintro D' ys W hD rfl hS hK
   rw [sd.seen_all] at hS
   obtain ⟨tt,htt⟩:∃ tt,tt=sd.ahead s.more at_ s.next:=⟨_,rfl⟩
   rw [← htt] at hS
   have hfo:=HFO.out
   have hnc:¬ had.cov s.more at_:=fun e=>hfo.2.2.2 HNEW.out (.inr e)
   obtain ⟨k1,k2,_,_⟩:=sd.ahead_ok HI.out.canon hnc HNEW.out HI.out.hi
   rw [← htt] at k1 k2
   have hen2:sd.endOf s≤s.data.length+1:=by unfold sd.endOf;have:=sd.fin1_le s.closed;omega
   have HTT:=Lib.hid htt
   have y3:=hS.box3.cell
   have y4:=hS.box4.cell
   have hw4:w4.heap.size≤W.heap.size:=hS.low.size
   have H5:=Lib.hid (H4.out.next hS.low)
   have HR5:=Lib.hid (HR4.out.next hS.low)
   have HB05:Hid (Below w.heap.size w W):=Lib.hid (HB04.out.trans (hS.low.mono HB04.out.size))
   have hF5:=H5.out.blk.lt
   have hR5:=HR5.out.lt
   have HDK:=Lib.hid hK
   have hDl:D'<W.heap.size:=(Array.getElem?_eq_some_iff.1 hK).1
   clear hS hfo hnc htt hK x3 b4 c3 hbx3 hbx4 hbxs hB40
   have HPC:=Lib.hid (send_piece B F s D dc M mc at_ tt W H5.out HI.out (by omega) k1 (by omega) (by omega))
   have hal:=sd.after_piece (s:=s) (f:=at_) (t:=tt) (by omega) k1 (by omega) (by omega)
   have hpf:(sd.piece s at_ tt).from_=at_:=rfl
   have hpi:(sd.piece s at_ tt).again=false∧(sd.piece s at_ tt).idle=false∧(sd.piece s at_ tt).code=0∧(sd.piece s at_ tt).left=0:=⟨rfl,rfl,rfl,rfl⟩
   have hpd:=sd.piece_len s at_ tt (by omega) k1 (by omega)
   have HPQ:Hid (sd.poll s=({ sd.piece s at_ tt with again:=true },{ s with again:=sd.after (sd.piece s at_ tt) })):=Lib.hid (by
    unfold sd.poll
    simp only
    rw [← HAT.out,if_pos HNEW.out,← HTT.out])
   have hpd64:(sd.piece s at_ tt).data.length≤64:=by omega
   generalize sd.piece s at_ tt=pc at *
   obtain ⟨xc,xf,xd,xn,xa,xi,xl⟩:=pc
   simp only at hpf hpi hpd64 HPC HPQ
   obtain ⟨rfl,rfl,rfl,rfl⟩:=hpi
   subst hpf
   have HAF:=Lib.hid (fun (G:Option Addr) (gc:Nat) wz=>send_after ⟨0,xf,xd,xn,false,false,0⟩ G gc F wz ⟨by simp only;omega,by simp only;omega⟩ hpd64)
   simp only at HAF
   obtain ⟨av,hav⟩:∃ av,sd.after ⟨0,xf,xd,xn,false,false,0⟩=av:=⟨_,rfl⟩
   rw [hav] at HAF HPQ hal
   have havb:0≤av∧av≤1048576:=by omega
   clear hav hpd hal
   go_wp2_with (first
    | (go_at_call 81;((with_reducible refine HPC.out.mono ?_);rintro e w6 ⟨E,ec,rfl,hE,hb6⟩;have HE:=Lib.hid hE;have HB6:=Lib.hid hb6;clear hE hb6))
    | fail)
   refine (HAF.out E ec _).mono ?_
   rintro e w7 ⟨rfl,hb7⟩
   have B7:Below W.heap.size W w7:=bnext (balloc HB6.out _) hb7
   have s7:=H5.out.next B7
   have d5:=s7.blk.get 5
   have f5:=s7.blk.frozen 5
   simp only [List.getElem?_toArray,List.getElem?_cons_succ,List.getElem?_cons_zero] at d5
   have r7:=HR5.out.next B7
   have tc:=r7.get
   have tf:=r7.frozen
   have hq7:=after_alloc hb7
   have uc:=hq7.1.get
   have uf:=hq7.1.frozen
   have h56:=HB6.out.size
   have hn1:F≠w6.heap.size:=by omega
   have hn2:w.heap.size≠w6.heap.size:=by omega
   have hn3:F≠w.heap.size:=by omega
   have hn4:w6.heap.size≠F:=by omega
   have hn5:w6.heap.size≠w.heap.size:=by omega
   have hn6:w.heap.size≠F:=by omega
   have HE7:=Lib.hid ((HE.out.alloc (.cells #[.int .i64 0,.int .i64 xf,.slice E xd.length ec,.bool xn,.bool false,.bool false,.int .i64 0] 49)).next hb7)
   have S7:=Lib.hid s7
   have HR7:=Lib.hid r7
   have HBB7:=Lib.hid B7
   have hl7:=hq7.2
   have HD7:Hid (w7.heap[D']? = some (.deferred (some []))):=Lib.hid ((B7.block D' hDl).trans HDK.out)
   clear s7 r7 hq7 hb7 B7
   have HEND:Hid (∀ wx,Stays ((w7.setCell ⟨w6.heap.size,4,none⟩ (.bool true)).setCell ⟨F,5,none⟩ (.int .i64 av)) wx (fun k=>k=w.heap.size∨k=D')→PollRes w B F (sd.poll s).1 (sd.poll s).2 D dc M mc (.returned (.agg #[.int .i64 0,.int .i64 xf,.slice E xd.length ec,.bool xn,.bool true,.bool false,.int .i64 0])) wx):=Lib.hid (fun wx hs=>by
    rw [HPQ.out]
    have hlt2:=HE7.out.lt
    have hD2:W0.heap.size≤D':=hD
    have hlt4:∀ k,HF F D M s.more k→k<w.heap.size:=fun k hk=>(H.out.hf_lt hk).2
    have st0:Stays w7 (w7.setCell ⟨w6.heap.size,4,none⟩ (.bool true)) (fun k=>k=w6.heap.size):=Stays.set _ _ _ _
    have s8:=(S7.out.stays st0 (fun k hk e=>by have:=hlt4 k hk;omega)).putAgain av
    have st:Stays w7 wx (fun k=>(k=w6.heap.size∨k=F)∨(k=w.heap.size∨k=D')):=((st0.mono fun k _ e=>.inl (.inl e)).comp ((Stays.set _ F 5 (.int .i64 av)).mono fun k _ e=>.inl (.inr e))).comp (hs.mono fun k _ e=>.inr e)
    refine ⟨E,ec,rfl,?_,s8.stays hs (fun k hk e=>by have:=hlt4 k hk;omega),((Stays.of_below (HB05.out.trans (HBB7.out.mono HB05.out.size)) _).trans st (fun k hk e=>by omega))⟩
    refine (HE7.out.base_le HB05.out.size).stays st (fun k hk e=>?_)
    have h1:=(hlt2 k hk).1
    have h2:=(HE.out.lt k hk).2
    omega)
   go_wp2
   have hDF:D'≠F:=by have:=HB04.out.size;omega
   have hDR:D'≠w.heap.size:=by omega
   have hD6:D'≠w6.heap.size:=by omega
   have hW8:((w7.setCell ⟨w6.heap.size,4,none⟩ (.bool true)).setCell ⟨F,5,none⟩ (.int .i64 av)).heap[D']? = some (.deferred (some [])):=((Below.heap_setCell _ _ _ D' hDF).trans (Below.heap_setCell _ _ _ D' hD6)).trans HD7.out
   have hb8:=(HR7.out.setCell (p:=⟨w6.heap.size,4,none⟩) (by simp only;omega) (.bool true)).setCell (p:=⟨F,5,none⟩) (by simp only;omega) (.int .i64 av)
   obtain ⟨w8,hw8⟩:∃ w8,w8=(w7.setCell ⟨w6.heap.size,4,none⟩ (.bool true)).setCell ⟨F,5,none⟩ (.int .i64 av):=⟨_,rfl⟩
   rw [← hw8] at hW8 hb8 ⊢
   have hb9:=hb8.seven (.int .i64 0) (.int .i64 xf) (.slice E xd.length ec) (.bool xn) (.bool true) (.bool false) (.int .i64 0)
   have st9:=Stays.seven w8 w.heap.size (.int .i64 0) (.int .i64 xf) (.slice E xd.length ec) (.bool xn) (.bool true) (.bool false) (.int .i64 0)
   have hK9:=(st9.block D' (Array.getElem?_eq_some_iff.1 hW8).1 hDR).trans hW8
   rw [hw8] at st9 hb9 hK9 ⊢
   refine ⟨by simp,.inl ⟨_,_,rfl,run_takeDeferred hK9,?_⟩⟩
   have st10:=Stays.grown (grownBy_putObj' (((((((((w7.setCell ⟨w6.heap.size,4,none⟩ (.bool true)).setCell ⟨F,5,none⟩ (.int .i64 av)).setCell ⟨w.heap.size,0,none⟩ (.int .i64 0)).setCell ⟨w.heap.size,1,none⟩ (.int .i64 xf)).setCell ⟨w.heap.size,2,none⟩ (.slice E xd.length ec)).setCell ⟨w.heap.size,3,none⟩ (.bool xn)).setCell ⟨w.heap.size,4,none⟩ (.bool true)).setCell ⟨w.heap.size,5,none⟩ (.bool false)).setCell ⟨w.heap.size,6,none⟩ (.int .i64 0)) D' (.deferred none))
   have hb10:=hb9.stays st10 (fun e=>hDR e.symm)
   have rc:=hb10.get
   refine ⟨.agg #[.int .i64 0,.int .i64 xf,.slice E xd.length ec,.bool xn,.bool true,.bool false,.int .i64 0],?_,HEND.out _ ((st9.mono fun k _ e=>.inl e).comp (st10.mono fun k _ e=>.inr e))⟩
   simp [results,Try.results49,go_sem,rc]
  case stop=>
   rintro D' c pre W _ _ hF _
   exact hF.elim
theorem send_poll (h:SAt w B F s D dc M mc) (hi:sd.Inv s) :
  Calls Try.prog 49 #[.pointer (some ⟨F,0,none⟩)] w (PollRes w B F (sd.poll s).1 (sd.poll s).2 D dc M mc):=by
 by_cases hl:sd.first s s.again s.next<s.next
 ·exact send_poll_again B F s D dc M mc w h hi hl
 ·exact send_poll_new B F s D dc M mc w h hi hl
end
end Go.Proofs.Ytdldfllllgogoaa
namespace Go.Proofs.Ytdldfllllgogoaa
open Go.RowKit
set_option linter.unusedSimpArgs false
def SentRes (w:World) (B F:Nat) (l:List Rng) (r:Sent × sd.St) (D M:Option Addr) (e:Ending) (w':World):Prop:=
 ∃ cs D1 dc1 M1 mc1,e=.returned (.agg cs.toArray)∧Sent.rep.rep w' (fun k=>w.heap.size≤k∧k<w'.heap.size∧¬ HF F D1 M1 r.2.more k) r.1 cs∧SAt w' B F r.2 D1 dc1 M1 mc1∧Stays w w' (HF F D M l)∧∀ k,HF F D1 M1 r.2.more k→HF F D M l k∨w.heap.size≤k
/-- behind the switch of Do -/
structure SMid (w wx:World) (B F:Nat) (l:List Rng) (D M:Option Addr) (dt:List UInt8) (s':sd.St) (D1:Option Addr) (dc1:Nat) (M1:Option Addr) (mc1:Nat) (E:Option Addr) (ec:Nat) (bx:Array Value):Prop where
 lt:∀ k,HF F D M l k→k<w.heap.size
 at_:SAt wx B F s' D1 dc1 M1 mc1
 box:BlkA wx (w.heap.size+1+1) 49 bx
 res:BlkA wx (w.heap.size+1) 49 #[.int .i64 0,.int .i64 0,.slice none 0 0,.bool false,.bool false,.bool false,.int .i64 0]
 own:Own wx (w.heap.size+1+1+1) 5 1 E dt.length ec (dt.map rv.u8v)
 far:∀ k,blkOf E=some k→¬ HF F D1 M1 s'.more k
 stay:Stays w wx (HF F D M l)
 nm:∀ k,HF F D1 M1 s'.more k→HF F D M l k∨w.heap.size+1+1+1≤k
section
variable {w wx wy:World} {B F:Nat} {l:List Rng} {D M:Option Addr} {dt:List UInt8} {s':sd.St} {D1:Option Addr} {dc1:Nat} {M1:Option Addr} {mc1:Nat} {E:Option Addr} {ec:Nat} {bx bx':Array Value}
theorem SMid.nohf (h:SMid w wx B F l D M dt s' D1 dc1 M1 mc1 E ec bx) {k:Nat} (hk:HF F D1 M1 s'.more k):k≠w.heap.size+1+1∧k≠w.heap.size+1:=by
 rcases h.nm k hk with e | e
 ·have:=h.lt k e;omega
 ·omega
theorem SMid.touch (h:SMid w wx B F l D M dt s' D1 dc1 M1 mc1 E ec bx) (hs:Stays wx wy (fun k=>k=w.heap.size+1+1)) (hb:BlkA wy (w.heap.size+1+1) 49 bx'):SMid w wy B F l D M dt s' D1 dc1 M1 mc1 E ec bx':=
 ⟨h.lt,h.at_.stays hs (fun k hk e=>(h.nohf hk).1 e),hb,h.res.stays hs (fun e=>by omega),h.own.stays hs (fun k hk e=>by have:=(h.own.lt k hk).1;omega),h.far,h.stay.trans hs (fun k hk e=>by omega),h.nm⟩
end
theorem sd.poll_form (s:sd.St):(sd.poll s).1.code=0∧(sd.poll s).1.left=0∧(sd.poll s).2.more=s.more:=by
 unfold sd.poll
 simp only
 split
 ·exact ⟨rfl,rfl,rfl⟩
 ·split
  ·exact ⟨rfl,rfl,rfl⟩
  ·exact ⟨rfl,rfl,rfl⟩
theorem SMid.snd {w w3 w4:World} {B F:Nat} {l:List Rng} {D M:Option Addr} {r:sd.St} {D1:Option Addr} {dc1:Nat} {M1:Option Addr} {mc1:Nat} (hb:Below w.heap.size w w3) (hs3:w3.heap.size=w.heap.size+1+1+1) (hr:BlkA w3 (w.heap.size+1) 49 #[.int .i64 0,.int .i64 0,.slice none 0 0,.bool false,.bool false,.bool false,.int .i64 0]) (ht:BlkA w3 (w.heap.size+1+1) 49 #[.int .i64 0,.int .i64 0,.slice none 0 0,.bool false,.bool false,.bool false,.int .i64 0]) (hlt:∀ k,HF F D M l k→k<w.heap.size) (q1:SAt w4 B F r D1 dc1 M1 mc1) (q2:Stays w3 w4 (HF F D M l)) (q3:∀ k,HF F D1 M1 r.more k→HF F D M l k∨w3.heap.size≤k) :
  SMid w w4 B F l D M [] r D1 dc1 M1 mc1 none 0 #[.int .i64 0,.int .i64 0,.slice none 0 0,.bool false,.bool false,.bool false,.int .i64 0]:=
 ⟨hlt,q1,ht.stays q2 (fun e=>by have:=hlt _ e;omega),hr.stays q2 (fun e=>by have:=hlt _ e;omega),Own.nil _ _ _ _,fun k hk=>(by cases hk),(Stays.of_below hb _).trans q2 (fun k hk e=>e),fun k hk=>(q3 k hk).imp id (fun e=>by omega)⟩
section
variable (B F:Nat) (s:sd.St) (D:Option Addr) (dc:Nat) (M:Option Addr) (mc:Nat) (d:Deed) (G:Option Addr) (gc:Nat) (R:Option Addr) (rc:Nat) (w:World)
set_option maxRecDepth 100000 in
set_option maxHeartbeats 4000000 in
theorem send_Do (h:SAt w B F s D dc M mc) (hi:sd.Inv s) (hG:SlRep Rep.u8 w (· < w.heap.size) d.data G gc) (hR:SlRep Rng.rep w (· < w.heap.size) d.sacks R rc) (ha:IntOk d.ack) (hwn:IntOk d.window) (hd:d.data.length≤140737488351232) (hds:d.sacks.length≤140737488351232) :
  Calls Try.prog 25 #[.pointer (some ⟨F,0,none⟩),.agg #[.int .i64 d.kind,.slice G d.data.length gc,.int .i64 d.ack,.int .i64 d.window,.slice R d.sacks.length rc]] w (SentRes w B F s.more (sd.doIt s d) D M):=by
 obtain ⟨dk,dd,da,dw,ds⟩:=d
 simp only at hG hR ha hwn hd hds ⊢
 have H:=Lib.hid h
 have HI:=Lib.hid hi
 have hFl:=h.blk.lt
 have HLT:=Lib.hid (fun k=>h.hf_lt (k:=k))
 obtain ⟨ca,hca⟩:∃ ca:Array Value,ca = #[.int .i64 dk,.slice G dd.length gc,.int .i64 da,.int .i64 dw,.slice R ds.length rc]:=⟨_,rfl⟩
 obtain ⟨zt,hzt⟩:∃ zt:Array Value,zt = #[.int .i64 0,.int .i64 0,.slice none 0 0,.bool false,.bool false,.bool false,.int .i64 0]:=⟨_,rfl⟩
 obtain ⟨w3,hw3⟩:∃ w3,w3=((w.alloc (.cells ca 82)).alloc (.cells zt 49)).alloc (.cells zt 49):=⟨_,rfl⟩
 have hb3:Below w.heap.size w w3:=by rw [hw3];exact balloc (balloc (balloc (bself w) _) _) _
 have hs3:w3.heap.size=w.heap.size+1+1+1:=by rw [hw3];simp
 have hA3:BlkA w3 w.heap.size 82 ca:=by rw [hw3];exact ((BlkA.new w 82 _).alloc _).alloc _
 have hR3:BlkA w3 (w.heap.size+1) 49 zt:=by
  rw [hw3]
  have h:=(BlkA.new (w.alloc (.cells ca 82)) 49 zt).alloc (.cells zt 49)
  simpa using h
 have hT3:BlkA w3 (w.heap.size+1+1) 49 zt:=by
  rw [hw3]
  have h:=BlkA.new ((w.alloc (.cells ca 82)).alloc (.cells zt 49)) 49 zt
  simpa using h
 have h3:=h.next hb3
 have HSU:=Lib.hid (send_submit B F s D dc M mc dd G gc (· < w3.heap.size) w3 h3 hi (hG.next hb3) hd)
 have HHE:=Lib.hid (send_heard B F s D dc M mc ⟨dk,dd,da,dw,ds⟩ G gc R rc w3 h3 hi (hR.next hb3) ha hwn hds)
 have HTI:=Lib.hid (send_timeout B F s D dc M mc w3 h3 hi)
 have HPO:=Lib.hid (send_poll B F s D dc M mc w3 h3 hi)
 simp only at HHE
 subst hca hzt
 have HB3:=Lib.hid hb3
 have HS3:=Lib.hid hs3
 have HA3:=Lib.hid hA3
 have HR3:=Lib.hid hR3
 have HT3:=Lib.hid hT3
 have H3:=Lib.hid h3
 have HIN:=Lib.hid (hi.step ⟨dk,dd,da,dw,ds⟩)
 have y0:=hA3.get 0
 have y1:=hA3.get 1
 have y2:=hA3.get 2
 have y3:=hA3.get 3
 have y4:=hA3.get 4
 simp only [List.getElem?_toArray,List.getElem?_cons_succ,List.getElem?_cons_zero] at y0 y1 y2 y3 y4
 clear h hi hG hR hA3 hR3 hT3 h3 hb3
 go_enter Try.func25,Try.ntmps25
 go_upto_region 2 with (fail)
 rw [← hw3]
 clear hw3
 go_upto_block 0 with (fail)
 go_cut [] (fun wx=>∃ c f dt b1 b2 b3 s' D1 dc1 M1 mc1 E ec,Hid (sd.step s ⟨dk,dd,da,dw,ds⟩=(⟨c,f,dt,b1,b2,b3,0⟩,s'))∧Hid (SMid w wx B F s.more D M dt s' D1 dc1 M1 mc1 E ec #[.int .i64 c,.int .i64 f,.slice E (List.length dt) ec,.bool b1,.bool b2,.bool b3,.int .i64 0]))
 case first=>
  by_cases k1:dk=1
  ·subst k1
   have HST:Hid (sd.step s ⟨1,dd,da,dw,ds⟩=(sd.coded (sd.submit s dd).1,(sd.submit s dd).2)):=Lib.hid (by unfold sd.step;rw [if_pos rfl])
   generalize sd.submit s dd=rs at *
   go_wp2_with (first
    | (go_at_call 46;((with_reducible refine HSU.out.mono ?_);rintro e w4 ⟨D1,dc1,M1,mc1,rfl,q1,q2,q3⟩;have HM:=Lib.hid (SMid.snd HB3.out HS3.out HR3.out HT3.out (fun k hk=>(HLT.out k hk).2) q1 q2 q3);have zd:=HM.out.box.get;have ze:=HM.out.box.frozen;clear q1 q2 q3))
    | fail)
   go_meet
   exact ⟨rs.1,0,[],false,false,false,rs.2,D1,dc1,M1,mc1,none,0,HST,Lib.hid (HM.out.touch (Stays.set _ _ _ _) (by simpa using HM.out.box.set 0 (.int .i64 rs.1)))⟩
  have e1:(dk == 1)=false:=by simpa using k1
  by_cases k5:dk=5
  ·subst k5
   have HM0:=Lib.hid (SMid.snd HB3.out HS3.out HR3.out HT3.out (fun k hk=>(HLT.out k hk).2) H3.out (Stays.refl _ _) (fun k hk=>.inl hk))
   have zd:=HM0.out.box.get
   have ze:=HM0.out.box.frozen
   have c1:=H3.out.blk.get 1
   have f1:=H3.out.blk.frozen 1
   simp only [List.getElem?_toArray,List.getElem?_cons_succ,List.getElem?_cons_zero] at c1
   have hF3:=H3.out.blk.lt
   have n1:F≠w.heap.size+1+1:=by omega
   have n2:w.heap.size+1+1≠F:=by omega
   cases hc:s.closed with
   | true=>
    have HST:Hid (sd.step s ⟨5,dd,da,dw,ds⟩=(sd.coded 10,s)):=Lib.hid (by unfold sd.step;rw [if_neg (by simp),if_pos rfl,if_pos hc])
    have HSC:Hid (s={ s with closed:=true }):=Lib.hid (by rw [← hc])
    rw [hc] at c1
    clear hc HSU HHE HTI HPO
    go_wp2
    go_meet
    refine ⟨10,0,[],false,false,false,s,D,dc,M,mc,none,0,HST,Lib.hid ?_⟩
    have h1:=HM0.out.touch (bx':=#[.int .i64 10,.int .i64 0,.slice none 0 0,.bool false,.bool false,.bool false,.int .i64 0]) (Stays.set w3 (w.heap.size+1+1) 0 (.int .i64 10)) (by simpa using HM0.out.box.set 0 (.int .i64 10))
    have h2:=h1.at_.putClosed true
    rw [← HSC.out] at h2
    have st:=Stays.set (w3.setCell ⟨w.heap.size+1+1,0,none⟩ (.int .i64 10)) F 1 (.bool true)
    exact ⟨h1.lt,h2,h1.box.stays st (fun e=>by omega),h1.res.stays st (fun e=>by omega),Own.nil _ _ _ _,h1.far,h1.stay.trans st (fun k hk e=>.inl e),h1.nm⟩
   | false=>
    have HST:Hid (sd.step s ⟨5,dd,da,dw,ds⟩=(sd.coded 0,{ s with closed:=true })):=Lib.hid (by unfold sd.step;rw [if_neg (by simp),if_pos rfl,if_neg (by rw [hc];decide)])
    rw [hc] at c1
    clear hc HSU HHE HTI HPO
    go_wp2
    go_meet
    refine ⟨0,0,[],false,false,false,{ s with closed:=true },D,dc,M,mc,none,0,HST,Lib.hid ?_⟩
    have h1:=HM0.out
    have st:=Stays.set w3 F 1 (.bool true)
    exact ⟨h1.lt,h1.at_.putClosed true,h1.box.stays st (fun e=>by omega),h1.res.stays st (fun e=>by omega),Own.nil _ _ _ _,h1.far,h1.stay.trans st (fun k hk e=>.inl e),h1.nm⟩
  have e5:(dk == 5)=false:=by simpa using k5
  by_cases k2:dk=2
  ·subst k2
   have HST:Hid (sd.step s ⟨2,dd,da,dw,ds⟩=(sd.coded (sd.heard s ⟨2,dd,da,dw,ds⟩).1,(sd.heard s ⟨2,dd,da,dw,ds⟩).2)):=Lib.hid (by unfold sd.step;rw [if_neg (by simp),if_neg (by simp),if_pos rfl])
   generalize sd.heard s ⟨2,dd,da,dw,ds⟩=rs at *
   go_wp2_with (first
    | (go_at_call 47;((with_reducible refine HHE.out.mono ?_);rintro e w4 ⟨D1,dc1,M1,mc1,rfl,q1,q2,q3⟩;have HM:=Lib.hid (SMid.snd HB3.out HS3.out HR3.out HT3.out (fun k hk=>(HLT.out k hk).2) q1 q2 q3);have zd:=HM.out.box.get;have ze:=HM.out.box.frozen;clear q1 q2 q3))
    | fail)
   go_meet
   exact ⟨rs.1,0,[],false,false,false,rs.2,D1,dc1,M1,mc1,none,0,HST,Lib.hid (HM.out.touch (Stays.set _ _ _ _) (by simpa using HM.out.box.set 0 (.int .i64 rs.1)))⟩
  have e2:(dk == 2)=false:=by simpa using k2
  by_cases k4:dk=4
  ·subst k4
   have HST:Hid (sd.step s ⟨4,dd,da,dw,ds⟩=(sd.coded 0,sd.timeout s)):=Lib.hid (by unfold sd.step;rw [if_neg (by simp),if_neg (by simp),if_neg (by simp),if_pos rfl])
   go_wp2_with (first
    | (go_at_call 48;((with_reducible refine HTI.out.mono ?_);rintro e w4 ⟨rfl,q1,q2⟩;have HM:=Lib.hid (SMid.snd HB3.out HS3.out HR3.out HT3.out (fun k hk=>(HLT.out k hk).2) q1 (q2.mono fun k _ e=>.inl e) (fun k hk=>.inl hk));clear q1 q2))
    | fail)
   go_meet
   exact ⟨0,0,[],false,false,false,sd.timeout s,D,dc,M,mc,none,0,HST,HM⟩
  have e4:(dk == 4)=false:=by simpa using k4
  by_cases k3:dk=3
  ·subst k3
   have HST:Hid (sd.step s ⟨3,dd,da,dw,ds⟩=sd.poll s):=Lib.hid (by unfold sd.step;rw [if_neg (by simp),if_neg (by simp),if_neg (by simp),if_neg (by simp),if_pos rfl])
   obtain ⟨f1,f2,f3⟩:=sd.poll_form s
   have HF3:=Lib.hid f3
   obtain ⟨pp,hpp⟩:∃ pp,pp=(sd.poll s).1:=⟨_,rfl⟩
   obtain ⟨ps,hps⟩:∃ ps,ps=(sd.poll s).2:=⟨_,rfl⟩
   have HPP:Hid (sd.step s ⟨3,dd,da,dw,ds⟩=(pp,ps)):=Lib.hid (by rw [HST.out,hpp,hps])
   rw [← hpp] at f1 f2 HPO
   rw [← hps] at HPO HF3
   obtain ⟨pc,pf,pd,pn,pa,pi,pl⟩:=pp
   try simp only at f1 f2
   subst f1 f2
   try simp only at HPO
   clear hpp hps f3 HST
   go_wp2_with (first
    | (go_at_call 49;((with_reducible refine HPO.out.mono ?_);rintro e w4 ⟨E,ec,rfl,q0,q1,q2⟩;have Q0:=Lib.hid q0;have Q1:=Lib.hid q1;have Q2:=Lib.hid q2;have z2:=HT3.out.stays q2 (fun e=>by omega);have zd:=z2.get;have ze:=z2.frozen;clear q0 q1 q2))
    | fail)
   go_meet
   have hhf:∀ k,HF F D M ps.more k→k<w.heap.size:=fun k hk=>(HLT.out k (by rw [HF3.out] at hk;exact hk)).2
   have hlt1:=Q0.out.lt
   have hz:=HS3.out
   have st:=Stays.seven w4 (w.heap.size+1+1) (.int .i64 0) (.int .i64 pf) (.slice E pd.length ec) (.bool pn) (.bool pa) (.bool pi) (.int .i64 0)
   refine ⟨0,pf,pd,pn,pa,pi,ps,D,dc,M,mc,E,ec,HPP,Lib.hid ⟨fun k hk=>(HLT.out k hk).2,Q1.out.stays st (fun k hk e=>by have:=hhf k hk;omega),z2.seven _ _ _ _ _ _ _,(HR3.out.stays Q2.out (fun e=>by omega)).stays st (fun e=>by omega),?_,fun k hk e=>by have:=hhf k e;have:=(hlt1 k hk).1;omega,?_,fun k hk=>.inl (by rw [HF3.out] at hk;exact hk)⟩⟩
   ·have h:=Q0.out.stays st (fun k hk e=>by have:=(hlt1 k hk).1;omega)
    rw [hz] at h
    exact h
   ·exact (((Stays.of_below HB3.out _).trans (Q2.out.mono fun k _ e=>.inl e) (fun k hk e=>e))).trans st (fun k hk e=>by omega)
  have e3:(dk == 3)=false:=by simpa using k3
  have HST:Hid (sd.step s ⟨dk,dd,da,dw,ds⟩=(sd.coded 3,s)):=Lib.hid (by unfold sd.step;rw [if_neg k1,if_neg k5,if_neg k2,if_neg k4,if_neg k3])
  have HM0:=Lib.hid (SMid.snd HB3.out HS3.out HR3.out HT3.out (fun k hk=>(HLT.out k hk).2) H3.out (Stays.refl _ _) (fun k hk=>.inl hk))
  have zd:=HM0.out.box.get
  have ze:=HM0.out.box.frozen
  clear HSU HHE HTI HPO
  go_wp2
  go_meet
  exact ⟨3,0,[],false,false,false,s,D,dc,M,mc,none,0,HST,Lib.hid (HM0.out.touch (Stays.set _ _ _ _) (by simpa using HM0.out.box.set 0 (.int .i64 3)))⟩
 case rest=>
  obtain ⟨c,f,dt,b1,b2,b3,s',D1,dc1,M1,mc1,E,ec,HST,HM⟩:=hcut
  rename World=>w5
  have hI2:=HIN.out
  rw [HST.out] at hI2
  simp only at hI2
  have hb5:=HM.out.box.lt
  have hr5:=HM.out.res.lt
  have HLE:=Lib.hid (send_Left B F s' D1 dc1 M1 mc1 w5 HM.out.at_ hI2)
  clear HIN hI2 HSU HHE HTI HPO y0 y1 y2 y3 y4
  have HFIN:Hid (∀ wx w8,Below w5.heap.size w5 w8→Stays w8 wx (fun k=>k=w.heap.size+1+1∨k=w.heap.size+1)→SentRes w B F s.more (sd.doIt s ⟨dk,dd,da,dw,ds⟩) D M (.returned (.agg #[.int .i64 c,.int .i64 f,.slice E dt.length ec,.bool b1,.bool b2,.bool b3,.int .i64 (sd.leftOf s')])) wx):=Lib.hid (fun wx w8 hb8 hs=>by
   unfold sd.doIt
   rw [HST.out]
   simp only
   have hlt:=HM.out.own.lt
   have hd:=((HM.out.own.next hb8).stays hs (fun k hk e=>by have:=(hlt k hk).1;omega))
   refine ⟨[.int .i64 c,.int .i64 f,.slice E dt.length ec,.bool b1,.bool b2,.bool b3,.int .i64 (sd.leftOf s')],D1,dc1,M1,mc1,rfl,Sent.rep_iff.2 ⟨E,ec,rfl,?_⟩,(HM.out.at_.next hb8).stays hs (fun k hk e=>?_),(HM.out.stay.comp (Stays.of_below hb8 _)).trans hs (fun k hk e=>by omega),fun k hk=>(HM.out.nm k hk).imp id (fun e=>by omega)⟩
   ·exact ((Own.u8 hd).2.tight flat_u8).keep fun k hk=>⟨⟨by have:=(hlt k hk).1;omega,(hd.lt k hk).2,HM.out.far k hk⟩,rfl⟩
   ·have h2:=HM.out.nohf hk
    rcases e with e | e
    ·exact h2.1 e
    ·exact h2.2 e)
  go_wp2_with (first
   | (go_at_call 50;((with_reducible refine HLE.out.mono ?_);rintro e w8 ⟨rfl,hb8⟩;have b8:=HM.out.box.next hb8;have tc:=b8.get;have tf:=b8.frozen;have b9:=HM.out.res.next hb8;have uc:=b9.get;have uf:=b9.frozen;have HB8:=Lib.hid hb8;clear hb8 b8 b9))
   | fail)
  refine bodyPost_ret (v:=.agg #[.int .i64 c,.int .i64 f,.slice E dt.length ec,.bool b1,.bool b2,.bool b3,.int .i64 (sd.leftOf s')]) (by simp [results,Try.results25,go_sem, *]) rfl (HFIN.out _ w8 HB8.out ?_)
  exact ((Stays.set _ _ _ _).mono fun k _ hk=>.inl hk).comp ((Stays.seven _ _ _ _ _ _ _ _ _).mono fun k _ hk=>.inr hk)
end
end Go.Proofs.Ytdldfllllgogoaa
namespace Go.Proofs.Ytdldfllllgogoaa
open Go.RowKit
def RowsRes {α:Type} (R:Rep α) (r:Except Int (List α)) (w:World) (e:Ending) (w':World):Prop:=
 ∃ A c,e=.returned (.tuple #[.slice A (exL r).length c,.int .i64 (exC r)])∧SlRep R w' (fun k=>w.heap.size≤k∧k<w'.heap.size) (exL r) A c∧Below w.heap.size w w'
theorem RowsRes.no {α:Type} {R:Rep α} {r:Except Int (List α)} {c:Int} (h:r=.error c) {w w':World} (hb:Below w.heap.size w w'):RowsRes R r w (.returned (.tuple #[.slice none 0 0,.int .i64 c])) w':=by
 subst h
 exact ⟨none,0,rfl,⟨Nat.le_refl _,Nat.zero_le _,.inl rfl⟩,hb⟩
theorem RowsRes.yes {α:Type} {R:Rep α} {r:Except Int (List α)} {L:List α} (h:r=.ok L) {w w':World} {A:Option Addr} {n c:Nat} (hn:n=L.length) (ho:SlRep R w' (fun k=>w.heap.size≤k∧k<w'.heap.size) L A c) (hb:Below w.heap.size w w'):RowsRes R r w (.returned (.tuple #[.slice A n c,.int .i64 0])) w':=by
 subst h
 subst hn
 exact ⟨A,c,rfl,ho,hb⟩
end Go.Proofs.Ytdldfllllgogoaa
namespace Go.Proofs.Ytdldfllllgogoaa
open Go.RowKit
set_option linter.unusedSimpArgs false
def sd.bv (b:Bool):Value:=.bool b
/-- the reference's outlet, in the block G -/
structure OAt (w:World) (B G:Nat) (data:List UInt8) (closed:Bool) (edge sent:Int) (kl:List Bool) (todo:Int) (D:Option Addr) (dc:Nat) (K:Option Addr) (kc:Nat):Prop where
 lo:B≤G
 blk:BlkA w G 118 #[.slice D data.length dc,.bool closed,.int .i64 edge,.int .i64 sent,.slice K kl.length kc,.int .i64 todo]
 data:Own w B 5 1 D data.length dc (data.map rv.u8v)
 known:Own w B 4 1 K kl.length kc (kl.map sd.bv)
section
variable {w w':World} {B G:Nat} {data:List UInt8} {closed:Bool} {edge sent:Int} {kl:List Bool} {todo:Int} {D:Option Addr} {dc:Nat} {K:Option Addr} {kc:Nat}
theorem OAt.next (h:OAt w B G data closed edge sent kl todo D dc K kc) (hb:Below w.heap.size w w'):OAt w' B G data closed edge sent kl todo D dc K kc:=⟨h.lo,h.blk.next hb,h.data.next hb,h.known.next hb⟩
end
theorem sd.bool_at {w:World} {base:Nat} {K:Option Addr} {n kc:Nat} {kl:List Bool} (h:Own w base 4 1 K n kc (kl.map sd.bv)) {k:Nat} (hk:k<kl.length):∃ g,K=some ⟨g,0,none⟩∧base≤g∧g<w.heap.size∧w.cell? ⟨g,k,none⟩=some (.bool (kl.getD k false)):=
 h.cell (j:=k) (u:=.bool (kl.getD k false)) (by rw [List.getElem?_map,List.getElem?_eq_getElem hk,List.getD_eq_getElem?_getD,List.getElem?_eq_getElem hk];rfl)
set_option maxHeartbeats 400000 in
theorem ref_NewOutlet (window:Int) (w:World) :
  Calls Try.prog 26 #[.int .i64 window] w fun e w'=>e=.returned (.pointer (some ⟨w.heap.size,0,none⟩))∧OAt w' w.heap.size w.heap.size [] false window 0 [] 0 none 0 none 0∧Below w.heap.size w w':=by
 go_enter Try.func26,Try.ntmps26
 go_wp2
 go_ret
 exact ⟨rfl,⟨Nat.le_refl _,BlkA.new _ _ _,Own.nil _ _ _ _,Own.nil _ _ _ _⟩,(by repeat (first | (with_reducible first | exact Below.refl _ _ | assumption | refine bset ?_ ?_ _ | refine balloc ?_ _ | refine Below.drew ?_ | refine bdrewN ?_ _ | refine bnext ?_ (by with_reducible assumption)) | exact Nat.le_refl _ | (simp;done) | omega | (simp;omega)))⟩
set_option maxHeartbeats 400000 in
theorem ref_places (B G:Nat) (data:List UInt8) (closed:Bool) (edge sent:Int) (kl:List Bool) (todo:Int) (D:Option Addr) (dc:Nat) (K:Option Addr) (kc:Nat) (w:World) (h:OAt w B G data closed edge sent kl todo D dc K kc) (hn:data.length≤1048575) :
  Calls Try.prog 53 #[.pointer (some ⟨G,0,none⟩)] w fun e w'=>e=.returned (.int .i64 ((data.length:Int)+sd.fin1 closed))∧w=w':=by
 have c0:=h.blk.get 0
 have c1:=h.blk.get 1
 simp only [List.getElem?_toArray,List.getElem?_cons_succ,List.getElem?_cons_zero] at c0 c1
 cases closed with
 | true=>
  have HE:Hid ((data.length:Int)+sd.fin1 true=(data.length:Int)+1):=Lib.hid rfl
  clear h
  go_enter Try.func53,Try.ntmps53
  go_wp2
  go_ret
  exact ⟨by rw [HE.out];rfl,rfl⟩
 | false=>
  have HE:Hid ((data.length:Int)+sd.fin1 false=(data.length:Int)):=Lib.hid (by simp [sd.fin1])
  clear h
  go_enter Try.func53,Try.ntmps53
  go_wp2
  go_ret
  exact ⟨by rw [HE.out];rfl,rfl⟩
set_option maxHeartbeats 400000 in
theorem ref_heard (B G:Nat) (data:List UInt8) (closed:Bool) (edge sent:Int) (kl:List Bool) (todo:Int) (D:Option Addr) (dc:Nat) (K:Option Addr) (kc:Nat) (n:Nat) (w:World) (h:OAt w B G data closed edge sent kl todo D dc K kc) (hn:n≤4000000) :
  Calls Try.prog 52 #[.pointer (some ⟨G,0,none⟩),.int .i64 (n:Int)] w fun e w'=>e=.returned (.bool (kl.getD n false))∧w=w':=by
 have c4:=h.blk.get 4
 simp only [List.getElem?_toArray,List.getElem?_cons_succ,List.getElem?_cons_zero] at c4
 by_cases hlt:n<kl.length
 ·obtain ⟨g,rfl,_,_,hc⟩:=sd.bool_at h.known hlt
  have hlt':(n:Int)<(kl.length:Int):=by omega
  generalize kl.getD n false=b at *
  clear h
  go_enter Try.func52,Try.ntmps52
  go_wp2
  go_ret
  exact ⟨rfl,rfl⟩
 ·have HE:Hid (kl.getD n false=false):=Lib.hid (by rw [List.getD_eq_getElem?_getD,List.getElem?_eq_none (by omega)];rfl)
  have hlt':¬ (n:Int)<(kl.length:Int):=by omega
  have q:decide (n<kl.length)=false:=by simpa using hlt
  clear h
  go_enter Try.func52,Try.ntmps52
  go_wp2
  go_ret
  exact ⟨by first | rfl | (rw [HE.out];rfl),rfl⟩
/-- the row of what is known, as a predicate -/
def sd.PB (kl:List Bool) (x:Int):Bool:=kl.getD x.toNat false && decide (0≤x)
theorem sd.PB_nat (kl:List Bool) (k:Nat):sd.PB kl (k:Int)=kl.getD k false:=by unfold sd.PB;simp
theorem sd.bools {w:World} {base:Nat} {K:Option Addr} {n kc:Nat} {kl:List Bool} (h:Own w base 4 1 K n kc (kl.map sd.bv)) (h0:0<kl.length):∃ g,K=some ⟨g,0,none⟩∧∀ k,k<kl.length→w.cell? ⟨g,k,none⟩=some (.bool (kl.getD k false)):=by
 obtain ⟨g,e,_,_,_⟩:=sd.bool_at h h0
 refine ⟨g,e,fun k hk=>?_⟩
 obtain ⟨g2,e2,_,_,hc⟩:=sd.bool_at h hk
 rw [e] at e2
 simp only [Option.some.injEq,Addr.mk.injEq,and_true] at e2
 rw [e2]
 exact hc
theorem sd.isl_step (kl:List Bool) (d j:Nat):sd.isl (sd.PB kl) d (j+1)=sd.isl (sd.PB kl) d j+if (kl.getD (d+j) false && !(sd.PB kl ((d:Int)+(j:Int) - 1)))=true then 1 else 0:=by
 rw [sd.isl,show (d:Int)+(j:Int)=((d+j:Nat):Int) by omega,sd.PB_nat]
theorem sd.isl_le (P:Int→Bool) (d:Int):∀ j:Nat,sd.isl P d j≤j
 | 0=>Nat.le_refl _
 | j+1=>by
  have ih:=sd.isl_le P d j
  rw [sd.isl]
  split <;> omega
set_option maxHeartbeats 1000000 in
theorem ref_islands (kl:List Bool) (base d:Nat) (K:Option Addr) (kc:Nat) (w:World) (h:Own w base 4 1 K kl.length kc (kl.map sd.bv)) (hd:d≤kl.length) (hd1:∀ i,i<d→kl.getD i false=true) (hd2:d<kl.length→kl.getD d false=false) (hn:kl.length≤2000000) :
  Calls Try.prog 83 #[.slice K kl.length kc] w fun e w'=>e=.returned (.int .i64 (sd.isl (sd.PB kl) d (kl.length - d):Nat))∧w=w':=by
 by_cases h0:0<kl.length
 ·obtain ⟨g,rfl,hc⟩:=sd.bools h h0
  have HC:=Lib.hid hc
  have HD1:=Lib.hid hd1
  have HD2:=Lib.hid hd2
  clear h hd1 hd2 hc
  go_enter Try.func83,Try.ntmps83
  go_wp2
  go_loop [3] (fun i=>∃ k:Nat,k≤d∧i=.int .i64 k) (fun i=>d - (intOf i).toNat)
  case atStart=>exact ⟨0,by omega,rfl⟩
  case round=>
   obtain ⟨k,hk,rfl⟩:=hrel
   by_cases hkd:k<d
   ·have hc:=HC.out k (by omega)
    rw [HD1.out k hkd] at hc
    have hlt':(k:Int)<(kl.length:Int):=by omega
    go_wp2
    go_round
    case rel=>exact ⟨k+1,by omega,by go_num⟩
    case measure=>simp [intOf];omega
   ·obtain rfl:k=d:=by omega
    have HEND:Hid (∀ (j:Nat),k+j=kl.length→sd.isl (sd.PB kl) k j=sd.isl (sd.PB kl) k (kl.length - k)):=Lib.hid (fun j hj=>by rw [show kl.length - k=j by omega])
    clear hkd
    have hx:((k:Int)<(kl.length:Int)∧w.cell? ⟨g,k,none⟩=some (.bool false))∨decide (k<kl.length)=false:=by
     by_cases hl:k<kl.length
     ·have hc:=HC.out k hl
      rw [HD2.out hl] at hc
      exact .inl ⟨by omega,hc⟩
     ·exact .inr (by simpa using hl)
    rcases hx with ⟨x1,x2⟩ | x1
    all_goals
     go_wp2
     go_loop [4,5] (fun n i=>∃ j:Nat,k+j≤kl.length∧i=.int .i64 ((k+j:Nat):Int)∧n=.int .i64 (sd.isl (sd.PB kl) k j:Nat)) (fun _ i=>kl.length - (intOf i).toNat)
     case atStart=>exact ⟨0,by omega,rfl,rfl⟩
     case round=>
      obtain ⟨j,hj,rfl,rfl⟩:=hrel
      have hle:=sd.isl_le (sd.PB kl) k j
      have hst:=sd.isl_step kl k j
      obtain ⟨p,hp⟩:∃ p:Nat,p=k+j:=⟨_,rfl⟩
      rw [show (k:Int)+(j:Int) - 1=(p:Int) - 1 by omega] at hst
      rw [← hp] at hst ⊢
      have HP:=Lib.hid hp
      have HE:=Lib.hid (HEND.out j)
      by_cases hpl:p<kl.length
      ·have hc2:=HC.out p hpl
       have hpl':(p:Int)<(kl.length:Int):=by omega
       cases hb:kl.getD p false with
       | false=>
        rw [hb] at hc2 hst
        simp only [Bool.false_and,Bool.false_eq_true,if_false,Nat.add_zero] at hst
        have HS2:=Lib.hid hst
        generalize sd.isl (sd.PB kl) (k:Int) j=iv at *
        clear hst hb hp
        go_wp2
        go_round
        case rel=>exact ⟨j+1,by have:=HP.out;omega,by have:=HP.out;congr 1;omega,by rw [HS2.out]⟩
        case measure=>simp [intOf];omega
       | true=>
        have hkp:k<p:=by
         rcases Nat.lt_or_ge k p with h | h
         ·exact h
         ·exfalso
          have e:p=k:=by omega
          rw [e] at hb
          rw [HD2.out (by omega)] at hb
          cases hb
        obtain ⟨p1,hp1⟩:∃ p1:Nat,(p:Int) - 1=(p1:Int):=⟨p - 1,by omega⟩
        have hc3:=HC.out p1 (by omega)
        rw [hp1,sd.PB_nat,hb,Bool.true_and] at hst
        rw [hb] at hc2
        have hp1l:(p1:Int)<(kl.length:Int):=by omega
        generalize sd.isl (sd.PB kl) (k:Int) j=iv at *
        cases hb1:kl.getD p1 false with
        | false=>
         rw [hb1] at hc3 hst
         simp only [Bool.not_false,if_true] at hst
         have HS2:=Lib.hid hst
         clear hst hb hb1 hp
         go_wp2
         go_round
         case rel=>exact ⟨j+1,by have:=HP.out;omega,by have:=HP.out;congr 1;omega,by rw [HS2.out];go_num⟩
         case measure=>simp [intOf];omega
        | true=>
         rw [hb1] at hc3 hst
         simp only [Bool.not_true,Bool.false_eq_true,if_false,Nat.add_zero] at hst
         have HS2:=Lib.hid hst
         clear hst hb hb1 hp
         go_wp2
         go_round
         case rel=>exact ⟨j+1,by have:=HP.out;omega,by have:=HP.out;congr 1;omega,by rw [HS2.out]⟩
         case measure=>simp [intOf];omega
      ·have hpe:k+j=kl.length:=by omega
       have HR:=Lib.hid (HE.out hpe)
       have hq:decide (p<kl.length)=false:=by simpa using hpl
       generalize sd.isl (sd.PB kl) (k:Int) j=iv at *
       clear hst hp hpe hpl
       go_wp2
       go_ret
       exact ⟨by rw [← HR.out];rfl,rfl⟩
 ·have hz:kl.length=0:=by omega
  obtain rfl:kl=[]:=List.eq_nil_of_length_eq_zero hz
  obtain rfl:d=0:=by simpa using hd
  clear h hd hd1 hd2 hn h0 hz
  go_enter Try.func83,Try.ntmps83
  go_wp2
  go_loop [3] (fun i=>i=.int .i64 0) (fun _=>0)
  case atStart=>rfl
  case round=>
   subst hrel
   go_wp2
   go_loop [4,5] (fun n i=>n=.int .i64 0∧i=.int .i64 0) (fun _ _=>0)
   case atStart=>exact ⟨rfl,rfl⟩
   case round=>
    obtain ⟨rfl,rfl⟩:=hrel
    go_wp2
    go_ret
    exact ⟨rfl,rfl⟩
end Go.Proofs.Ytdldfllllgogoaa
namespace Go.Proofs.Ytdldfllllgogoaa.sd
open had
theorem runs_eq {d t:Int} {m:List Rng} {P:Int→Bool} (hc:Canon d m) (hh:∀ r,r ∈ m→r.hi≤t) (hP:∀ n,P n=true↔(0≤n∧n<d)∨cov m n) {k:Nat} (hk:t≤d+k):rv.runs P d k=m:=by
 obtain ⟨h1,h2,h3⟩:=rv.runs_ok P d k
 refine ext h1 hc fun p=>?_
 rw [h3,hP]
 constructor
 ·rintro ⟨⟨e1,e2⟩,e3 | e3⟩
  ·omega
  ·exact e3
 ·intro hcv
  obtain ⟨r,hr,hp⟩:=hcv
  have a1:=hc.mem r hr
  have a2:=hh r hr
  have a3:=hp.1
  have a4:=hp.2
  exact ⟨⟨by omega,by omega⟩,.inr ⟨r,hr,hp⟩⟩
/-- the row tells what was heard of -/
def Knows (kl:List Bool) (done:Int) (more:List Rng):Prop:=∀ n:Nat,kl.getD n false=true↔(n:Int)<done∨cov more (n:Int)
theorem isl_of {kl:List Bool} {done:Int} {more:List Rng} (h0:0≤done) (hd:done≤kl.length) (hc:Canon done more) (hh:∀ r,r ∈ more→r.hi≤kl.length) (hP:Knows kl done more) :
  ∃ d:Nat,(d:Int)=done∧d≤kl.length∧(∀ i,i<d→kl.getD i false=true)∧(d<kl.length→kl.getD d false=false)∧isl (PB kl) d (kl.length - d)=more.length:=by
 obtain ⟨d,hdd⟩:∃ d:Nat,done=d:=⟨done.toNat,by omega⟩
 have hnd:kl.getD d false=false:=by
  cases hb:kl.getD d false
  ·rfl
  ·rcases (hP d).1 hb with e | ⟨r,hr,e⟩
   ·omega
   ·have:=(hc.mem r hr).1
    have:=e.1
    omega
 have hPB:∀ n:Int,PB kl n=true↔(0≤n∧n<done)∨cov more n:=fun n=>by
  by_cases hn:0≤n
  ·obtain ⟨k,rfl⟩:∃ k:Nat,n=k:=⟨n.toNat,by omega⟩
   rw [PB_nat,hP k]
   constructor
   ·rintro (e | e)
    ·exact .inl ⟨hn,e⟩
    ·exact .inr e
   ·rintro (e | e)
    ·exact .inl e.2
    ·exact .inr e
  ·constructor
   ·intro e
    unfold PB at e
    simp at e
    omega
   ·rintro (e | ⟨r,hr,e⟩)
    ·omega
    ·have:=(hc.mem r hr).1
     have:=e.1
     omega
 refine ⟨d,hdd.symm,by omega,fun i hi=>(hP i).2 (.inl (by omega)),fun _=>hnd,?_⟩
 rw [← isl_runs (by rw [PB_nat];exact hnd) (kl.length - d),runs_eq (d:=(d:Int)) (t:=kl.length) (by rw [← hdd];exact hc) hh (fun n=>by rw [hPB n,hdd]) (by omega)]
/-- places set, so many from lo on -/
def setT (kl:List Bool) (lo:Nat):Nat→List Bool
 | 0=>kl
 | k+1=>(setT kl lo k).set (lo+k) true
theorem setT_len (kl:List Bool) (lo:Nat):∀ k,(setT kl lo k).length=kl.length
 | 0=>rfl
 | k+1=>by rw [setT,List.length_set,setT_len kl lo k]
theorem setT_at (kl:List Bool) (lo n:Nat):∀ k,lo+k≤kl.length→(setT kl lo k).getD n false=if lo≤n∧n<lo+k then true else kl.getD n false
 | 0,_=>by rw [setT,if_neg (by omega)]
 | k+1,h=>by
  have ih:=setT_at kl lo n k (by omega)
  rw [setT,List.getD_eq_getElem?_getD,List.getElem?_set]
  by_cases e:lo+k=n
  ·subst e
   rw [if_pos rfl,if_pos (by rw [setT_len];omega),if_pos ⟨by omega,by omega⟩]
   rfl
  ·rw [if_neg e,← List.getD_eq_getElem?_getD,ih]
   by_cases c:lo≤n∧n<lo+k
   ·rw [if_pos c,if_pos ⟨c.1,by omega⟩]
   ·rw [if_neg c,if_neg (fun x=>c ⟨x.1,by omega⟩)]
theorem Knows.add {kl:List Bool} {done N:Int} {more:List Rng} {r:Rng} (h:Knows kl done more) (h0:0≤done) (h1:done≤N) (hc:Canon done more) (hh:∀ r,r ∈ more→r.hi≤N) (hr:0≤r.lo∧r.lo≤r.hi∧r.hi≤N) (hN:N=kl.length) {lo k:Nat} (hlo:r.lo=lo) (hk:r.hi=lo+k) :
  Knows (setT kl lo k) (addTo done more r).1 (addTo done more r).2:=fun n=>by
 have ha:=add_one h0 h1 hc hh hr
 have h2:=ha.came (n:Int)
 rw [setT_at kl lo n k (by omega)]
 have h3:=h n
 rw [cov_cons] at h2
 simp only [cov_nil,or_false] at h2
 have h4:inR r (n:Int)↔lo≤n∧n<lo+k:=by unfold inR;omega
 constructor
 ·intro e
  have:((0:Int)≤n∧(n:Int)<(addTo done more r).1)∨cov (addTo done more r).2 n:=h2.2 (by
   by_cases c:lo≤n∧n<lo+k
   ·exact .inr (h4.2 c)
   ·rw [if_neg c] at e
    exact .inl ((h3.1 e).imp (fun x=>⟨by omega,x⟩) id))
  exact this.imp (fun x=>x.2) id
 ·intro e
  rcases h2.1 (e.imp (fun x=>⟨by omega,x⟩) id) with c | c
  ·by_cases cc:lo≤n∧n<lo+k
   ·rw [if_pos cc]
   ·rw [if_neg cc]
    exact h3.2 (c.imp (fun x=>x.2) id)
  ·rw [if_pos (h4.1 c)]
/-- the row made wider -/
theorem Knows.pad {kl:List Bool} {done:Int} {more:List Rng} (h:Knows kl done more) (m:Nat):Knows (kl ++ List.replicate m false) done more:=fun n=>by
 rw [← h n,List.getD_eq_getElem?_getD,List.getD_eq_getElem?_getD]
 by_cases hl:n<kl.length
 ·rw [List.getElem?_append_left hl]
 ·rw [List.getElem?_append_right (by omega),List.getElem?_replicate,List.getElem?_eq_none (by omega:kl.length≤n)]
  split <;> simp
end Go.Proofs.Ytdldfllllgogoaa.sd
namespace Go.Proofs.Ytdldfllllgogoaa
open Go.RowKit
theorem make_row {P:Program} {t e:TypeId} {i:TypeInfo} {z:Value} (ht:P.underlying t=some (.slice e)) (hi:P.info? e=some i) (hz:i.zero=some z) (hs:i.size=1) (hzc:z.cells = #[z]) (n:Nat) (m:Int) (hm:m=(n:Int)) (hby:i.bytes * n≤281474976710656) (h63:n≤9223372036854775807) (W:World) :
  (Instr.makeSlice t (.int .i64 m) (.int .i64 m)).run P W=.ok (.slice (some ⟨W.heap.size,0,none⟩) n n) (W.alloc (.cells (List.replicate n z).toArray e)):=by
 subst hm
 have hb:(i.bytes:Int) * (n:Int)≤281474976710656:=by
  have h:((i.bytes * n:Nat):Int)≤281474976710656:=by omega
  rwa [Int.natCast_mul] at h
 have h:=run_make (P:=P) W t e i z ht hi hz .i64 .i64 (n:Int) (n:Int) (by omega) (Int.le_refl _) hb (by omega)
 simp only [Int.toNat_natCast,hs,Nat.mul_one,hzc] at h
 rw [h,← toList_madeCells_one,Array.toArray_toList]
end Go.Proofs.Ytdldfllllgogoaa
namespace Go.Proofs.Ytdldfllllgogoaa
open Go.RowKit
set_option linter.unusedSimpArgs false
/-- a row copied to the front of a row of the call's own -/
theorem run_copy0 {P:Program} (w:World) (dT sT ty:TypeId) {elem:TypeId} {bytes:Nat} (hT:ElemT P dT elem 1 bytes)
  (base g n c:Nat) (xs:List Value) (hown:Own w base elem 1 (some ⟨g,0,none⟩) n c xs) (sp:Option Addr) (sLen sCap:Nat)
  (cs:List Value) (hcs:cs.length=sLen) (hle:sLen≤n) (hsrc:Cells w sp cs) (h1:∀ v ∈ cs,v.oneCell'=true) :
  ∃ w',(Builtin.copy_ #[dT,sT] ty #[.slice (some ⟨g,0,none⟩) n c,.slice sp sLen sCap]).run P w=.ok (goInt cs.length) w'∧Own w' base elem 1 (some ⟨g,0,none⟩) n c (cs ++ xs.drop cs.length)∧Grew w w' (some ⟨g,0,none⟩) (some ⟨g,0,none⟩):=by
 obtain ⟨i,z,hi,hzz,hsize,hby,hzs⟩:=hT.info
 have hsz:(P.info? elem).map (·.size)=some 1:=by rw [hi];simp [hsize]
 have hlen:=hown.len
 by_cases h0:cs.length=0
 ·obtain rfl:cs=[]:=List.eq_nil_of_length_eq_zero h0
  have hs0:sLen=0:=by simpa using hcs.symm
  exact ⟨w,run_copy_none (P:=P) w dT sT ty elem (some ⟨g,0,none⟩) sp n c sLen sCap hT.und hsz (by rw [hs0];exact Nat.zero_min _),by simpa using hown,Grew.refl w _⟩
 ·rcases hsrc with rfl | ⟨b2,o2,rfl,hc2⟩
  ·simp at h0
  rcases hown.2 with ⟨k1,_⟩ | ⟨g',cap,cur,k1,k2,k3,k4,k5,k6,k7⟩
  ·simp only [Value.slice.injEq] at k1
   cases k1.1
  ·simp only [Value.slice.injEq,Option.some.injEq,Addr.mk.injEq,and_true] at k1
   obtain ⟨rfl,_,rfl⟩:=k1
   have hsize2:cur.size=c:=by rw [k6,Nat.mul_one]
   have hq:0+cs.length≤cur.toList.length:=by
    have h9:cur.toList.length=cur.size:=Array.length_toList
    rw [h9,hsize2,hcs]
    omega
   have hrun:=run_copy_cells (P:=P) w dT sT ty elem g 0 n c ⟨b2,o2,none⟩ sLen sCap cs hT.und hsz (by show cs.length=min sLen n;rw [Nat.min_eq_left hle];exact hcs) (fun j v hv=>by rw [addr_add];exact hc2 j v hv)
    (fun j hj=>by rw [cell_of_row w g _ cur elem (0,0) k3,Array.getElem?_eq_getElem (by omega)];rfl) (fun j hj=>by simp [World.frozen?,k3]) h1
   obtain ⟨q1,q2,q3,q4,q5⟩:=keep_setCells g cs 0 w
   refine ⟨_,hrun,?_,⟨⟨q2,q3,q4,Nat.le_of_eq q1.symm,fun j _ hj=>q5 j (fun e=>hj (by rw [e];rfl))⟩,.inl rfl⟩⟩
   refine ⟨by rw [List.length_append,List.length_drop];omega,.inr ⟨g,c,(overl cur.toList 0 cs).toArray,rfl,k2,heap_setCells_same g elem cs 0 w cur k3,k4,k5,?_,?_⟩⟩
   ·have:=overl_len cs cur.toList 0
    simp only [List.size_toArray]
    rw [this];simpa using k6
   ·show (overl cur.toList 0 cs).take (n * 1)=_
    rw [Nat.mul_one] at k7 ⊢
    rw [← k7]
    apply List.ext_getElem?
    intro j
    rw [List.getElem?_take,overl_get _ _ _ _ hq]
    by_cases j2:j<cs.length
    ·rw [if_pos (by omega),if_pos (by omega),List.getElem?_append_left (by omega)]
     rfl
    ·rw [if_neg (by omega:¬ (0≤j∧j<0+cs.length)),List.getElem?_append_right (by omega),List.getElem?_drop,List.getElem?_take,show cs.length+(j - cs.length)=j by omega]
theorem elemBool:ElemT Try.prog 116 4 1 1:=ElemT.of Try.underlying116 (z:=.bool false) (by kernel_rfl) rfl (by decide)
theorem u8NeOutlet:5≠118:=by decide
theorem boolNeOutlet:4≠118:=by decide
theorem one_bools (l:List Bool):∀ u ∈ l.map sd.bv,u.oneCell'=true:=by
 intro u hu
 obtain ⟨b,_,rfl⟩:=List.mem_map.1 hu
 rfl
section
variable {w w':World} {B G:Nat} {data:List UInt8} {closed:Bool} {edge sent:Int} {kl:List Bool} {todo:Int} {D:Option Addr} {dc:Nat} {K:Option Addr} {kc:Nat}
theorem OAt.dApart (h:OAt w B G data closed edge sent kl todo D dc K kc):blkOf D≠some G:=h.blk.apart h.data u8NeOutlet
theorem OAt.kApart (h:OAt w B G data closed edge sent kl todo D dc K kc):blkOf K≠some G:=h.blk.apart h.known boolNeOutlet
theorem OAt.putKnown (h:OAt w B G data closed edge sent kl todo D dc K kc) {kl1:List Bool} {K1:Option Addr} {k1:Nat} {n:Nat} (hk:Own w B 4 1 K1 n k1 (kl1.map sd.bv)) (hn:n=kl1.length):OAt (w.setCell ⟨G,4,none⟩ (.slice K1 n k1)) B G data closed edge sent kl1 todo D dc K1 k1:=by
 subst hn
 exact ⟨h.lo,by simpa using h.blk.set 4 (.slice K1 kl1.length k1),h.data.setCell h.dApart _,hk.setCell (h.blk.apart hk boolNeOutlet) _⟩
theorem OAt.putEdge (h:OAt w B G data closed edge sent kl todo D dc K kc) (e:Int):OAt (w.setCell ⟨G,2,none⟩ (.int .i64 e)) B G data closed e sent kl todo D dc K kc:=
 ⟨h.lo,by simpa using h.blk.set 2 (.int .i64 e),h.data.setCell h.dApart _,h.known.setCell h.kApart _⟩
theorem OAt.putSent (h:OAt w B G data closed edge sent kl todo D dc K kc) (e:Int):OAt (w.setCell ⟨G,3,none⟩ (.int .i64 e)) B G data closed edge e kl todo D dc K kc:=
 ⟨h.lo,by simpa using h.blk.set 3 (.int .i64 e),h.data.setCell h.dApart _,h.known.setCell h.kApart _⟩
theorem OAt.putTodo (h:OAt w B G data closed edge sent kl todo D dc K kc) (e:Int):OAt (w.setCell ⟨G,5,none⟩ (.int .i64 e)) B G data closed edge sent kl e D dc K kc:=
 ⟨h.lo,by simpa using h.blk.set 5 (.int .i64 e),h.data.setCell h.dApart _,h.known.setCell h.kApart _⟩
theorem OAt.putClosed (h:OAt w B G data closed edge sent kl todo D dc K kc) (e:Bool):OAt (w.setCell ⟨G,1,none⟩ (.bool e)) B G data e edge sent kl todo D dc K kc:=
 ⟨h.lo,by simpa using h.blk.set 1 (.bool e),h.data.setCell h.dApart _,h.known.setCell h.kApart _⟩
theorem OAt.putData (h:OAt w B G data closed edge sent kl todo D dc K kc) {d1:List UInt8} {D1:Option Addr} {k1 n:Nat} (hk:Own w B 5 1 D1 n k1 (d1.map rv.u8v)) (hn:n=d1.length):OAt (w.setCell ⟨G,0,none⟩ (.slice D1 n k1)) B G d1 closed edge sent kl todo D1 k1 K kc:=by
 subst hn
 exact ⟨h.lo,by simpa using h.blk.set 0 (.slice D1 d1.length k1),hk.setCell (h.blk.apart hk u8NeOutlet) _,h.known.setCell h.kApart _⟩
theorem OAt.stays {No:Nat→Prop} (h:OAt w B G data closed edge sent kl todo D dc K kc) (hs:Stays w w' No) (hn:∀ k,k=G∨blkOf D=some k∨blkOf K=some k→¬ No k):OAt w' B G data closed edge sent kl todo D dc K kc:=
 ⟨h.lo,h.blk.stays hs (hn G (.inl rfl)),h.data.stays hs fun k hk=>hn k (.inr (.inl hk)),h.known.stays hs fun k hk=>hn k (.inr (.inr hk))⟩
end
/-- so many ranges were taken in, in the row of what is known -/
structure sd.Hrs (w5 wq:World) (g:Nat) (s:sd.St) (al:List Rng) (n k:Nat) (d1:Int) (m1:List Rng) (klr:List Bool):Prop where
 low:Stays w5 wq (fun q=>q=g)
 same:sd.adds d1 m1 (al.drop k)=sd.adds s.done s.more al
 rng:0≤d1∧d1≤s.next
 canon:had.Canon d1 m1
 hi:∀ r,r ∈ m1→r.hi≤s.next
 few:m1.length≤16
 knows:sd.Knows klr d1 m1
 len:klr.length=n
 own:Own wq g 4 1 (some ⟨g,0,none⟩) n n (klr.map sd.bv)
 more:∀ x,sd.heardP s x→(0≤x∧x<d1)∨had.cov m1 x
theorem sd.setT_map (kl:List Bool) (lo p:Nat) (h:lo≤p):((sd.setT kl lo (p - lo)).map sd.bv).set p (.bool true)=(sd.setT kl lo (p+1 - lo)).map sd.bv:=by
 rw [show p+1 - lo=(p - lo)+1 by omega,sd.setT,show lo+(p - lo)=p by omega,List.map_set]
 rfl
theorem sd.pad_map (kl:List Bool) (n:Nat) (h:kl.length≤n):kl.map sd.bv ++ (List.replicate n (Value.bool false)).drop (kl.map sd.bv).length=(kl ++ List.replicate (n - kl.length) false).map sd.bv:=by
 rw [List.map_append,List.length_map,List.drop_replicate,List.map_replicate]
 rfl
theorem sd.Hrs.next {w5 wq wx:World} {g:Nat} {s:sd.St} {al:List Rng} {n k lo hi:Nat} {d1:Int} {m1:List Rng} {klr:List Bool} (h:sd.Hrs w5 wq g s al n k d1 m1 klr) {r:Rng} (hd:al.drop k=r :: al.drop (k+1)) (hlo:r.lo=lo) (hhi:r.hi=hi) (hlh:lo≤hi) (hN:s.next=n) (hn:hi≤n) (hf:(had.addTo d1 m1 r).2.length≤16)
  (hl:Stays wq wx (fun q=>q=g)) (ho:Own wx g 4 1 (some ⟨g,0,none⟩) n n ((sd.setT klr lo (hi - lo)).map sd.bv)):sd.Hrs w5 wx g s al n (k+1) (had.addTo d1 m1 r).1 (had.addTo d1 m1 r).2 (sd.setT klr lo (hi - lo)):=by
 have hr:0≤r.lo∧r.lo≤r.hi∧r.hi≤s.next:=by omega
 have ha:=sd.add_one h.rng.1 h.rng.2 h.canon h.hi hr
 refine ⟨h.low.comp hl,?_,⟨ha.lo.1,ha.lo.2.2⟩,ha.canon,ha.hi,hf,?_,by rw [sd.setT_len];exact h.len,ho,fun x hx=>(ha.came x).2 (.inl (h.more x hx))⟩
 ·rw [← h.same,hd,sd.adds,if_neg (by omega)]
 ·exact h.knows.add h.rng.1 h.rng.2 h.canon h.hi hr (by rw [h.len];exact hN) hlo (by omega)
/-- what islands says of the row, one range taken in -/
theorem sd.Hrs.isl {w5 wq:World} {g:Nat} {s:sd.St} {al:List Rng} {n k lo hi:Nat} {d1:Int} {m1:List Rng} {klr:List Bool} (h:sd.Hrs w5 wq g s al n k d1 m1 klr) {r:Rng} (hlo:r.lo=lo) (hhi:r.hi=hi) (hlh:lo≤hi) (hN:s.next=n) (hn:hi≤n) :
  ∃ d:Nat,d≤(sd.setT klr lo (hi - lo)).length∧(∀ i,i<d→(sd.setT klr lo (hi - lo)).getD i false=true)∧(d<(sd.setT klr lo (hi - lo)).length→(sd.setT klr lo (hi - lo)).getD d false=false)∧sd.isl (sd.PB (sd.setT klr lo (hi - lo))) d ((sd.setT klr lo (hi - lo)).length - d)=(had.addTo d1 m1 r).2.length:=by
 have hr:0≤r.lo∧r.lo≤r.hi∧r.hi≤s.next:=by omega
 have ha:=sd.add_one h.rng.1 h.rng.2 h.canon h.hi hr
 have hlen:(sd.setT klr lo (hi - lo)).length=n:=by rw [sd.setT_len];exact h.len
 obtain ⟨d,_,h2,h3,h4,h5⟩:=sd.isl_of ha.lo.1 (by rw [hlen,← hN];exact ha.lo.2.2) ha.canon (fun q hq=>by rw [hlen,← hN];exact ha.hi q hq) (h.knows.add h.rng.1 h.rng.2 h.canon h.hi hr (by rw [h.len];exact hN) hlo (by omega:r.hi=lo+((hi - lo:Nat):Int)))
 exact ⟨d,h2,h3,h4,h5⟩
end Go.Proofs.Ytdldfllllgogoaa
namespace Go.Proofs.Ytdldfllllgogoaa
open Go.RowKit
set_option linter.unusedSimpArgs false
/-- the reference's outlet is like this sender -/
structure OS (w:World) (B G:Nat) (s:sd.St) (kl:List Bool) (todo:Int) (D:Option Addr) (dc:Nat) (K:Option Addr) (kc:Nat):Prop where
 at_:OAt w B G s.data s.closed s.edge s.next kl todo D dc K kc
 knows:sd.Knows kl s.done s.more
 len:(kl.length:Int)≤s.next
 todo:0≤todo∧todo≤s.again∧∀ x,todo≤x→x<s.again→sd.heardP s x
theorem OS.next {w w':World} {B G:Nat} {s:sd.St} {kl:List Bool} {todo:Int} {D:Option Addr} {dc:Nat} {K:Option Addr} {kc:Nat} (h:OS w B G s kl todo D dc K kc) (hb:Below w.heap.size w w'):OS w' B G s kl todo D dc K kc:=⟨h.at_.next hb,h.knows,h.len,h.todo⟩
def OF (G:Nat) (D K:Option Addr) (k:Nat):Prop:=k=G∨blkOf D=some k∨blkOf K=some k
def HrsRes (w:World) (B G:Nat) (r:Int × sd.St) (D:Option Addr) (dc:Nat) (K:Option Addr) (todo:Int) (e:Ending) (w':World):Prop:=
 ∃ kl K1 kc1,e=.returned (.int .i64 r.1)∧OS w' B G r.2 kl todo D dc K1 kc1∧Stays w w' (fun k=>k=G)∧∀ k,blkOf K1=some k→blkOf K=some k∨w.heap.size≤k
theorem HrsRes.no {w w':World} {B G:Nat} {s:sd.St} {kl:List Bool} {todo:Int} {D:Option Addr} {dc:Nat} {K:Option Addr} {kc:Nat} {r:Int × sd.St} {c:Int} (h:OS w B G s kl todo D dc K kc) (hr:r=(c,s)) (hb:Below w.heap.size w w'):HrsRes w B G r D dc K todo (.returned (.int .i64 c)) w':=by
 subst hr
 exact ⟨kl,K,kc,rfl,h.next hb,Stays.of_below hb _,fun k hk=>.inl hk⟩
set_option maxRecDepth 100000 in
set_option maxHeartbeats 4000000 in
theorem ref_hears (B G:Nat) (s:sd.St) (kl:List Bool) (todo:Int) (D:Option Addr) (dc:Nat) (K:Option Addr) (kc:Nat) (d:Deed) (X:Option Addr) (xc:Nat) (R:Option Addr) (rc:Nat) (w:World) (h:OS w B G s kl todo D dc K kc) (hi:sd.Inv s) (hR:SlRep Rng.rep w (· < w.heap.size) d.sacks R rc) (ha:IntOk d.ack) (hwn:IntOk d.window) (hd:d.sacks.length≤140737488351232) :
  Calls Try.prog 51 #[.pointer (some ⟨G,0,none⟩),.agg #[.int .i64 d.kind,.slice X d.data.length xc,.int .i64 d.ack,.int .i64 d.window,.slice R d.sacks.length rc]] w (HrsRes w B G (sd.heard s d) D dc K todo):=by
 obtain ⟨dk,dd,da,dw,ds⟩:=d
 simp only at hR ha hwn hd ⊢
 unfold IntOk at ha hwn
 have H:=Lib.hid h
 have HI:=Lib.hid hi
 have HR:=Lib.hid hR
 have hlo:=hi.lo
 have hen:=hi.end_
 have hed:=hi.edge
 have hF:=h.at_.blk.lt
 have c3:=h.at_.blk.get 3
 simp only [List.getElem?_toArray,List.getElem?_cons_succ,List.getElem?_cons_zero] at c3
 have HNO:=Lib.hid (fun (c:Int) (hc:sd.heard s ⟨dk,dd,da,dw,ds⟩=(c,s)) w' (hb:Below w.heap.size w w')=>(HrsRes.no h hc hb:HrsRes w B G (sd.heard s ⟨dk,dd,da,dw,ds⟩) D dc K todo (.returned (.int .i64 c)) w'))
 clear h hi hR
 by_cases k1:da<0
 ·have HE:=Lib.hid (sd.heard_range (s:=s) (d:=⟨dk,dd,da,dw,ds⟩) (.inl k1))
  go_enter Try.func51,Try.ntmps51
  go_wp2
  go_quiet (fail)
  go_wp2
  go_ret
  exact HNO.out _ HE.out _ (by repeat (first | (with_reducible first | exact Below.refl _ _ | assumption | refine bset ?_ ?_ _ | refine balloc ?_ _ | refine Below.drew ?_ | refine bdrewN ?_ _ | refine bnext ?_ (by with_reducible assumption)) | exact Nat.le_refl _ | (simp;done) | omega | (simp;omega)))
 have q1:decide (da<0)=false:=by simpa using k1
 by_cases k2:s.next<da
 ·have HE:=Lib.hid (sd.heard_range (s:=s) (d:=⟨dk,dd,da,dw,ds⟩) (.inr (.inl k2)))
  have q2:decide (s.next<da)=true:=by simpa using k2
  go_enter Try.func51,Try.ntmps51
  go_wp2
  go_quiet (fail)
  go_wp2
  go_ret
  exact HNO.out _ HE.out _ (by repeat (first | (with_reducible first | exact Below.refl _ _ | assumption | refine bset ?_ ?_ _ | refine balloc ?_ _ | refine Below.drew ?_ | refine bdrewN ?_ _ | refine bnext ?_ (by with_reducible assumption)) | exact Nat.le_refl _ | (simp;done) | omega | (simp;omega)))
 have q2:decide (s.next<da)=false:=by simpa using k2
 by_cases k3:dw<0
 ·have HE:=Lib.hid (sd.heard_range (s:=s) (d:=⟨dk,dd,da,dw,ds⟩) (.inr (.inr (.inl k3))))
  have q3:decide (dw<0)=true:=by simpa using k3
  go_enter Try.func51,Try.ntmps51
  go_wp2
  go_quiet (fail)
  go_wp2
  go_ret
  exact HNO.out _ HE.out _ (by repeat (first | (with_reducible first | exact Below.refl _ _ | assumption | refine bset ?_ ?_ _ | refine balloc ?_ _ | refine Below.drew ?_ | refine bdrewN ?_ _ | refine bnext ?_ (by with_reducible assumption)) | exact Nat.le_refl _ | (simp;done) | omega | (simp;omega)))
 have q3:decide (dw<0)=false:=by simpa using k3
 by_cases k4:65535<dw
 ·have HE:=Lib.hid (sd.heard_range (s:=s) (d:=⟨dk,dd,da,dw,ds⟩) (.inr (.inr (.inr k4))))
  have q4:decide (65535<dw)=true:=by simpa using k4
  go_enter Try.func51,Try.ntmps51
  go_wp2
  go_quiet (fail)
  go_wp2
  go_ret
  exact HNO.out _ HE.out _ (by repeat (first | (with_reducible first | exact Below.refl _ _ | assumption | refine bset ?_ ?_ _ | refine balloc ?_ _ | refine Below.drew ?_ | refine bdrewN ?_ _ | refine bnext ?_ (by with_reducible assumption)) | exact Nat.le_refl _ | (simp;done) | omega | (simp;omega)))
 have q4:decide (65535<dw)=false:=by simpa using k4
 have HN4:Hid (¬ (da<0∨s.next<da∨dw<0∨65535<dw)):=Lib.hid (by omega)
 by_cases k5:3<ds.length
 ·have HE:=Lib.hid (sd.heard_size (s:=s) (d:=⟨dk,dd,da,dw,ds⟩) HN4.out k5)
  have q5:(3:Int)<(ds.length:Int):=by omega
  go_enter Try.func51,Try.ntmps51
  go_wp2
  go_quiet (fail)
  go_wp2
  go_ret
  exact HNO.out _ HE.out _ (by repeat (first | (with_reducible first | exact Below.refl _ _ | assumption | refine bset ?_ ?_ _ | refine balloc ?_ _ | refine Below.drew ?_ | refine bdrewN ?_ _ | refine bnext ?_ (by with_reducible assumption)) | exact Nat.le_refl _ | (simp;done) | omega | (simp;omega)))
 have q5:¬ (3:Int)<(ds.length:Int):=by omega
 obtain ⟨w1,hw1⟩:∃ w1,w1=w.alloc (.cells #[.int .i64 dk,.slice X dd.length xc,.int .i64 da,.int .i64 dw,.slice R ds.length rc] 82):=⟨_,rfl⟩
 have HB1:Hid (Below w.heap.size w w1):=Lib.hid (by rw [hw1];exact balloc (bself w) _)
 have HD1:Hid (BlkA w1 w.heap.size 82 #[.int .i64 dk,.slice X dd.length xc,.int .i64 da,.int .i64 dw,.slice R ds.length rc]):=Lib.hid (by rw [hw1];exact BlkA.new _ _ _)
 have g2:=HD1.out.get 2
 have g3:=HD1.out.get 3
 have g4:=HD1.out.get 4
 simp only [List.getElem?_toArray,List.getElem?_cons_succ,List.getElem?_cons_zero] at g2 g3 g4
 have c3:=(HB1.out.cell (p:=⟨G,3,none⟩) hF).trans c3
 have hF1:G<w1.heap.size:=Nat.lt_of_lt_of_le hF HB1.out.size
 have l1:=HD1.out.lt
 go_enter Try.func51,Try.ntmps51
 go_upto_region 1 with (fail)
 rw [← hw1]
 clear hw1
 go_cut [32] (fun s32 wx=>s32=.bool false∧Hid (Below w1.heap.size w1 wx))
 case first=>
  go_quiet (fail)
  go_wp2
  go_meet
  exact ⟨rfl,Lib.hid (by repeat (first | (with_reducible first | exact Below.refl _ _ | assumption | refine bset ?_ ?_ _ | refine balloc ?_ _ | refine Below.drew ?_ | refine bdrewN ?_ _ | refine bnext ?_ (by with_reducible assumption)) | exact Nat.le_refl _ | (simp;done) | omega | (simp;omega)))⟩
 case rest=>
  obtain ⟨rfl,HB2⟩:=hcut
  rename World=>w2
  have hb2:Below w.heap.size w w2:=HB1.out.trans (HB2.out.mono HB1.out.size)
  have HB02:=Lib.hid hb2
  have HD2:=Lib.hid (HD1.out.next HB2.out)
  have g4:=HD2.out.get 4
  simp only [List.getElem?_toArray,List.getElem?_cons_succ,List.getElem?_cons_zero] at g4
  have l2:=HD2.out.lt
  have HC3:=Lib.hid c3
  clear g2 g3 c3 hb2 q1 q2 q3 q4
  go_wp2
  go_loopw [40] (fun i wr=>∃ k:Nat,k≤ds.length∧i=.int .i64 k∧Hid (Below w2.heap.size w2 wr∧∀ j,j<k→sd.oddB s.next (ds.getD j Rng.z)=false)) (fun i _=>ds.length - (intOf i).toNat)
  case atStart=>exact ⟨0,by omega,rfl,Lib.hid ⟨bself _,fun j hj=>by omega⟩⟩
  case round=>
   obtain ⟨k,hk,rfl,HK⟩:=hrel
   rename World=>wr
   have hB0:Below w.heap.size w wr:=HB02.out.trans (HK.out.1.mono HB02.out.size)
   by_cases hlt:k<ds.length
   ·obtain ⟨g,o,rfl,hg,e0,e1⟩:=Rng.cells_at Rng.z (HR.out.below hB0) hlt
    have hlt':(k:Int)<(ds.length:Int):=by omega
    have hgr:g<wr.heap.size:=Nat.lt_of_lt_of_le hg hB0.size
    have c3:=((HB2.out.trans (HK.out.1.mono HB2.out.size)).cell (p:=⟨G,3,none⟩) hF1).trans HC3.out
    have hGr:G<wr.heap.size:=Nat.lt_of_lt_of_le hF hB0.size
    have HYES:Hid (sd.oddB s.next (ds.getD k Rng.z)=true→sd.heard s ⟨dk,dd,da,dw,ds⟩=(2,s)):=Lib.hid (fun h=>sd.heard_odd HN4.out k5 (sd.any_at hlt h))
    have HNOT:Hid (sd.oddB s.next (ds.getD k Rng.z)=false→∀ j,j<k+1→sd.oddB s.next (ds.getD j Rng.z)=false):=Lib.hid (fun h j hj=>by
     rcases Nat.lt_or_ge j k with h' | h'
     ·exact HK.out.2 j h'
     ·obtain rfl:j=k:=by omega
      exact h)
    generalize ds.getD k Rng.z=r at *
    have HB0:=Lib.hid hB0
    have HKB:=Lib.hid HK.out.1
    obtain ⟨x,y⟩:=r
    dsimp only at e0 e1
    clear HK hB0
    by_cases c1:x<0
    ·have HE:=Lib.hid (HYES.out (by unfold sd.oddB sd.odd;simp [c1]))
     go_wp2
     go_quiet (fail)
     go_wp2
     go_ret
     exact HNO.out _ HE.out _ (bdrewN (balloc HB0.out _) _)
    have q1:decide (x<0)=false:=by simpa using c1
    by_cases c2:y≤x
    ·have HE:=Lib.hid (HYES.out (by unfold sd.oddB sd.odd;simp [c2]))
     have q2:decide (y≤x)=true:=by simpa using c2
     go_wp2
     go_quiet (fail)
     go_wp2
     go_ret
     exact HNO.out _ HE.out _ (bdrewN (balloc HB0.out _) _)
    have q2:decide (y≤x)=false:=by simpa using c2
    by_cases c4:s.next<y
    ·have HE:=Lib.hid (HYES.out (by unfold sd.oddB sd.odd;simp [c4]))
     have q3:decide (s.next<y)=true:=by simpa using c4
     go_wp2
     go_quiet (fail)
     go_wp2
     go_ret
     exact HNO.out _ HE.out _ (bdrewN (balloc HB0.out _) _)
    have q3:decide (s.next<y)=false:=by simpa using c4
    have HR2:=Lib.hid (HNOT.out (decide_eq_false (fun e=>by unfold sd.odd at e;simp only at e;omega)))
    go_wp2
    go_quiet (fail)
    go_wp2
    go_roundw
    case rel=>exact ⟨k+1,by omega,by go_num,Lib.hid ⟨bdrewN (balloc HKB.out _) _,HR2.out⟩⟩
    case measure=>simp [intOf];omega
   ·obtain rfl:k=ds.length:=by omega
    have hany:sd.anyB ds s.next=false:=sd.any_no HK.out.2
    have HE:=Lib.hid (sd.heard_adds (s:=s) (d:=⟨dk,dd,da,dw,ds⟩) HN4.out k5 hany)
    have HOD:=Lib.hid (sd.not_odd hany)
    clear hany
    have hbr:Below w.heap.size w wr:=HB02.out.trans (HK.out.1.mono HB02.out.size)
    have HBR:=Lib.hid hbr
    have HHR:=Lib.hid (H.out.next hbr)
    have HDR:=Lib.hid (HD2.out.next HK.out.1)
    obtain ⟨n,hn⟩:∃ n:Nat,s.next=n:=⟨s.next.toNat,by omega⟩
    have HN:=Lib.hid hn
    have hkl:kl.length≤n:=by have:=HHR.out.len;omega
    have hn2:n≤1048576:=by omega
    have c3:=HHR.out.at_.blk.get 3
    have c4:=HHR.out.at_.blk.get 4
    have g2:=HDR.out.get 2
    have g4:=HDR.out.get 4
    simp only [List.getElem?_toArray,List.getElem?_cons_succ,List.getElem?_cons_zero] at c3 c4 g2 g4
    rw [hn] at c3
    have hGr:=HHR.out.at_.blk.lt
    have l1:=HDR.out.lt
    have hmk:=make_row (P:=Try.prog) (i:=Try.t4) (z:=.bool false) Try.underlying116 (by kernel_rfl) (by kernel_rfl) rfl rfl n (n:Int) rfl (by show 1 * _≤_;omega) (by omega)
    have hda:0≤da∧da≤n:=by omega
    clear hn k1 k2 k3 k4 k5 HK hlo hen hed
    go_upto_region 12 with (fail)
    generalize hw3:World.alloc wr _=w3
    have hw3':w3=wr.alloc (.cells (List.replicate n (Value.bool false)).toArray 4):=by rw [← hw3];simp
    clear hw3 hmk
    have hb3:Below wr.heap.size wr w3:=by rw [hw3'];exact balloc (bself wr) _
    have hz3:w3.heap.size=wr.heap.size+1:=by rw [hw3'];simp
    have HO3:Hid (Own w3 wr.heap.size 4 1 (some ⟨wr.heap.size,0,none⟩) n n (List.replicate n (Value.bool false))):=Lib.hid (by rw [hw3'];exact Own.lit wr _ _ 1 n _ (Nat.le_refl _) (by simp) (by unfold maxLen;omega))
    have c4:=(hb3.cell (p:=⟨G,4,none⟩) hGr).trans c4
    have hG3:G<w3.heap.size:=by omega
    have HCK:Hid (Cells w3 K (kl.map sd.bv)):=Lib.hid (HHR.out.at_.known.next hb3).cells
    have HB3:=Lib.hid hb3
    have HZ3:=Lib.hid hz3
    clear hw3' hb3 c3 hz3
    obtain ⟨w4,hcp,ho4,hg4⟩:=run_copy0 (P:=Try.prog) w3 116 116 3 elemBool wr.heap.size wr.heap.size n n _ HO3.out K kl.length kc (kl.map sd.bv) (by simp) hkl HCK.out (one_bools _)
    have HO4:=Lib.hid ho4
    have HG4:=Lib.hid hg4
    clear ho4 hg4
    go_upto_region 13 with (fail)
    clear hcp
    have hs34:w3.heap.size≤w4.heap.size:=HG4.out.grown.size
    have hz3:=HZ3.out
    have hb4:Below wr.heap.size wr w4:=HB3.out.trans (HG4.out.below (by omega) (fun k hk=>by cases hk;exact Nat.le_refl _))
    have g2:=(hb4.cell (p:=⟨w.heap.size,2,none⟩) l1).trans g2
    have g4:=(hb4.cell (p:=⟨w.heap.size,4,none⟩) l1).trans g4
    have l4:w.heap.size<w4.heap.size:=by omega
    have hr4:wr.heap.size<w4.heap.size:=by omega
    obtain ⟨kl1,hkl1⟩:∃ kl1,kl1=kl ++ List.replicate (n - kl.length) false:=⟨_,rfl⟩
    have HO5:Hid (Own w4 wr.heap.size 4 1 (some ⟨wr.heap.size,0,none⟩) n n (kl1.map sd.bv)):=Lib.hid (by rw [hkl1,← sd.pad_map kl n hkl];exact HO4.out)
    have HKN:Hid (sd.Knows kl1 s.done s.more):=Lib.hid (by rw [hkl1];exact HHR.out.knows.pad _)
    have HK1:Hid (kl1.length=n):=Lib.hid (by rw [hkl1,List.length_append,List.length_replicate];omega)
    have HB4:=Lib.hid hb4
    have hb04:Below w.heap.size w w4:=HBR.out.trans (hb4.mono HBR.out.size)
    have HB04:=Lib.hid hb04
    have HCL:Hid (∀ W,Below w4.heap.size w4 W→Cells W R (ds.flatMap Rng.cells)):=Lib.hid fun W hW=>((HR.out.next hb04).next hW).cells_flat Rng.cells rfl (fun a cs h=>Rng.rep_iff.1 h) (fun _=>rfl) (by decide)
    have HLN:Hid ((ds.flatMap Rng.cells).length=ds.length * 2):=Lib.hid (flatMap_len Rng.cells 2 (fun _=>rfl) ds)
    clear hkl1 HO4 HG4 hb4 hb04 c4 hz3 hs34 hG3 HO3
    go_wp2_with (first
     | (at_builtin;refine wp_app _ rfl _ _ _ rfl elemRng w4.heap.size (some ⟨w4.heap.size,0,none⟩) 1 1 [.int .i64 0,.int .i64 da] rfl (Own.lit w4 _ _ 2 1 _ (Nat.le_refl _) rfl (by decide)) R ds.length rc (ds.flatMap Rng.cells) rfl HLN.out (HCL.out _ (balloc (bself w4) _)) (Rng.one ds) (by omega) (by unfold maxLen;omega) (by simp) ?_;intro A5 c5 w5 ho5 hg5;have HO6:=Lib.hid ho5;have HG5:=Lib.hid hg5;clear ho5 hg5)
     | fail)
    generalize hm:1+ds.length=m at *
    obtain ⟨al,hal⟩:∃ al:List Rng,al=⟨0,da⟩ :: ds:=⟨_,rfl⟩
    have ham:al.length=m:=by rw [hal,List.length_cons];omega
    have hm4:m≤4:=by omega
    have HROW:Hid (SlRep Rng.rep w5 (fun k=>w4.heap.size≤k∧k<w5.heap.size) al A5 c5):=Lib.hid (Own.rng (n:=m) (by rw [hal,List.flatMap_cons];exact HO6.out)).2
    have HADD:Hid (sd.heard s ⟨dk,dd,da,dw,ds⟩=sd.heardOf s (da+dw) (sd.adds s.done s.more al)):=Lib.hid (by rw [HE.out,hal])
    have HBND:Hid (∀ r,r ∈ al→0≤r.lo∧r.lo≤r.hi∧r.hi≤n):=Lib.hid (fun r hr=>by
     rw [hal] at hr
     rcases List.mem_cons.1 hr with rfl | hr
     ·simp only;omega
     ·have h1:=HOD.out r hr
      have h2:=HN.out
      unfold sd.odd at h1
      omega)
    have hb45:Below w4.heap.size w4 w5:=(balloc (bself w4) _).trans (HG5.out.below (by simp) (fun k hk=>by cases hk;exact Nat.le_refl _))
    have HB45:=Lib.hid hb45
    have hs45:=hb45.size
    have HH0:Hid (sd.Hrs w5 w5 wr.heap.size s al n 0 s.done s.more kl1):=Lib.hid ⟨Stays.refl _ _,by rw [List.drop_zero],⟨HI.out.lo.1,HI.out.lo.2.1⟩,HI.out.canon,HI.out.hi,HI.out.few,HKN.out,HK1.out,HO5.out.next hb45,fun x hx=>hx⟩
    have HAM:=Lib.hid ham
    have HM:=Lib.hid hm
    clear hal ham hm hb45 g2 g4 HO6 HG5 HE HOD
    go_loopw [83] (fun i wq=>∃ (k:Nat) (d1:Int) (m1:List Rng) (klr:List Bool),k≤m∧i=.int .i64 k∧Hid (sd.Hrs w5 wq wr.heap.size s al n k d1 m1 klr)) (fun i _=>m - (intOf i).toNat)
    case atStart=>exact ⟨0,s.done,s.more,kl1,by omega,rfl,HH0⟩
    case round=>
     obtain ⟨k,d1,m1,klr,hk,rfl,HA⟩:=hrel
     rename World=>wq
     have hs5:w5.heap.size≤wq.heap.size:=HA.out.low.size
     by_cases hlt:k<m
     ·have hal:k<al.length:=by rw [HAM.out];exact hlt
      obtain ⟨g,o,rfl,hg,e0,e1⟩:=Rng.cells_at Rng.z (HROW.out.keep (S':=(· < wq.heap.size)) fun q hq=>⟨by omega,HA.out.low.block q hq.2 (by omega)⟩) hal
      have hlt':(k:Int)<1+(ds.length:Int):=by have:=HM.out;omega
      have hrb:=HBND.out (al.getD k Rng.z) (by rw [List.getD_eq_getElem?_getD,List.getElem?_eq_getElem hal];exact List.getElem_mem hal)
      have HDR2:Hid (al.drop k=al.getD k Rng.z :: al.drop (k+1)):=Lib.hid (by rw [drop_getD al Rng.z hal])
      generalize al.getD k Rng.z=r at *
      obtain ⟨x,y⟩:=r
      dsimp only at e0 e1 hrb
      obtain ⟨lo,rfl⟩:∃ lo:Nat,x=lo:=⟨x.toNat,by omega⟩
      obtain ⟨hi,rfl⟩:∃ hi:Nat,y=hi:=⟨y.toNat,by omega⟩
      have hlh:lo≤hi∧hi≤n:=by omega
      have hdr:=HA.out
      obtain ⟨w6,hw6⟩:∃ w6,w6=wq.alloc (.cells #[.int .i64 (lo:Int),.int .i64 (hi:Int)] 78):=⟨_,rfl⟩
      have hb6:Below wq.heap.size wq w6:=by rw [hw6];exact balloc (bself wq) _
      have HX6:Hid (BlkA w6 wq.heap.size 78 #[.int .i64 (lo:Int),.int .i64 (hi:Int)]):=Lib.hid (by rw [hw6];exact BlkA.new _ _ _)
      have HB6:=Lib.hid hb6
      have hz6:w6.heap.size=wq.heap.size+1:=by rw [hw6];simp
      have HZ6:=Lib.hid hz6
      have x0:=HX6.out.get 0
      simp only [List.getElem?_toArray,List.getElem?_cons_succ,List.getElem?_cons_zero] at x0
      have l6:=HX6.out.lt
      have HOW:Hid (Own w6 wr.heap.size 4 1 (some ⟨wr.heap.size,0,none⟩) n n (klr.map sd.bv)):=Lib.hid (HA.out.own.next hb6)
      clear hb6 hz6 hdr hrb
      go_upto_region 16 with (fail)
      rw [← hw6]
      clear hw6
      go_wp2
      go_loopw [10] (fun i wx=>∃ p:Nat,lo≤p∧p≤hi∧i=.int .i64 (p:Int)∧Hid (Stays w6 wx (fun q=>q=wr.heap.size)∧Own wx wr.heap.size 4 1 (some ⟨wr.heap.size,0,none⟩) n n ((sd.setT klr lo (p - lo)).map sd.bv))) (fun i _=>hi - (intOf i).toNat)
      case atStart=>exact ⟨lo,Nat.le_refl _,hlh.1,rfl,Lib.hid ⟨Stays.refl _ _,by rw [Nat.sub_self];exact HOW.out⟩⟩
      case round=>
       obtain ⟨p,hp1,hp2,rfl,HP⟩:=hrel
       rename World=>wx
       have hBx:BlkA wx wq.heap.size _ _:=HX6.out.stays HP.out.1 (by omega)
       have x1:=hBx.get 1
       simp only [List.getElem?_toArray,List.getElem?_cons_succ,List.getElem?_cons_zero] at x1
       have lx:=hBx.lt
       have HBX:=Lib.hid hBx
       clear hBx x0
       have hlen:(sd.setT klr lo (p - lo)).length=n:=by rw [sd.setT_len];exact HA.out.len
       by_cases hph:p<hi
       ·have hpn:(p:Int)<(n:Int):=by omega
        have hph':(p:Int)<(hi:Int):=by omega
        obtain ⟨g9,e9,_,l9,cp⟩:=sd.bool_at (K:=some ⟨wr.heap.size,0,none⟩) HP.out.2 (k:=p) (by omega)
        cases e9
        have fp:=HP.out.2.frozenAt p
        have HSM:=Lib.hid (sd.setT_map klr lo p hp1)
        go_wp2
        go_roundw
        case rel=>exact ⟨p+1,by omega,by omega,by go_num,Lib.hid ⟨HP.out.1.comp (Stays.set _ _ _ _),by rw [← HSM.out];exact HP.out.2.setAt _⟩⟩
        case measure=>simp [intOf];omega
       ·obtain rfl:p=hi:=by omega
        obtain ⟨d,v1,v2,v3,v4⟩:=HA.out.isl (r:=⟨(lo:Int),(p:Int)⟩) rfl rfl hlh.1 HN.out hlh.2
        have HIS:=ref_islands (sd.setT klr lo (p - lo)) wr.heap.size d (some ⟨wr.heap.size,0,none⟩) n wx (by rw [hlen];exact HP.out.2) v1 v2 v3 (by omega)
        rw [v4,hlen] at HIS
        have HIS:=Lib.hid HIS
        have HST6:Hid (Stays wq wx (fun q=>q=wr.heap.size)):=Lib.hid ((Stays.of_below HB6.out _).comp HP.out.1)
        by_cases hfull:16<(had.addTo d1 m1 ⟨(lo:Int),(p:Int)⟩).2.length
        ·have HR9:Hid (sd.heard s ⟨dk,dd,da,dw,ds⟩=(9,s)):=Lib.hid (by
          rw [HADD.out,← HA.out.same,HDR2.out,sd.adds,if_pos hfull]
          rfl)
         have HB9:Hid (Below w.heap.size w wx):=Lib.hid (HB04.out.trans ((HB45.out.mono (by omega)).trans ((HA.out.low.comp HST6.out).below (by omega) (fun q hq=>by omega))))
         have hfull':(16:Int)<((had.addTo d1 m1 ⟨(lo:Int),(p:Int)⟩).2.length:Int):=by omega
         generalize (had.addTo d1 m1 ⟨(lo:Int),(p:Int)⟩).2.length=q at *
         clear v1 v2 v3 v4 hlen
         go_wp2_with (first
          | (go_at_call 83;((with_reducible refine HIS.out.mono ?_);rintro e w7 ⟨rfl,rfl⟩))
          | fail)
         go_ret
         exact HNO.out _ HR9.out _ HB9.out
        ·have HNX:=Lib.hid (HA.out.next HDR2.out rfl rfl hlh.1 HN.out hlh.2 (by omega) HST6.out HP.out.2)
         have hfull':¬ (16:Int)<((had.addTo d1 m1 ⟨(lo:Int),(p:Int)⟩).2.length:Int):=by omega
         generalize (had.addTo d1 m1 ⟨(lo:Int),(p:Int)⟩).1=d2 at *
         generalize hm2:(had.addTo d1 m1 ⟨(lo:Int),(p:Int)⟩).2=m2 at *
         clear v1 v2 v3 v4 hlen hm2
         go_wp2_with (first
          | (go_at_call 83;((with_reducible refine HIS.out.mono ?_);rintro e w7 ⟨rfl,rfl⟩))
          | fail)
         go_roundw
         case rel=>exact ⟨k+1,d2,m2,_,by omega,by go_num,HNX⟩
         case measure=>simp [intOf];omega
     ·have hge:¬ (k:Int)<1+(ds.length:Int):=by have:=HM.out;omega
      obtain rfl:k=m:=by omega
      have hb0q:Below w.heap.size w wq:=HB04.out.trans ((HB45.out.mono (by omega)).trans (HA.out.low.below (by omega) (fun q hq=>by omega)))
      have HB0Q:=Lib.hid hb0q
      have HHQ:=Lib.hid (H.out.next hb0q)
      have HDQ:Hid (BlkA wq w.heap.size 82 #[.int .i64 dk,.slice X dd.length xc,.int .i64 da,.int .i64 dw,.slice R ds.length rc]):=Lib.hid (((HDR.out.next HB4.out).next HB45.out).stays HA.out.low (by omega))
      have HRES:Hid (sd.heard s ⟨dk,dd,da,dw,ds⟩=(0,{ s with done:=d1,more:=m1,edge:=max s.edge (da+dw) })):=Lib.hid (by
       have h:=HA.out.same
       rw [← HAM.out,List.drop_length,sd.adds] at h
       rw [HADD.out,← h]
       rfl)
      have hn4:=HN4.out
      have hdw:0≤dw∧dw≤65535:=by omega
      have hBw:B≤wr.heap.size:=by have:=H.out.at_.lo;omega
      have hwr0:w.heap.size≤wr.heap.size:=HBR.out.size
      have hed:=HI.out.edge
      have HFIN:Hid (∀ (e:Int) (w':World),max s.edge (da+dw)=e→OAt w' B G s.data s.closed e s.next klr todo D dc (some ⟨wr.heap.size,0,none⟩) n→Stays w w' (fun q=>q=G)→HrsRes w B G (sd.heard s ⟨dk,dd,da,dw,ds⟩) D dc K todo (.returned (.int .i64 0)) w'):=Lib.hid (fun e w' he ho hs=>by
       subst he
       rw [HRES.out]
       refine ⟨klr,_,n,rfl,⟨ho,HA.out.knows,by rw [HA.out.len,HN.out];exact Int.le_refl _,H.out.todo.1,H.out.todo.2.1,fun x hx1 hx2=>?_⟩,hs,fun q hq=>.inr (by cases hq;exact hwr0)⟩
       exact HA.out.more x (H.out.todo.2.2 x hx1 hx2))
      have f4:=HHQ.out.at_.blk.frozen 4
      have c4:=HHQ.out.at_.blk.get 4
      simp only [List.getElem?_toArray,List.getElem?_cons_succ,List.getElem?_cons_zero] at c4
      have hGq:=HHQ.out.at_.blk.lt
      clear hn4 hb0q
      go_upto_region 24 with (fail)
      generalize hw8:World.setCell wq _ _=w8
      have HO8:Hid (OAt w8 B G s.data s.closed s.edge s.next klr todo D dc (some ⟨wr.heap.size,0,none⟩) n):=Lib.hid (by rw [← hw8];exact HHQ.out.at_.putKnown (HA.out.own.base_le hBw) HA.out.len.symm)
      have HS8:Hid (Stays w w8 (fun q=>q=G)):=Lib.hid (by rw [← hw8];exact (Stays.of_below HB0Q.out _).comp (Stays.set _ _ _ _))
      have hD8:BlkA w8 w.heap.size 82 #[.int .i64 dk,.slice X dd.length xc,.int .i64 da,.int .i64 dw,.slice R ds.length rc]:=by rw [← hw8];exact HDQ.out.setCell (by simp only;omega) _
      clear hw8 f4 c4 hGq
      have c2:=HO8.out.blk.get 2
      have f2:=HO8.out.blk.frozen 2
      have g2:=hD8.get 2
      have g3:=hD8.get 3
      simp only [List.getElem?_toArray,List.getElem?_cons_succ,List.getElem?_cons_zero] at c2 g2 g3
      have hG8:=HO8.out.blk.lt
      have l8:=hD8.lt
      by_cases hmx:s.edge<da+dw
      ·have qm:decide (s.edge<da+dw)=true:=by simpa using hmx
       have HMX:Hid (max s.edge (da+dw)=da+dw):=Lib.hid (by omega)
       clear hD8 HDQ HDR
       go_wp2
       go_quiet (fail)
       go_wp2
       go_ret
       exact HFIN.out _ _ HMX.out ((HO8.out.next (bdrewN (bself _) _)).putEdge _) ((HS8.out.comp (Stays.of_below (bdrewN (bself _) _) _)).comp (Stays.set _ _ _ _))
      ·have qm:decide (s.edge<da+dw)=false:=by simpa using hmx
       have HMX:Hid (max s.edge (da+dw)=s.edge):=Lib.hid (by omega)
       clear hD8 HDQ HDR
       go_wp2
       go_quiet (fail)
       go_wp2
       go_ret
       exact HFIN.out _ _ HMX.out (HO8.out.next (bdrewN (bself _) _)) (HS8.out.comp (Stays.of_below (bdrewN (bself _) _) _))
end Go.Proofs.Ytdldfllllgogoaa
