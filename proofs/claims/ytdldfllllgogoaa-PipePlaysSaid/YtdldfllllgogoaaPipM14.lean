/- Texts in one: Pipe8, Pipe9, Pipe10, Pipe11. No condition. -/
import Derived.Test.YtdldfllllgogoaaPipM13
namespace Go.Proofs.Ytdldfllllgogoaa
open Go.RowKit
set_option linter.unusedSimpArgs false
theorem sent_field0 (v0 v1 v2 v3 v4 v5 v6:Value) (W:World):(Instr.field 49 (.agg #[v0,v1,v2,v3,v4,v5,v6]) 0).run Try.prog W=.ok v0 W:=by kernel_rfl
def ClRes (w:World) (AL:Nat) (p:Int) (al:Bool) (e:Ending) (w':World):Prop:=
 e=.returned (.int .i64 p)∧BlkA w' AL 4 #[.bool (al && decide (0≤p))]∧Stays w w' (fun k=>k=AL)
set_option maxHeartbeats 1000000 in
theorem pipe_heard1 (B W:Nat) (x:pp.Wire) (a:WAd) (s near:Int) (al:Bool) (X2 NB AL:Nat) (w:World) (h:WAt w B W x a) (hf:0≤x.first∧x.first<65536) (hs:0≤s∧s<65536) (hn:0≤near∧near≤1048576) (h2:BlkA w X2 86 #[.pointer (some ⟨W,0,none⟩)]) (h3:BlkA w NB 3 #[.int .i64 near]) (h4:BlkA w AL 4 #[.bool al]) :
  Calls Try.prog 104 #[.int .i64 s,.pointer (some ⟨X2,0,none⟩),.pointer (some ⟨NB,0,none⟩),.pointer (some ⟨AL,0,none⟩)] w (ClRes w AL (pp.place x s near) al):=by
 have HPL:=Lib.hid (pipe_place B W x a s near w h hf hs hn)
 have c2:=h2.get 0
 have c3:=h3.get 0
 have HA:=Lib.hid h4
 simp only [List.getElem?_toArray,List.getElem?_cons_zero] at c2 c3
 generalize pp.place x s near=p at *
 clear h h2 h3 h4
 go_enter Try.func104,Try.ntmps104
 go_upto_region 2 with (first
  | (go_at_call 87;((with_reducible refine HPL.out.mono ?_);rintro e w1 ⟨rfl,hb1⟩;have a1:=HA.out.next hb1;have c4:=a1.get 0;have f4:=a1.frozen 0;have l4:=a1.lt;have HB1:=Lib.hid hb1;have HA1:=Lib.hid a1;clear hb1 a1))
  | fail)
 simp only [List.getElem?_toArray,List.getElem?_cons_zero] at c4
 have HFIN:Hid (∀ (v:Bool),(al && decide (0≤p))=v→ClRes w AL p al (.returned (.int .i64 p)) (w1.setCell ⟨AL,0,none⟩ (.bool v))):=Lib.hid (fun v hv=>by
  subst hv
  exact ⟨rfl,by simpa using HA1.out.set 0 (.bool (al && decide (0≤p))),(Stays.of_below HB1.out _).comp (Stays.set _ _ _ _)⟩)
 cases al with
 | true=>
  go_wp2
  go_ret
  exact HFIN.out _ (Bool.true_and _)
 | false=>
  go_wp2
  go_ret
  exact HFIN.out _ rfl
/-- in heard: the deed as far as it is made -/
structure HdMid (w5 wx:World) (AL U:Nat) (p wn:Int) (E:Option Addr) (k ec:Nat) (al:Bool) (xs:List Value):Prop where
 stay:Stays w5 wx (fun q=>q=AL)
 al:BlkA wx AL 4 #[.bool al]
 deed:BlkA wx U 82 #[.int .i64 2,.slice none 0 0,.int .i64 p,.int .i64 wn,.slice E k ec]
 own:Own wx w5.heap.size 78 2 E k ec xs
 new:w5.heap.size≤U
theorem BlkA.five {w:World} {F:Nat} {T:TypeId} {a0 a1 a2 a3 a4:Value} (h:BlkA w F T #[a0,a1,a2,a3,a4]) (v0 v1 v2 v3 v4:Value):BlkA (((((w.setCell ⟨F,0,none⟩ v0).setCell ⟨F,1,none⟩ v1).setCell ⟨F,2,none⟩ v2).setCell ⟨F,3,none⟩ v3).setCell ⟨F,4,none⟩ v4) F T #[v0,v1,v2,v3,v4]:=by
 have h:=((((h.set 0 v0).set 1 v1).set 2 v2).set 3 v3).set 4 v4
 simpa using h
theorem Stays.five (w:World) (F:Nat) (v0 v1 v2 v3 v4:Value):Stays w (((((w.setCell ⟨F,0,none⟩ v0).setCell ⟨F,1,none⟩ v1).setCell ⟨F,2,none⟩ v2).setCell ⟨F,3,none⟩ v3).setCell ⟨F,4,none⟩ v4) (fun k=>k=F):=
 ((((Stays.set _ _ _ _).comp (Stays.set _ _ _ _)).comp (Stays.set _ _ _ _)).comp (Stays.set _ _ _ _)).comp (Stays.set _ _ _ _)
theorem rngNeDeed:78≠82:=by decide
/-- all that were placed so far are at 0 or above -/
def pp.allOk (x:pp.Wire) (p:Int) (l:List Rng):Bool:=decide (0≤p) && l.all fun r=>decide (0≤(pp.backR x r).lo) && decide (0≤(pp.backR x r).hi)
theorem pp.allOk_snoc (x:pp.Wire) (p:Int) (l:List Rng) (r:Rng):pp.allOk x p (l ++ [r])=((pp.allOk x p l && decide (0≤(pp.backR x r).lo)) && decide (0≤(pp.backR x r).hi)):=by
 unfold pp.allOk
 rw [List.all_append,List.all_cons,List.all_nil,Bool.and_true]
 simp only [Bool.and_assoc]
theorem pp.allOk_not (x:pp.Wire) (s:Segment):pp.anyBelow (pp.backD x s) = !pp.allOk x (pp.place x s.ack x.snd.done) s.sacks:=by
 unfold pp.anyBelow pp.allOk pp.backD
 simp only
 rw [Bool.not_and,List.any_map,List.not_all_eq_any_not]
 congr 1
 ·by_cases c:pp.place x s.ack x.snd.done<0
  ·rw [decide_eq_true c,decide_eq_false (by omega)];rfl
  ·rw [decide_eq_false c,decide_eq_true (by omega)];rfl
 ·congr 1
  funext r
  show pp.belowR (pp.backR x r)=_
  unfold pp.belowR
  by_cases c1:(pp.backR x r).lo<0
  ·rw [decide_eq_true (.inl c1),decide_eq_false (by omega:¬ 0≤(pp.backR x r).lo)];rfl
  ·by_cases c2:(pp.backR x r).hi<0
   ·rw [decide_eq_true (.inr c2),decide_eq_false (by omega:¬ 0≤(pp.backR x r).hi),Bool.and_false];rfl
   ·rw [decide_eq_false (by omega),decide_eq_true (by omega:0≤(pp.backR x r).lo),decide_eq_true (by omega:0≤(pp.backR x r).hi)];rfl
set_option maxRecDepth 100000 in
set_option maxHeartbeats 4000000 in
theorem pipe_heard (B W:Nat) (x:pp.Wire) (a:WAd) (id:Int) (w:World) (h:WAt w B W x a) {kk:Nat} (hi:pp.Inv x kk) (hkk:kk≤1000) (hid:IntOk id) :
  Calls Try.prog 89 #[.pointer (some ⟨W,0,none⟩),.int .i64 id] w (PasRes w B W x a (pp.no (pp.heard x id).1,(pp.heard x id).2)):=by
 have H:=Lib.hid h
 have HI:=Lib.hid hi
 have hW:=h.blk.lt
 have hl:x.frames.length≤1000:=Nat.le_trans hi.few hkk
 obtain ⟨w1,hw1⟩:∃ w1,w1=(w.alloc (.cells #[.pointer (some ⟨W,0,none⟩)] 86)).alloc (.cells #[.int .i64 0,.bool false,.int .i64 0,.slice none 0 0,.bool false,.int .i64 0] 58):=⟨_,rfl⟩
 have hb1:Below w.heap.size w w1:=by rw [hw1];exact balloc (balloc (bself w) _) _
 have hz1:w1.heap.size=w.heap.size+1+1:=by rw [hw1];simp
 have HP1:Hid (BlkA w1 w.heap.size 86 #[.pointer (some ⟨W,0,none⟩)]):=Lib.hid (by rw [hw1];exact (BlkA.new _ _ _).alloc _)
 have HZ1:Hid (BlkA w1 (w.heap.size+1) 58 #[.int .i64 0,.bool false,.int .i64 0,.slice none 0 0,.bool false,.int .i64 0]):=Lib.hid (by
  rw [hw1]
  have h:=BlkA.new (w.alloc (.cells #[.pointer (some ⟨W,0,none⟩)] 86)) 58 #[.int .i64 0,.bool false,.int .i64 0,.slice none 0 0,.bool false,.int .i64 0]
  simpa using h)
 have HB1:=Lib.hid hb1
 have HTK:=Lib.hid (pipe_taken B W x a id true w1 (h.next hb1) hl hid hi.size)
 have HCA:Hid (pp.heard x id=pp.heardOf x (pp.taken x id true)):=Lib.hid rfl
 have HER:=Lib.hid (fun c=>pp.taken_err (x:=x) (id:=id) (b:=true) (c:=c))
 have HOK:=Lib.hid (fun s=>pp.taken_ok (x:=x) (id:=id) (b:=true) (s:=s))
 have HWL:=Lib.hid (fun k (hk:WF W x a k)=>(h.lt hk).2)
 generalize pp.taken x id true=r at *
 have pd:=HP1.out.get 0
 simp only [List.getElem?_toArray,List.getElem?_cons_zero] at pd
 have lp:=HP1.out.lt
 have hz:=HZ1.out.lt
 clear h hi hb1
 go_enter Try.func89,Try.ntmps89
 go_upto_region 1 with (fail)
 rw [← hw1]
 clear hw1
 go_upto_region 2 with (first
  | (go_at_call 86;((with_reducible refine HTK.out.mono ?_);rintro e w2 hres;obtain ⟨sq,ak,wn,sy,fi,rs,as_,sk,dt,A0,c0,A1,c1,hseg,rfl,r0,r1,hb2⟩:=SegRes.open hres;have HSG:=Lib.hid hseg;have R0:=Lib.hid r0;have HB2:=Lib.hid hb2;clear hres hseg r0 r1 hb2))
  | fail)
 generalize hw3:World.alloc w2 _=w3
 generalize hT:w2.heap.size=T
 have hb23:Below w2.heap.size w2 w3:=by rw [← hw3];exact balloc (bself w2) _
 have HBT:Hid (BlkA w3 T 134 #[.int .i64 sq,.int .i64 ak,.int .i64 wn,.bool sy,.bool fi,.bool rs,.bool as_,.slice A0 sk.length c0,.slice A1 dt.length c1]):=Lib.hid (by rw [← hw3,← hT];exact BlkA.new _ _ _)
 have hz3:w3.heap.size=T+1:=by rw [← hw3,← hT];simp
 have hs2:=HB2.out.size
 have hT1:w1.heap.size≤T:=by omega
 have hb13:Below w1.heap.size w1 w3:=bnext HB2.out hb23
 have hb03:Below w.heap.size w w3:=bnext HB1.out hb13
 have HB03:=Lib.hid hb03
 have H3:=Lib.hid (H.out.next hb03)
 have HZ3:=Lib.hid (HZ1.out.next hb13)
 have HP3:=Lib.hid (HP1.out.next hb13)
 have zd:=HZ3.out.get
 have ze:=HZ3.out.frozen
 have lz:=HZ3.out.lt
 have R0:Hid (SlRep Rng.rep w3 (fun k=>w1.heap.size≤k∧k<T) sk A0 c0):=Lib.hid (R0.out.keep fun q hq=>⟨⟨hq.1,by omega⟩,hb23.block q hq.2⟩)
 have HNZ:Hid (¬ WF W x a (w.heap.size+1)):=Lib.hid (fun e=>by have:=HWL.out _ e;omega)
 clear hw3 hT hb23 hb13 hb03 hs2 HB2 pd lp
 cases r with
 | error c=>
  have hc:=HER.out c rfl
  have q1:(c != 0)=true:=by simpa using hc
  have q2:(c == 0)=false:=by simpa using hc
  have HNO:=Lib.hid (fun wx=>pipe_no c wx)
  have HFIN:Hid (∀ wx w',Below w3.heap.size w3 wx→Stays wx w' (fun k=>k=w.heap.size+1)→PasRes w B W x a (pp.no (pp.heard x id).1,(pp.heard x id).2) (.returned (.agg #[.int .i64 c,.bool false,.int .i64 0,.slice none 0 0,.bool false,.int .i64 0])) w'):=Lib.hid (fun wx w' hb hs=>by
   rw [HCA.out]
   exact PasRes.plain (r:=(pp.no c,x)) (a1:=a) rfl (H3.out.next hb) ((Stays.of_below HB03.out _).comp (Stays.of_below hb _)) (fun k hk=>.inl hk) (hs.mono fun k hk e=>⟨by omega,fun e2=>by have:=HWL.out k e2;omega⟩))
  simp only [exC]
  clear hc
  go_wp2_with (first
   | (go_at_call 57;((with_reducible refine (HNO.out _).mono ?_);rintro e w4 ⟨rfl,hb4⟩;have z4:=HZ3.out.next hb4;have zd:=z4.get;have ze:=z4.frozen;have lz4:=z4.lt;have HB4:=Lib.hid hb4;clear hb4 z4))
   | fail)
  refine bodyPost_ret (v:=.agg #[.int .i64 c,.bool false,.int .i64 0,.slice none 0 0,.bool false,.int .i64 0]) (by simp [results,Try.results89,go_sem, *]) rfl (HFIN.out _ _ HB4.out ?_)
  exact Stays.sixP _ _ _ _ _ _ _ _
 | ok s=>
  have hfa:=sg.may_ok (HOK.out s rfl)
  have hseg:s=⟨sq,ak,wn,sy,fi,rs,as_,sk,dt⟩:=HSG.out
  subst hseg
  simp only at hfa
  obtain ⟨_,hak,hwn,hskl,_,hskb⟩:=hfa
  have HSK:=Lib.hid hskb
  have hdn:0≤x.snd.done∧x.snd.done≤1048576:=by have:=HI.out.snd.lo;have:=HI.out.snd.end_;omega
  have HDN:Hid (Calls Try.prog 103 #[.pointer (some ⟨a.FS,0,none⟩)] w3 fun e w'=>e=.returned (.int .i64 x.snd.done)∧w3=w'):=Lib.hid (send_Done B a.FS x.snd a.Ds a.dcs a.Ms a.mcs w3 H3.out.snd)
  have p1:=H3.out.ptrS
  have hW3:=H3.out.blk.lt
  have pd:=HP3.out.get 0
  simp only [List.getElem?_toArray,List.getElem?_cons_zero] at pd
  have lp:=HP3.out.lt
  simp only [exC]
  clear hskb
  go_upto_region 7 with (first
   | (go_at_call 103;((with_reducible refine HDN.out.mono ?_);rintro e _ ⟨rfl,rfl⟩))
   | fail)
  generalize hw5:World.alloc (World.alloc w3 _) _=w5
  have hb35:Below w3.heap.size w3 w5:=by rw [← hw5];exact balloc (balloc (bself w3) _) _
  have hz5:w5.heap.size=T+1+1+1:=by rw [← hw5];simp;omega
  have HNB:Hid (BlkA w5 (T+1) 3 #[.int .i64 x.snd.done]):=Lib.hid (by rw [← hw5,← hz3];exact (BlkA.new _ _ _).alloc _)
  have HAL:Hid (BlkA w5 (T+1+1) 4 #[.bool true]):=Lib.hid (by
   rw [← hw5]
   have h9:=BlkA.new (w3.alloc (.cells #[.int .i64 x.snd.done] 3)) 4 #[.bool true]
   rw [World.size_alloc,hz3] at h9
   exact h9)
  have H5:=Lib.hid (H3.out.next hb35)
  have HP5:=Lib.hid (HP3.out.next hb35)
  have HZ5:=Lib.hid (HZ3.out.next hb35)
  have HT5:=Lib.hid (HBT.out.next hb35)
  have HB05:=Lib.hid (bnext HB03.out hb35)
  have R5:Hid (SlRep Rng.rep w5 (fun k=>w1.heap.size≤k∧k<T) sk A0 c0):=Lib.hid (R0.out.keep fun q hq=>⟨hq,hb35.block q (by omega)⟩)
  have lT5:=HT5.out.lt
  have HW3:Hid (∀ k,WF W x a k→k<w.heap.size):=HWL
  have HCL:Hid (∀ (wx:World) (al:Bool) (n:Int),Stays w5 wx (fun q=>q=T+1+1)→BlkA wx (T+1+1) 4 #[.bool al]→(0≤n∧n<65536)→Calls Try.prog 104 #[.int .i64 n,.pointer (some ⟨w.heap.size,0,none⟩),.pointer (some ⟨T+1,0,none⟩),.pointer (some ⟨T+1+1,0,none⟩)] wx (ClRes wx (T+1+1) (pp.place x n x.snd.done) al)):=Lib.hid (fun wx al n hs ha hn=>pipe_heard1 B W x a n x.snd.done al w.heap.size (T+1) (T+1+1) wx (H5.out.stays hs (fun k hk e=>by have:=HW3.out k hk;omega)) HI.out.first hn hdn (HP5.out.stays hs (by omega)) (HNB.out.stays hs (by omega)) ha)
  have HSS6:Hid (∀ wx,Stays w5 wx (fun q=>q=T+1+1)→wx.cell? ⟨T,1,none⟩=some (.int .i64 ak)∧wx.cell? ⟨T,2,none⟩=some (.int .i64 wn)):=Lib.hid (fun wx hs=>by
   have h9:=HT5.out.stays hs (by omega)
   exact ⟨h9.get 1,h9.get 2⟩)
  have HSS:Hid (∀ wx,Below w5.heap.size w5 wx→wx.cell? ⟨T,1,none⟩=some (.int .i64 ak)∧wx.cell? ⟨T,2,none⟩=some (.int .i64 wn)):=Lib.hid (fun wx hb=>HSS6.out wx (Stays.of_below hb _))
  have HSX:=Lib.hid (fun wy (hb:Below w5.heap.size w5 wy)=>HSS.out wy hb)
  obtain ⟨p0,hp0⟩:∃ p0,pp.place x ak x.snd.done=p0:=⟨_,rfl⟩
  have HP0:=Lib.hid hp0
  have HMA:Hid (∀ w6,BlkA w6 (T+1+1) 4 #[.bool (true && decide (0≤pp.place x ak x.snd.done))]→Stays w5.drew w6 (fun q=>q=T+1+1)→HdMid w5 (w6.alloc (.cells #[.int .i64 2,.slice none 0 0,.int .i64 p0,.int .i64 wn,.slice none 0 0] 82)) (T+1+1) w6.heap.size p0 wn none 0 0 (true && decide (0≤p0)) []):=Lib.hid (fun w6 ha hs=>by
   have hs':Stays w5 w6 (fun q=>q=T+1+1):=(Stays.of_below (Below.drew (bself w5)) _).comp hs
   rw [hp0] at ha
   exact ⟨hs'.comp (Stays.of_below (balloc (bself w6) _) _),ha.alloc _,BlkA.new _ _ _,Own.nil _ _ _ _,hs'.size⟩)
  have HMB:Hid (∀ w6,BlkA w6 (T+1+1) 4 #[.bool (true && decide (0≤pp.place x ak x.snd.done))]→Stays (w5.alloc (.cells #[.int .i64 0,.slice none 0 0,.int .i64 0,.int .i64 0,.slice none 0 0] 82)).drew w6 (fun q=>q=T+1+1)→HdMid w5 (((((w6.setCell ⟨T+1+1+1,0,none⟩ (.int .i64 2)).setCell ⟨T+1+1+1,1,none⟩ (.slice none 0 0)).setCell ⟨T+1+1+1,2,none⟩ (.int .i64 p0)).setCell ⟨T+1+1+1,3,none⟩ (.int .i64 wn)).setCell ⟨T+1+1+1,4,none⟩ (.slice none 0 0)) (T+1+1) (T+1+1+1) p0 wn none 0 0 (true && decide (0≤p0)) []):=Lib.hid (fun w6 ha hs=>by
   have hb:Below w5.heap.size w5 (w5.alloc (.cells #[.int .i64 0,.slice none 0 0,.int .i64 0,.int .i64 0,.slice none 0 0] 82)).drew:=Below.drew (balloc (bself w5) _)
   have hd:BlkA (w5.alloc (.cells #[.int .i64 0,.slice none 0 0,.int .i64 0,.int .i64 0,.slice none 0 0] 82)).drew (T+1+1+1) 82 #[.int .i64 0,.slice none 0 0,.int .i64 0,.int .i64 0,.slice none 0 0]:=by rw [← hz5];exact BlkA.new w5 _ _
   rw [hp0] at ha
   have st:=Stays.five w6 (T+1+1+1) (.int .i64 2) (.slice none 0 0) (.int .i64 p0) (.int .i64 wn) (.slice none 0 0)
   exact ⟨((Stays.of_below hb _).comp hs).trans st (fun k hk e=>by omega),ha.stays st (by omega),(hd.stays hs (by omega)).five _ _ _ _ _,Own.nil _ _ _ _,by omega⟩)
  have HZD:Hid (∀ w6,Stays (w5.alloc (.cells #[.int .i64 0,.slice none 0 0,.int .i64 0,.int .i64 0,.slice none 0 0] 82)).drew w6 (fun q=>q=T+1+1)→BlkA w6 (T+1+1+1) 82 #[.int .i64 0,.slice none 0 0,.int .i64 0,.int .i64 0,.slice none 0 0]):=Lib.hid (fun w6 hs=>by
   have hd:BlkA (w5.alloc (.cells #[.int .i64 0,.slice none 0 0,.int .i64 0,.int .i64 0,.slice none 0 0] 82)).drew (T+1+1+1) 82 #[.int .i64 0,.slice none 0 0,.int .i64 0,.int .i64 0,.slice none 0 0]:=by rw [← hz5];exact BlkA.new w5 _ _
   exact hd.stays hs (by omega))
  have hp5:=pp.place_bd x (s:=ak) hdn
  rw [hp0] at hp5
  clear hw5 hb35 pd lp p1 zd ze lz
  go_cut [10] (fun s10 wx=>∃ U,s10=.pointer (some ⟨U,0,none⟩)∧Hid (HdMid w5 wx (T+1+1) U p0 wn none 0 0 (true && decide (0≤p0)) []))
  case first=>
   refine wp_region_tail [8] (fun wx=>wx.cell? ⟨T,1,none⟩=some (.int .i64 ak)∧wx.cell? ⟨T,2,none⟩=some (.int .i64 wn)) (by kernel_rfl) (HSS.out w5 (bself _)) ?_
   intro hHeld
   refine zP 0 (v:=?_) ?_ (fun _=>hHeld) ?_
   rotate_left
   ·intro w9;go_simp;try with_reducible rfl
   try simp only [Act.put,zA,zB,zC,zD,zE,zF]
   refine zP 1 (v:=?_) ?_ (fun _=>hHeld) ?_
   rotate_left
   ·intro w9;go_simp;try with_reducible rfl
   try simp only [Act.put,zA,zB,zC,zD,zE,zF]
   refine zP 4 (v:=?_) ?_ (fun _=>hHeld) ?_
   rotate_left
   ·intro w9;go_simp;try with_reducible rfl
   try simp only [Act.put,zA,zB,zC,zD,zE,zF]
   refine zT 2 [3,6,8] (v:=?_) ?_ hHeld ?_
   rotate_left
   ·intro w9 hS9;(try dsimp only at hS9);obtain ⟨q1,q2⟩:=hS9;go_simp;try with_reducible rfl
   try simp only [Act.put,zA,zB,zC,zD,zE,zF]
   refine zT 5 [6,8] (v:=?_) ?_ hHeld ?_
   rotate_left
   ·intro w9 hS9;(try dsimp only at hS9);obtain ⟨q1,q2⟩:=hS9;go_simp;try with_reducible rfl
   try simp only [Act.put,zA,zB,zC,zD,zE,zF]
   refine wpAnyT_fork (i:=3) (j:=7) (by kernel_rfl) rfl rfl ?_ ?_
   ·intro K hK
    go_simp
    go_at_call 104
    refine (HCL.out _ true ak (Stays.of_below (by exact (by repeat (first | (with_reducible first | exact Below.refl _ _ | assumption | refine bset ?_ ?_ _ | refine balloc ?_ _ | refine Below.drew ?_ | refine bdrewN ?_ _ | refine bnext ?_ (by with_reducible assumption)) | exact Nat.le_refl _ | (simp;done) | omega | (simp;omega)))) _) (HAL.out.next (by exact (by repeat (first | (with_reducible first | exact Below.refl _ _ | assumption | refine bset ?_ ?_ _ | refine balloc ?_ _ | refine Below.drew ?_ | refine bdrewN ?_ _ | refine bnext ?_ (by with_reducible assumption)) | exact Nat.le_refl _ | (simp;done) | omega | (simp;omega))))) hak).mono ?_
    rintro e w6 ⟨rfl,g1,g2⟩
    have HA6:=Lib.hid g1
    have HG6:=Lib.hid g2
    have hst6:Stays w5 w6 (fun q=>q=T+1+1):=(Stays.of_below (by exact (by repeat (first | (with_reducible first | exact Below.refl _ _ | assumption | refine bset ?_ ?_ _ | refine balloc ?_ _ | refine Below.drew ?_ | refine bdrewN ?_ _ | refine bnext ?_ (by with_reducible assumption)) | exact Nat.le_refl _ | (simp;done) | omega | (simp;omega)))) _).comp g2
    have HST6:=Lib.hid hst6
    have hs6:=HSS6.out w6 hst6
    (try with_reducible have zu:=(HZD.out w6 g2).get)
    (try with_reducible have zv:=(HZD.out w6 g2).frozen)
    (try with_reducible have zl:=(HZD.out w6 g2).lt)
    have HSX:=Lib.hid (fun wy (hb:Below w6.heap.size w6 wy)=>HSS6.out wy (HST6.out.comp (Stays.of_below hb _)))
    clear hst6
    clear g1 g2
    go_simp
    have hHeld2:=hs6
    refine hK.out _ _ (fun _=>hHeld2) ?_
    clear hK K hHeld
    have hHeld:=hHeld2
    clear hHeld2
    try simp only [Act.put,zA,zB,zC,zD,zE,zF]
    refine zP 6 (v:=?_) ?_ (fun _=>hHeld) ?_
    rotate_left
    ·intro w9;go_simp;try with_reducible rfl
    try simp only [Act.put,zA,zB,zC,zD,zE,zF]
    refine wpAnyT_next (i:=7) (by kernel_rfl) rfl ?_
    intro K hK
    go_simp
    refine hK.out _ _ (fun _=>(HSX.out _ (by exact (by repeat (first | (with_reducible first | exact Below.refl _ _ | assumption | refine bset ?_ ?_ _ | refine balloc ?_ _ | refine Below.drew ?_ | refine bdrewN ?_ _ | refine bnext ?_ (by with_reducible assumption)) | exact Nat.le_refl _ | (simp;done) | omega | (simp;omega)))))) ?_
    clear hK K
    try simp only [Act.put,zA,zB,zC,zD,zE,zF]
    refine wpAnyT_next (i:=8) (by kernel_rfl) rfl ?_
    intro K hK
    go_simp
    refine hK.out _ _ (zN (by kernel_rfl)) ?_
    clear hK K
    refine wpAnyT_done (by kernel_rfl) ?_ _
    go_wp2
    go_meet
    first
     | (with_reducible exact ⟨_,rfl,Lib.hid (HMB.out _ HA6.out HG6.out)⟩)
     | (with_reducible exact ⟨_,rfl,Lib.hid (HMA.out _ HA6.out HG6.out)⟩)
     | trace_state
   ·intro K hK
    go_simp
    refine hK.out _ _ (fun _=>(HSX.out _ (by exact (by repeat (first | (with_reducible first | exact Below.refl _ _ | assumption | refine bset ?_ ?_ _ | refine balloc ?_ _ | refine Below.drew ?_ | refine bdrewN ?_ _ | refine bnext ?_ (by with_reducible assumption)) | exact Nat.le_refl _ | (simp;done) | omega | (simp;omega)))))) ?_
    clear hK K
    try simp only [Act.put,zA,zB,zC,zD,zE,zF]
    refine wpAnyT_next (i:=3) (by kernel_rfl) rfl ?_
    intro K hK
    go_simp
    go_at_call 104
    refine (HCL.out _ true ak (Stays.of_below (by exact (by repeat (first | (with_reducible first | exact Below.refl _ _ | assumption | refine bset ?_ ?_ _ | refine balloc ?_ _ | refine Below.drew ?_ | refine bdrewN ?_ _ | refine bnext ?_ (by with_reducible assumption)) | exact Nat.le_refl _ | (simp;done) | omega | (simp;omega)))) _) (HAL.out.next (by exact (by repeat (first | (with_reducible first | exact Below.refl _ _ | assumption | refine bset ?_ ?_ _ | refine balloc ?_ _ | refine Below.drew ?_ | refine bdrewN ?_ _ | refine bnext ?_ (by with_reducible assumption)) | exact Nat.le_refl _ | (simp;done) | omega | (simp;omega))))) hak).mono ?_
    rintro e w6 ⟨rfl,g1,g2⟩
    have HA6:=Lib.hid g1
    have HG6:=Lib.hid g2
    have hst6:Stays w5 w6 (fun q=>q=T+1+1):=(Stays.of_below (by exact (by repeat (first | (with_reducible first | exact Below.refl _ _ | assumption | refine bset ?_ ?_ _ | refine balloc ?_ _ | refine Below.drew ?_ | refine bdrewN ?_ _ | refine bnext ?_ (by with_reducible assumption)) | exact Nat.le_refl _ | (simp;done) | omega | (simp;omega)))) _).comp g2
    have HST6:=Lib.hid hst6
    have hs6:=HSS6.out w6 hst6
    (try with_reducible have zu:=(HZD.out w6 g2).get)
    (try with_reducible have zv:=(HZD.out w6 g2).frozen)
    (try with_reducible have zl:=(HZD.out w6 g2).lt)
    have HSX:=Lib.hid (fun wy (hb:Below w6.heap.size w6 wy)=>HSS6.out wy (HST6.out.comp (Stays.of_below hb _)))
    clear hst6
    clear g1 g2
    go_simp
    have hHeld2:=hs6
    refine hK.out _ _ (fun _=>hHeld2) ?_
    clear hK K hHeld
    have hHeld:=hHeld2
    clear hHeld2
    try simp only [Act.put,zA,zB,zC,zD,zE,zF]
    refine zP 6 (v:=?_) ?_ (fun _=>hHeld) ?_
    rotate_left
    ·intro w9;go_simp;try with_reducible rfl
    try simp only [Act.put,zA,zB,zC,zD,zE,zF]
    refine wpAnyT_next (i:=8) (by kernel_rfl) rfl ?_
    intro K hK
    go_simp
    refine hK.out _ _ (zN (by kernel_rfl)) ?_
    clear hK K
    refine wpAnyT_done (by kernel_rfl) ?_ _
    go_wp2
    go_meet
    first
     | (with_reducible exact ⟨_,rfl,Lib.hid (HMB.out _ HA6.out HG6.out)⟩)
     | (with_reducible exact ⟨_,rfl,Lib.hid (HMA.out _ HA6.out HG6.out)⟩)
     | trace_state
  case rest=>
   obtain ⟨U,rfl,HM⟩:=hcut
   rename World=>wm
   obtain ⟨n,hn'⟩:∃ n,sk.length=n:=⟨_,rfl⟩
   have HN:=Lib.hid hn'
   have hT6:=HT5.out.stays HM.out.stay (by omega)
   have td:=hT6.get
   have lT6:=hT6.lt
   rw [hn'] at hskl
   simp only [hn'] at td
   have HM0:Hid (HdMid w5 wm (T+1+1) U p0 wn none 0 0 (pp.allOk x p0 (sk.take 0)) (((sk.take 0).map (pp.backR x)).flatMap Rng.cells)):=Lib.hid (by
    have e9:pp.allOk x p0 (sk.take 0)=(true && decide (0≤p0)):=by simp [pp.allOk]
    rw [e9]
    exact HM.out)
   clear hT6 hn' HM HSS HSS6 HSX HMA HMB HZD hp0
   go_wp2
   go_loopw [39] (fun i wr=>∃ (k:Nat) (E:Option Addr) (ec:Nat),k≤n∧i=.int .i64 (k:Int)∧Hid (HdMid w5 wr (T+1+1) U p0 wn E k ec (pp.allOk x p0 (sk.take k)) (((sk.take k).map (pp.backR x)).flatMap Rng.cells))) (fun i _=>n - (intOf i).toNat)
   case atStart=>exact ⟨0,none,0,by omega,rfl,HM0⟩
   case round=>
    obtain ⟨k,E,ec,hk,rfl,HK⟩:=hrel
    rename World=>wr
    by_cases hkn:k<n
    ·--[v
     have hlt:k<sk.length:=by rw [HN.out];exact hkn
     have hsw:=HK.out.stay.size
     obtain ⟨g,o,rfl,hg,e0,e1⟩:=Rng.cells_at Rng.z (R5.out.keep (S':=(· < wr.heap.size)) fun q hq=>⟨by omega,HK.out.stay.block q (by omega) (by omega)⟩) hlt
     have hlt':(k:Int)<(n:Int):=by omega
     have hrb:=HSK.out (sk.getD k Rng.z) (by rw [List.getD_eq_getElem?_getD,List.getElem?_eq_getElem hlt];exact List.getElem_mem hlt)
     have HTA:Hid (((sk.take (k+1)).map (pp.backR x)).flatMap Rng.cells=((sk.take k).map (pp.backR x)).flatMap Rng.cells ++ [.int .i64 (pp.place x (sk.getD k Rng.z).lo x.snd.done),.int .i64 (pp.place x (sk.getD k Rng.z).hi x.snd.done)]):=Lib.hid (by
      rw [sd.take_getD hlt,List.map_append,List.flatMap_append]
      rfl)
     have HOA:Hid (pp.allOk x p0 (sk.take (k+1))=((pp.allOk x p0 (sk.take k) && decide (0≤pp.place x (sk.getD k Rng.z).lo x.snd.done)) && decide (0≤pp.place x (sk.getD k Rng.z).hi x.snd.done))):=Lib.hid (by
      rw [sd.take_getD hlt,pp.allOk_snoc]
      rfl)
     generalize sk.getD k Rng.z=r at *
     obtain ⟨y0,y1⟩:=r
     dsimp only at e0 e1 hrb HTA HOA
     generalize pp.allOk x p0 (sk.take k)=al at *
     have hgr:g<wr.heap.size:=hg
     obtain ⟨w3,hw3⟩:∃ w3,w3=wr.alloc (.cells #[.int .i64 y0,.int .i64 y1] 78):=⟨_,rfl⟩
     have hb3:Below wr.heap.size wr w3:=by rw [hw3];exact balloc (bself wr) _
     have HRB:Hid (BlkA w3 wr.heap.size 78 #[.int .i64 y0,.int .i64 y1]):=Lib.hid (by rw [hw3];exact BlkA.new _ _ _)
     have HK5:Hid (Stays w5 w3 (fun q=>q=T+1+1)):=Lib.hid (HK.out.stay.comp (Stays.of_below hb3 _))
     have HK6:Hid (∀ w6,Stays w3.drew w6 (fun q=>q=T+1+1)→Stays w5 w6 (fun q=>q=T+1+1)):=Lib.hid (fun w6 hs=>HK5.out.comp ((Stays.of_below (Below.drew (bself w3)) _).comp hs))
     have HAL3:=Lib.hid (HK.out.al.next hb3)
     have HUB:=Lib.hid (HK.out.deed.next hb3)
     have HOE:=Lib.hid (HK.out.own.next hb3)
     have lU3:=HUB.out.lt
     have lUr:=HK.out.deed.lt
     have hnU:=HK.out.new
     have lRr:=HRB.out.lt
     have hET:∀ q,blkOf E=some q→q≠U∧q≠wr.heap.size∧q≠T+1+1:=fun q hq=>⟨fun e=>HUB.out.apart HOE.out rngNeDeed (e ▸ hq),by have:=(HK.out.own.lt q hq).2;omega,by have:=(HK.out.own.lt q hq).1;omega⟩
     have hALE:¬ blkOf E=some (T+1+1):=fun e=>(hET _ e).2.2 rfl
     have HSS:Hid (∀ wx,Stays w3 wx (fun q=>q=T+1+1∨blkOf E=some q)→wx.cell? ⟨U,4,none⟩=some (.slice E k ec)∧wx.cell? ⟨wr.heap.size,0,none⟩=some (.int .i64 y0)∧wx.cell? ⟨wr.heap.size,1,none⟩=some (.int .i64 y1)):=Lib.hid (fun wx hs=>by
      have h5:=HUB.out.stays hs (fun e=>by rcases e with e | e;omega;exact (hET _ e).1 rfl)
      have h6:=HRB.out.stays hs (fun e=>by rcases e with e | e;omega;exact (hET _ e).2.1 rfl)
      exact ⟨h5.get 4,h6.get 0,h6.get 1⟩)
     have HFZ:Hid (∀ wx,Stays w3 wx (fun q=>q=T+1+1∨blkOf E=some q)→wx.frozen? ⟨U,4,none⟩=false):=Lib.hid (fun wx hs=>(HUB.out.stays hs (fun e=>by rcases e with e | e;omega;exact (hET _ e).1 rfl)).frozen 4)
     have HO3:Hid (∀ w7,Stays w3.drew w7 (fun q=>q=T+1+1)→∀ ob,Own (w7.alloc ob) w5.heap.size 78 2 E k ec (((sk.take k).map (pp.backR x)).flatMap Rng.cells)):=Lib.hid (fun w7 hs ob=>((HOE.out.next (Below.drew (bself w3))).stays hs (fun q hq e=>(hET q hq).2.2 e)).alloc ob)
     have HBS:Hid (∀ w7,Stays w3 w7 (fun q=>q=T+1+1∨blkOf E=some q)→∀ ob,w5.heap.size≤(w7.alloc ob).heap.size):=Lib.hid (fun w7 hs ob=>by have:=hs.size;have:=HK5.out.size;simp only [World.size_alloc];omega)
     clear hb3 hgr
     go_upto_region 11 with (fail)
     rw [← hw3]
     clear hw3 e0 e1 hg
     refine wp_region_tail [14] (fun wx=>wx.cell? ⟨U,4,none⟩=some (.slice E k ec)∧wx.cell? ⟨wr.heap.size,0,none⟩=some (.int .i64 y0)∧wx.cell? ⟨wr.heap.size,1,none⟩=some (.int .i64 y1)) (by kernel_rfl) (HSS.out w3 (Stays.refl _ _)) ?_
     intro hHeld
     refine zP 0 (v:=?_) ?_ (fun _=>hHeld) ?_
     rotate_left
     ·intro w9;go_simp;try with_reducible rfl
     try simp only [Act.put,zA,zB,zC,zD,zE,zF]
     refine zP 2 (v:=?_) ?_ (fun _=>hHeld) ?_
     rotate_left
     ·intro w9;go_simp;try with_reducible rfl
     try simp only [Act.put,zA,zB,zC,zD,zE,zF]
     refine zP 3 (v:=?_) ?_ (fun _=>hHeld) ?_
     rotate_left
     ·intro w9;go_simp;try with_reducible rfl
     try simp only [Act.put,zA,zB,zC,zD,zE,zF]
     refine zP 6 (v:=?_) ?_ (fun _=>hHeld) ?_
     rotate_left
     ·intro w9;go_simp;try with_reducible rfl
     try simp only [Act.put,zA,zB,zC,zD,zE,zF]
     refine zP 7 (v:=?_) ?_ (fun _=>hHeld) ?_
     rotate_left
     ·intro w9;go_simp;try with_reducible rfl
     try simp only [Act.put,zA,zB,zC,zD,zE,zF]
     refine zT 1 [12,13,14] (v:=?_) ?_ hHeld ?_
     rotate_left
     ·intro w9 hS9;(try dsimp only at hS9);obtain ⟨q1,q2,q3⟩:=hS9;go_simp;try with_reducible rfl
     try simp only [Act.put,zA,zB,zC,zD,zE,zF]
     refine zT 4 [5,9,10,11,12,13,14] (v:=?_) ?_ hHeld ?_
     rotate_left
     ·intro w9 hS9;(try dsimp only at hS9);obtain ⟨q1,q2,q3⟩:=hS9;go_simp;try with_reducible rfl
     try simp only [Act.put,zA,zB,zC,zD,zE,zF]
     refine zT 8 [9,10,11,12,13,14] (v:=?_) ?_ hHeld ?_
     rotate_left
     ·intro w9 hS9;(try dsimp only at hS9);obtain ⟨q1,q2,q3⟩:=hS9;go_simp;try with_reducible rfl
     try simp only [Act.put,zA,zB,zC,zD,zE,zF]
     refine wpAnyT_next (i:=5) (by kernel_rfl) rfl ?_
     intro K hK
     go_simp
     go_at_call 104
     refine (HCL.out _ al y0 (HK5.out.comp (Stays.of_below (Below.drew (bself w3)) _)) (HAL3.out.next (Below.drew (bself w3))) hrb.1).mono ?_
     rintro e w6 ⟨rfl,g1,g2⟩
     have HA6:=Lib.hid g1
     have HG6:=Lib.hid g2
     have hst6:Stays w3 w6 (fun q=>q=T+1+1∨blkOf E=some q):=(Stays.of_below (Below.drew (bself w3)) _).comp (g2.mono fun _ _ e=>.inl e)
     have HST6:=Lib.hid hst6
     have hs6:=HSS.out w6 hst6
     clear hst6
     clear g1 g2
     go_simp
     have hHeld2:=hs6
     refine hK.out _ _ (fun _=>hHeld2) ?_
     clear hK K hHeld
     have hHeld:=hHeld2
     clear hHeld2
     try simp only [Act.put,zA,zB,zC,zD,zE,zF]
     refine wpAnyT_next (i:=9) (by kernel_rfl) rfl ?_
     intro K hK
     go_simp
     go_at_call 104
     refine (HCL.out _ (al && decide (0≤pp.place x y0 x.snd.done)) y1 (HK6.out _ HG6.out) (HA6.out) hrb.2).mono ?_
     rintro e w7 ⟨rfl,g1,g2⟩
     have HA7:=Lib.hid g1
     have HG7:=Lib.hid g2
     have hst7:Stays w3 w7 (fun q=>q=T+1+1∨blkOf E=some q):=HST6.out.comp (g2.mono fun _ _ e=>.inl e)
     have HST7:=Lib.hid hst7
     have hs7:=HSS.out w7 hst7
     clear hst7
     clear g1 g2
     go_simp
     have hHeld2:=hs7
     refine hK.out _ _ (fun _=>hHeld2) ?_
     clear hK K hHeld
     have hHeld:=hHeld2
     clear hHeld2
     try simp only [Act.put,zA,zB,zC,zD,zE,zF]
     refine zP 10 (v:=?_) ?_ (fun _=>hHeld) ?_
     rotate_left
     ·intro w9;go_simp;try with_reducible rfl
     try simp only [Act.put,zA,zB,zC,zD,zE,zF]
     refine wpAnyT_next (i:=11) (by kernel_rfl) rfl ?_
     intro K hK
     go_simp
     refine hK.out _ _ (fun _=>(HSS.out _ (HST7.out.comp (Stays.of_below (by exact (by repeat (first | (with_reducible first | exact Below.refl _ _ | assumption | refine bset ?_ ?_ _ | refine balloc ?_ _ | refine Below.drew ?_ | refine bdrewN ?_ _ | refine bnext ?_ (by with_reducible assumption)) | exact Nat.le_refl _ | (simp;done) | omega | (simp;omega)))) _)))) ?_
     clear hK K
     try simp only [Act.put,zA,zB,zC,zD,zE,zF]
     refine wpAnyT_next (i:=12) (by kernel_rfl) rfl ?_
     intro K hK
     refine step_app _ (by rfl) _ _ _ (by rfl) elemRng w5.heap.size E k ec _ (by rfl) (HO3.out _ (HG6.out.comp HG7.out) _) (some ⟨w7.heap.size,0,none⟩) 1 1 [.int .i64 (pp.place x y0 x.snd.done),.int .i64 (pp.place x y1 x.snd.done)] (by rfl) (by rfl) (Cells.newAt _ _ _ (by rfl)) (by simp [Value.oneCell']) (by omega) (by unfold maxLen;omega) (HBS.out _ HST7.out _) ?_
     intro E7 c7 w8 hO8 hg8
     have HO8:=Lib.hid hO8
     have hst8:Stays w3 w8 (fun q=>q=T+1+1∨blkOf E=some q):=HST7.out.comp ((Stays.of_below (balloc (bself w7) _) _).comp ((Stays.grew hg8).mono fun _ _ e=>.inr e))
     have HST8:=Lib.hid hst8
     have hs8:=HSS.out _ hst8
     have f8:=HFZ.out _ hst8
     have l8:U<w8.heap.size:=Nat.lt_of_lt_of_le lU3 hst8.size
     have HA8:=Lib.hid ((HA7.out.next (balloc (bself w7) _)).stays (Stays.grew hg8) hALE)
     clear hO8 hg8 hst8
     have hHeld2:=hs8
     refine hK.out _ _ (fun _=>hHeld2) ?_
     clear hK K hHeld
     have hHeld:=hHeld2
     clear hHeld2
     try simp only [Act.put,zA,zB,zC,zD,zE,zF]
     refine zP 13 (v:=?_) ?_ (fun _=>hHeld) ?_
     rotate_left
     ·intro w9;go_simp;try with_reducible rfl
     try simp only [Act.put,zA,zB,zC,zD,zE,zF]
     refine wpAnyT_next (i:=14) (by kernel_rfl) rfl ?_
     intro K hK
     go_simp
     refine hK.out _ _ (zN (by kernel_rfl)) ?_
     clear hK K
     refine wpAnyT_done (by kernel_rfl) ?_ _
     have HNX:Hid (HdMid w5 (w8.setCell ⟨U,4,none⟩ (.slice E7 (k+1) c7)) (T+1+1) U p0 wn E7 (k+1) c7 (pp.allOk x p0 (sk.take (k+1))) (((sk.take (k+1)).map (pp.backR x)).flatMap Rng.cells)):=Lib.hid (by
      have hb8:=HUB.out.stays HST8.out (fun e=>by rcases e with e | e;omega;exact (hET _ e).1 rfl)
      refine ⟨((HK5.out.trans HST8.out (fun q hq e=>?_))).trans (Stays.set _ _ _ _) (fun q hq e=>by omega),?_,by simpa using hb8.set 4 (.slice E7 (k+1) c7),?_,hnU⟩
      ·rcases e with e | e
       ·exact e
       ·have:=(HOE.out.lt q e).1;omega
      ·rw [HOA.out]
       exact HA8.out.setCell (by simp only;omega) _
      ·rw [HTA.out]
       exact HO8.out.setCell (hb8.apart HO8.out rngNeDeed) _)
     go_wp2
     go_roundw
     case rel=>exact ⟨k+1,E7,c7,by omega,by go_num,HNX⟩
     case measure=>simp [intOf];omega
    ·obtain rfl:k=n:=by omega
     have hnlt:decide (k<k)=false:=by simp
     have htk:sk.take k=sk:=by rw [← HN.out];exact List.take_length
     rw [htk] at HK
     have hsw:=HK.out.stay.size
     have HAB:Hid (pp.anyBelow (pp.backD x ⟨sq,ak,wn,sy,fi,rs,as_,sk,dt⟩) = !pp.allOk x p0 sk):=Lib.hid (by rw [← HP0.out];exact pp.allOk_not x ⟨sq,ak,wn,sy,fi,rs,as_,sk,dt⟩)
     have HHE:Hid (pp.heard x id=if pp.anyBelow (pp.backD x ⟨sq,ak,wn,sy,fi,rs,as_,sk,dt⟩)=true then (2,x) else ((sd.doIt x.snd (pp.backD x ⟨sq,ak,wn,sy,fi,rs,as_,sk,dt⟩)).1.code,{ x with snd:=(sd.doIt x.snd (pp.backD x ⟨sq,ak,wn,sy,fi,rs,as_,sk,dt⟩)).2 })):=Lib.hid (by rw [HCA.out];rfl)
     have hs05:=HB05.out.size
     have hb0:Below w.heap.size w wr:=HB05.out.trans (HK.out.stay.below hs05 (fun q hq=>by omega))
     have HB0:=Lib.hid hb0
     have HR:=Lib.hid (H.out.next hb0)
     have HZR:=Lib.hid (HZ5.out.stays HK.out.stay (by omega))
     have HPR:=Lib.hid (HP5.out.stays HK.out.stay (by omega))
     have HUR:=Lib.hid HK.out.deed
     have ad:=HK.out.al.get 0
     simp only [List.getElem?_toArray,List.getElem?_cons_zero] at ad
     have la:=HK.out.al.lt
     have zd:=HZR.out.get
     have ze:=HZR.out.frozen
     have lz:=HZR.out.lt
     clear hb0 htk
     cases hal:pp.allOk x p0 sk with
     | false=>
      have HHE2:Hid (pp.heard x id=(2,x)):=Lib.hid (by rw [HHE.out,HAB.out,hal];rfl)
      rw [hal] at ad
      have HNO:=Lib.hid (fun wx=>pipe_no 2 wx)
      have HFIN:Hid (∀ wx w',Below wr.heap.size wr wx→Stays wx w' (fun k=>k=w.heap.size+1)→PasRes w B W x a (pp.no (pp.heard x id).1,(pp.heard x id).2) (.returned (.agg #[.int .i64 2,.bool false,.int .i64 0,.slice none 0 0,.bool false,.int .i64 0])) w'):=Lib.hid (fun wx w' hb hs=>by
       rw [HHE2.out]
       exact PasRes.plain (r:=(pp.no 2,x)) (a1:=a) rfl (HR.out.next hb) ((Stays.of_below HB0.out _).comp (Stays.of_below hb _)) (fun k hk=>.inl hk) (hs.mono fun k hk e=>⟨by omega,fun e2=>by have:=HWL.out k e2;omega⟩))
      clear hal HHE HAB HCA
      go_wp2_with (first
       | (go_at_call 57;((with_reducible refine (HNO.out _).mono ?_);rintro e w4 ⟨rfl,hb4⟩;have z4:=HZR.out.next hb4;have zd:=z4.get;have ze:=z4.frozen;have lz4:=z4.lt;have HB4:=Lib.hid hb4;clear hb4 z4))
       | fail)
      refine bodyPost_ret (v:=.agg #[.int .i64 2,.bool false,.int .i64 0,.slice none 0 0,.bool false,.int .i64 0]) (by simp [results,Try.results89,go_sem, *]) rfl (HFIN.out _ _ HB4.out ?_)
      exact Stays.sixP _ _ _ _ _ _ _ _
     | true=>
      obtain ⟨dd,hdd⟩:∃ dd,pp.backD x ⟨sq,ak,wn,sy,fi,rs,as_,sk,dt⟩=dd:=⟨_,rfl⟩
      have HHE2:Hid (pp.heard x id=((sd.doIt x.snd dd).1.code,{ x with snd:=(sd.doIt x.snd dd).2 })):=Lib.hid (by rw [HHE.out,HAB.out,hal,hdd];rfl)
      have hml:(sk.map (pp.backR x)).length=k:=by rw [List.length_map];exact HN.out
      have hde:dd=⟨2,[],p0,wn,sk.map (pp.backR x)⟩:=by rw [← hdd,← HP0.out];rfl
      have HDO:Hid (Calls Try.prog 25 #[.pointer (some ⟨a.FS,0,none⟩),.agg #[.int .i64 2,.slice none 0 0,.int .i64 p0,.int .i64 wn,.slice E k ec]] wr.drew (SentRes wr.drew B a.FS x.snd.more (sd.doIt x.snd dd) a.Ds a.Ms)):=Lib.hid (by
       have h9:=send_Do B a.FS x.snd a.Ds a.dcs a.Ms a.mcs ⟨2,[],p0,wn,sk.map (pp.backR x)⟩ none 0 E ec wr.drew (HR.out.next (Below.drew (bself wr))).snd HI.out.snd (SlRep.nilW _ _ _) (((Own.rng (HK.out.own.next (Below.drew (bself wr)))).2).within fun q hq=>hq.2) (by unfold IntOk;simp only;omega) (by unfold IntOk;simp only;omega) (Nat.zero_le _) (by simp only;rw [hml];omega)
       simp only at h9
       rw [hml] at h9
       rw [hde]
       exact h9)
      generalize sd.doIt x.snd dd=rr at *
      obtain ⟨⟨rc,rf,rd,rn,ra,ri,rl⟩,s'⟩:=rr
      simp only at HHE2
      have HNO:=Lib.hid (fun wx=>pipe_no rc wx)
      have HSS:Hid (∀ wx,Below wr.heap.size wr wx→wx.cell? ⟨w.heap.size,0,none⟩=some (.pointer (some ⟨W,0,none⟩))∧wx.cell? ⟨W,1,none⟩=some (.pointer (some ⟨a.FS,0,none⟩))∧(∀ j:Nat,wx.cell? ⟨U,j,none⟩ = #[Value.int .i64 2,.slice none 0 0,.int .i64 p0,.int .i64 wn,.slice E k ec][j]?)):=Lib.hid (fun wx hb=>⟨(HPR.out.next hb).get 0,(HR.out.next hb).ptrS,(HUR.out.next hb).get⟩)
      have lUr:=HUR.out.lt
      have lPr:=HPR.out.lt
      have lWr:=HR.out.blk.lt
      rw [hal] at ad
      clear hal HHE HAB HCA hdd hde hml
      have hfl:=sent_field0 (.int .i64 rc) (.int .i64 rf)
      go_upto_region 15 with (fail)
      refine wp_region_tail [5,7,8] (fun wx=>wx.cell? ⟨w.heap.size,0,none⟩=some (.pointer (some ⟨W,0,none⟩))∧wx.cell? ⟨W,1,none⟩=some (.pointer (some ⟨a.FS,0,none⟩))∧(∀ j:Nat,wx.cell? ⟨U,j,none⟩ = #[Value.int .i64 2,.slice none 0 0,.int .i64 p0,.int .i64 wn,.slice E k ec][j]?)) (by kernel_rfl) (HSS.out wr (bself _)) ?_
      intro hHeld
      refine zT 0 [1,2,3,5,6,7,8] (v:=?_) ?_ hHeld ?_
      rotate_left
      ·intro w9 hS9;(try dsimp only at hS9);obtain ⟨q1,q2,q3⟩:=hS9;go_simp;try with_reducible rfl
      try simp only [Act.put,zA,zB,zC,zD,zE,zF]
      refine zP 1 (v:=?_) ?_ (fun _=>hHeld) ?_
      rotate_left
      ·intro w9;go_simp;try with_reducible rfl
      try simp only [Act.put,zA,zB,zC,zD,zE,zF]
      refine zP 2 (v:=?_) ?_ (fun _=>hHeld) ?_
      rotate_left
      ·intro w9;go_simp;try with_reducible rfl
      try simp only [Act.put,zA,zB,zC,zD,zE,zF]
      refine zT 3 [5,6,7,8] (v:=?_) ?_ hHeld ?_
      rotate_left
      ·intro w9 hS9;(try dsimp only at hS9);obtain ⟨q1,q2,q3⟩:=hS9;go_simp;try with_reducible rfl
      try simp only [Act.put,zA,zB,zC,zD,zE,zF]
      refine zT 4 [5,6,7,8] (v:=?_) ?_ hHeld ?_
      rotate_left
      ·intro w9 hS9;(try dsimp only at hS9);obtain ⟨q1,q2,q3⟩:=hS9;go_simp;try with_reducible rfl
      try simp only [Act.put,zA,zB,zC,zD,zE,zF]
      refine wpAnyT_next (i:=5) (by kernel_rfl) rfl ?_
      intro K hK
      go_simp
      go_at_call 25
      refine HDO.out.mono ?_
      rintro e w7 ⟨cs,D1,dc1,M1,mc1,rfl,g1,g2,g3,g4⟩
      obtain ⟨Ad,cd,rfl,g5⟩:=Sent.rep_iff.1 g1
      have G3:Hid (Stays wr w7 (a.sF x)):=Lib.hid ((Stays.of_below (Below.drew (bself wr)) _).comp g3)
      have G2:=Lib.hid (HR.out.putSnd G3.out g2 g4)
      clear g1 g2 g3 g4 g5
      go_simp
      refine hK.out _ _ (zN (by kernel_rfl)) ?_
      clear hK K
      try simp only [Act.put,zA,zB,zC,zD,zE,zF]
      refine zP 6 (v:=?_) ?_ (zN (by kernel_rfl)) ?_
      rotate_left
      ·intro w9;go_simp;try with_reducible rfl
      try simp only [Act.put,zA,zB,zC,zD,zE,zF]
      refine wpAnyT_next (i:=7) (by kernel_rfl) rfl ?_
      intro K hK
      go_simp
      go_at_call 57
      refine (HNO.out _).mono ?_
      rintro e w8 ⟨rfl,hb8⟩
      have z8:=(HZR.out.stays G3.out (fun e=>HNZ.out (.inr (.inl e)))).next hb8
      have zd:=z8.get
      have ze:=z8.frozen
      have lz8:=z8.lt
      have HB8:=Lib.hid hb8
      clear hb8 z8
      go_simp
      refine hK.out _ _ (zN (by kernel_rfl)) ?_
      clear hK K
      try simp only [Act.put,zA,zB,zC,zD,zE,zF]
      refine wpAnyT_next (i:=8) (by kernel_rfl) rfl ?_
      intro K hK
      go_simp
      refine hK.out _ _ (zN (by kernel_rfl)) ?_
      clear hK K
      refine wpAnyT_done (by kernel_rfl) ?_ _
      have HFIN:Hid (∀ w',Stays w8 w' (fun k=>k=w.heap.size+1)→PasRes w B W x a (pp.no (pp.heard x id).1,(pp.heard x id).2) (.returned (.agg #[.int .i64 rc,.bool false,.int .i64 0,.slice none 0 0,.bool false,.int .i64 0])) w'):=Lib.hid (fun w' hs=>by
       rw [HHE2.out]
       refine PasRes.plain (r:=(pp.no rc,{ x with snd:=s' })) rfl (G2.out.1.next HB8.out) (((Stays.of_below HB0.out _).trans G3.out (fun q hq e=>.inr (.inl e))).comp (Stays.of_below HB8.out _)) (fun q hq=>(G2.out.2 q hq).imp (fun e=>e) (fun e=>Nat.le_trans HB0.out.size e)) (hs.mono fun q hq e=>⟨by omega,fun e2=>?_⟩)
       subst e
       rcases G2.out.2 _ e2 with e | e
       ·exact HNZ.out e
       ·omega)
      clear HSS HDO
      go_wp2
      refine bodyPost_ret (v:=.agg #[.int .i64 rc,.bool false,.int .i64 0,.slice none 0 0,.bool false,.int .i64 0]) (by simp [results,Try.results89,go_sem, *]) rfl (HFIN.out _ ?_)
      exact Stays.sixP _ _ _ _ _ _ _ _
end Go.Proofs.Ytdldfllllgogoaa
namespace Go.Proofs.Ytdldfllllgogoaa
open Go.RowKit
set_option linter.unusedSimpArgs false
theorem PasRes.of {w w1 w':World} {B W F:Nat} {x:pp.Wire} {a a1:WAd} {r:Passed × pp.Wire} {Y:Option Addr} {yc:Nat} {S:Nat→Prop} (h1:WAt w1 B W r.2 a1) (hs:Stays w w1 (WF W x a)) (hn:∀ k,WF W r.2 a1 k→WF W x a k∨w.heap.size≤k) (hY:SlRep Rep.u8 w1 S r.1.data Y yc) (hS:∀ k,S k→(w.heap.size≤k∧k<w1.heap.size∧¬ WF W r.2 a1 k)∧k≠F) (hF:w.heap.size≤F∧¬ WF W r.2 a1 F) (h2:Stays w1 w' (fun k=>k=F)) :
  PasRes w B W x a r (.returned (.agg #[.int .i64 r.1.code,.bool r.1.put,.int .i64 r.1.id,.slice Y r.1.data.length yc,.bool r.1.end_,.int .i64 r.1.left])) w':=by
 refine ⟨[.int .i64 r.1.code,.bool r.1.put,.int .i64 r.1.id,.slice Y r.1.data.length yc,.bool r.1.end_,.int .i64 r.1.left],a1,rfl,Passed.rep_iff.2 ⟨Y,yc,rfl,?_⟩,h1.stays h2 (fun k hk e=>hF.2 (e ▸ hk)),hs.trans h2 (fun k hk e=>by omega),hn⟩
 exact hY.keep fun k hk=>⟨⟨(hS k hk).1.1,Nat.lt_of_lt_of_le (hS k hk).1.2.1 h2.size,(hS k hk).1.2.2⟩,h2.block k (hS k hk).1.2.1 (hS k hk).2⟩
set_option maxRecDepth 100000 in
set_option maxHeartbeats 2000000 in
theorem pipe_back (B W:Nat) (x:pp.Wire) (a:WAd) (id:Int) (w:World) (h:WAt w B W x a) {kk:Nat} (hi:pp.Inv x kk) (hkk:kk≤1000) (hid:IntOk id) :
  Calls Try.prog 60 #[.pointer (some ⟨W,0,none⟩),.int .i64 id] w (PasRes w B W x a (pp.back x id)):=by
 have H:=Lib.hid h
 have hW:=h.blk.lt
 obtain ⟨w1,hw1⟩:∃ w1,w1=w.alloc (.cells #[.int .i64 0,.bool false,.int .i64 0,.slice none 0 0,.bool false,.int .i64 0] 58):=⟨_,rfl⟩
 have hb1:Below w.heap.size w w1:=by rw [hw1];exact balloc (bself w) _
 have HZ1:Hid (BlkA w1 w.heap.size 58 #[.int .i64 0,.bool false,.int .i64 0,.slice none 0 0,.bool false,.int .i64 0]):=Lib.hid (by rw [hw1];exact BlkA.new _ _ _)
 have HB1:=Lib.hid hb1
 have hz:=HZ1.out.lt
 have HHD:=Lib.hid (pipe_heard B W x a id w1 (h.next hb1) hi hkk hid)
 have HI2:=Lib.hid (hi.heard id)
 have HWL:=Lib.hid (fun k (hk:WF W x a k)=>(h.lt hk).2)
 have HBK:Hid (pp.back x id=({ pp.no (pp.heard x id).1 with left:=sd.leftOf (pp.heard x id).2.snd },(pp.heard x id).2)):=Lib.hid rfl
 generalize pp.heard x id=r at *
 obtain ⟨hc,x2⟩:=r
 simp only at HHD HI2 HBK
 obtain ⟨pn,hpn⟩:∃ pn,pp.no hc=pn:=⟨_,rfl⟩
 rw [hpn] at HHD HBK
 obtain ⟨pc,pu,pi,pd,pe,pl⟩:=pn
 clear h hi hb1 hpn
 go_enter Try.func60,Try.ntmps60
 go_upto_region 1 with (fail)
 rw [← hw1]
 clear hw1
 go_upto_region 2 with (first
  | (go_at_call 89;((with_reducible refine HHD.out.mono ?_);rintro e w2 ⟨cs,a2,rfl,r1,r2,r3,r4⟩;obtain ⟨Y,yc,rfl,r5⟩:=Passed.rep_iff.1 r1;have R2:=Lib.hid r2;have R3:=Lib.hid r3;have R4:=Lib.hid r4;have R5:=Lib.hid r5;clear r1 r2 r3 r4 r5))
  | fail)
 generalize hw3:World.alloc w2 _=w3
 generalize hT:w2.heap.size=T
 have hb23:Below w2.heap.size w2 w3:=by rw [← hw3];exact balloc (bself w2) _
 have HBT:Hid (BlkA w3 T 58 #[.int .i64 pc,.bool pu,.int .i64 pi,.slice Y pd.length yc,.bool pe,.int .i64 pl]):=Lib.hid (by rw [← hw3,← hT];exact BlkA.new _ _ _)
 have H3:=Lib.hid (R2.out.next hb23)
 have HT:=Lib.hid hT
 have hs2:=R3.out.size
 have HZ3:=Lib.hid ((HZ1.out.stays R3.out (fun e=>by have:=HWL.out _ e;omega)).next hb23)
 have HB23:=Lib.hid hb23
 have p1:=H3.out.ptrS
 have hW3:=H3.out.blk.lt
 have td:=HBT.out.get
 have lT:=HBT.out.lt
 have HLE:=Lib.hid (send_Left B a2.FS x2.snd a2.Ds a2.dcs a2.Ms a2.mcs w3 H3.out.snd HI2.out.snd)
 obtain ⟨lv,hlv⟩:∃ lv,sd.leftOf x2.snd=lv:=⟨_,rfl⟩
 rw [hlv] at HLE HBK
 have HR4:Hid (∀ k,WF W x2 a2 k→WF W x a k∨w.heap.size<k):=Lib.hid (fun k hk=>(R4.out k hk).imp (fun e=>e) (fun e=>by omega))
 have hTw:w.heap.size<T:=by omega
 clear hw3 hT hb23 hs2 hlv HHD
 go_upto_region 3 with (first
  | (go_at_call 50;((with_reducible refine HLE.out.mono ?_);rintro e w4 ⟨rfl,hb4⟩;have t4:=HBT.out.next hb4;have z4:=HZ3.out.next hb4;have td:=t4.get;have tf:=t4.frozen;have tl:=t4.lt;have HT4:=Lib.hid t4;have HZ4:=Lib.hid z4;have HB4:=Lib.hid hb4;clear hb4 t4 z4))
  | fail)
 generalize hw5:World.setCell w4 _ _=w5
 have HT5:Hid (BlkA w5 T 58 #[.int .i64 pc,.bool pu,.int .i64 pi,.slice Y pd.length yc,.bool pe,.int .i64 lv]):=Lib.hid (by rw [← hw5];simpa using HT4.out.set 5 (.int .i64 lv))
 have HS5:Hid (Stays w4 w5 (fun k=>k=T)):=Lib.hid (by rw [← hw5];exact Stays.set _ _ _ _)
 have HZ5:=Lib.hid (HZ4.out.stays HS5.out (by omega))
 have td:=HT5.out.get
 have tl:=HT5.out.lt
 have zd:=HZ5.out.get
 have ze:=HZ5.out.frozen
 have zl:=HZ5.out.lt
 have HFIN:Hid (∀ w',Stays w5 w' (fun k=>k=w.heap.size)→PasRes w B W x a (pp.back x id) (.returned (.agg #[.int .i64 pc,.bool pu,.int .i64 pi,.slice Y pd.length yc,.bool pe,.int .i64 lv])) w'):=Lib.hid (fun w' hs=>by
  rw [HBK.out]
  have hT2:=HT.out
  have hb24:Below w2.heap.size w2 w4:=bnext HB23.out HB4.out
  have hnT:∀ k,WF W x2 a2 k→k<w2.heap.size:=fun k hk=>(R2.out.lt hk).2
  have hs25:Stays w2 w5 (fun k=>k=T):=(Stays.of_below hb24 _).comp HS5.out
  refine PasRes.of (w1:=w5) (F:=w.heap.size) (r:=(⟨pc,pu,pi,pd,pe,lv⟩,x2)) (R2.out.stays hs25 (fun k hk e=>by have:=hnT k hk;omega)) (((Stays.of_below HB1.out _).comp R3.out).trans hs25 (fun k hk e=>by omega)) (fun k hk=>(HR4.out k hk).imp (fun e=>e) (fun e=>by omega)) (R5.out.keep fun k hk=>⟨hk,hs25.block k hk.2.1 (by have:=hk.2.1;omega)⟩) (fun k hk=>⟨⟨by have:=hk.1;omega,Nat.lt_of_lt_of_le hk.2.1 hs25.size,hk.2.2⟩,by have:=hk.1;omega⟩) ⟨Nat.le_refl _,fun e=>?_⟩ hs
  rcases HR4.out _ e with e | e
  ·have:=HWL.out _ e;omega
  ·omega)
 clear hw5
 go_wp2
 refine bodyPost_ret (v:=.agg #[.int .i64 pc,.bool pu,.int .i64 pi,.slice Y pd.length yc,.bool pe,.int .i64 lv]) (by simp [results,Try.results60,go_sem, *]) rfl (HFIN.out _ ?_)
 exact Stays.sixP _ _ _ _ _ _ _ _
end Go.Proofs.Ytdldfllllgogoaa
namespace Go.Proofs.Ytdldfllllgogoaa
open Go.RowKit
set_option linter.unusedSimpArgs false
/-- behind the sender's turn in the closure of Do -/
structure OwMid (w w1 wx:World) (B W U:Nat) (x x1:pp.Wire) (a a1:WAd) (cs:Array Value):Prop where
 at_:WAt wx B W x1 a1
 stay:Stays w wx (WF W x a)
 nm:∀ k,WF W x1 a1 k→(WF W x a k∨w1.heap.size≤k)∧k≠U
 box:BlkA wx U 49 cs
 new:w1.heap.size≤U
 res:BlkA wx (w.heap.size+1) 58 #[.int .i64 0,.bool false,.int .i64 0,.slice none 0 0,.bool false,.int .i64 0]
set_option maxRecDepth 100000 in
set_option maxHeartbeats 2000000 in
theorem pipe_own (B W X2:Nat) (x:pp.Wire) (a:WAd) (d:Deed) (G:Option Addr) (gc:Nat) (R:Option Addr) (rc:Nat) (w:World) (h:WAt w B W x a) (hi:sd.Inv x.snd) (hG:SlRep Rep.u8 w (· < w.heap.size) d.data G gc) (hR:SlRep Rng.rep w (· < w.heap.size) d.sacks R rc) (ha:IntOk d.ack) (hwn:IntOk d.window) (hd:d.data.length≤140737488351232) (hds:d.sacks.length≤140737488351232) (h2:BlkA w X2 86 #[.pointer (some ⟨W,0,none⟩)]) :
  Calls Try.prog 55 #[.agg #[.int .i64 d.kind,.slice G d.data.length gc,.int .i64 d.ack,.int .i64 d.window,.slice R d.sacks.length rc],.pointer (some ⟨X2,0,none⟩)] w (PasRes w B W x a (pp.own x d)):=by
 have HDO0:=Lib.hid (fun wx (hb:Below w.heap.size w wx)=>send_Do B a.FS x.snd a.Ds a.dcs a.Ms a.mcs d G gc R rc wx (h.next hb).snd hi (hG.next hb) (hR.next hb) ha hwn hd hds)
 have HOW:Hid (pp.own x d=({ pp.none_ with code:=(sd.doIt x.snd d).1.code,left:=(sd.doIt x.snd d).1.left },{ x with snd:=(sd.doIt x.snd d).2 })):=Lib.hid rfl
 generalize sd.doIt x.snd d=r at *
 obtain ⟨⟨sc,sf,sdt,sn,sa,si,sl⟩,s'⟩:=r
 obtain ⟨dk,dd,da,dw,ds⟩:=d
 simp only at hG hR ha hwn hd hds HDO0 HOW ⊢
 have H:=Lib.hid h
 have hW:=h.blk.lt
 have HWL:=Lib.hid (fun k (hk:WF W x a k)=>(h.lt hk).2)
 obtain ⟨w1,hw1⟩:∃ w1,w1=(w.alloc (.cells #[.int .i64 dk,.slice G dd.length gc,.int .i64 da,.int .i64 dw,.slice R ds.length rc] 82)).alloc (.cells #[.int .i64 0,.bool false,.int .i64 0,.slice none 0 0,.bool false,.int .i64 0] 58):=⟨_,rfl⟩
 have hb1:Below w.heap.size w w1:=by rw [hw1];exact balloc (balloc (bself w) _) _
 have hz1:w1.heap.size=w.heap.size+1+1:=by rw [hw1];simp
 have HD1:Hid (BlkA w1 w.heap.size 82 #[.int .i64 dk,.slice G dd.length gc,.int .i64 da,.int .i64 dw,.slice R ds.length rc]):=Lib.hid (by rw [hw1];exact (BlkA.new _ _ _).alloc _)
 have HZ1:Hid (BlkA w1 (w.heap.size+1) 58 #[.int .i64 0,.bool false,.int .i64 0,.slice none 0 0,.bool false,.int .i64 0]):=Lib.hid (by
  rw [hw1]
  have h:=BlkA.new (w.alloc (.cells #[.int .i64 dk,.slice G dd.length gc,.int .i64 da,.int .i64 dw,.slice R ds.length rc] 82)) 58 #[.int .i64 0,.bool false,.int .i64 0,.slice none 0 0,.bool false,.int .i64 0]
  simpa using h)
 have HB1:=Lib.hid hb1
 have H1:=Lib.hid (h.next hb1)
 have HX1:=Lib.hid (h2.next hb1)
 have lX:=HX1.out.lt
 have lD:=HD1.out.lt
 have lW:=H1.out.blk.lt
 have HDO:Hid (∀ wx,Below w1.heap.size w1 wx→Calls Try.prog 25 #[.pointer (some ⟨a.FS,0,none⟩),.agg #[.int .i64 dk,.slice G dd.length gc,.int .i64 da,.int .i64 dw,.slice R ds.length rc]] wx (SentRes wx B a.FS x.snd.more (⟨sc,sf,sdt,sn,sa,si,sl⟩,s') a.Ds a.Ms)):=Lib.hid (fun wx hb=>HDO0.out wx (bnext HB1.out hb))
 have HSS:Hid (∀ wx,Below w1.heap.size w1 wx→wx.cell? ⟨X2,0,none⟩=some (.pointer (some ⟨W,0,none⟩))∧wx.cell? ⟨W,1,none⟩=some (.pointer (some ⟨a.FS,0,none⟩))∧(∀ j:Nat,wx.cell? ⟨w.heap.size,j,none⟩ = #[Value.int .i64 dk,.slice G dd.length gc,.int .i64 da,.int .i64 dw,.slice R ds.length rc][j]?)):=Lib.hid (fun wx hb=>⟨(HX1.out.next hb).get 0,(H1.out.next hb).ptrS,(HD1.out.next hb).get⟩)
 have HPS:Hid (∀ (wq w4:World) (D1:Option Addr) (dc1:Nat) (M1:Option Addr) (mc1:Nat),Below w1.heap.size w1 wq→SAt w4 B a.FS s' D1 dc1 M1 mc1→Stays wq w4 (HF a.FS a.Ds a.Ms x.snd.more)→(∀ k,HF a.FS D1 M1 s'.more k→HF a.FS a.Ds a.Ms x.snd.more k∨wq.heap.size≤k)→WAt w4 B W { x with snd:=s' } { a with Ds:=D1,dcs:=dc1,Ms:=M1,mcs:=mc1 }∧∀ k,WF W { x with snd:=s' } { a with Ds:=D1,dcs:=dc1,Ms:=M1,mcs:=mc1 } k→WF W x a k∨wq.heap.size≤k):=Lib.hid (fun wq w4 D1 dc1 M1 mc1 hb g2 g3 g4=>(H1.out.next hb).putSnd g3 g2 g4)
 have HZD:Hid (∀ w4,Stays (w1.alloc (.cells #[.int .i64 0,.int .i64 0,.slice none 0 0,.bool false,.bool false,.bool false,.int .i64 0] 49)).drew w4 (HF a.FS a.Ds a.Ms x.snd.more)→BlkA w4 (w.heap.size+1+1) 49 #[.int .i64 0,.int .i64 0,.slice none 0 0,.bool false,.bool false,.bool false,.int .i64 0]):=Lib.hid (fun w4 hs=>by
  have hd:BlkA (w1.alloc (.cells #[.int .i64 0,.int .i64 0,.slice none 0 0,.bool false,.bool false,.bool false,.int .i64 0] 49)).drew (w.heap.size+1+1) 49 #[.int .i64 0,.int .i64 0,.slice none 0 0,.bool false,.bool false,.bool false,.int .i64 0]:=by rw [← hz1];exact BlkA.new w1 _ _
  exact hd.stays hs (fun e=>by have:=HWL.out _ (.inr (.inl e));omega))
 have HMA:Hid (∀ (w4:World) (a1:WAd) (Ad:Option Addr) (cd:Nat),(WAt w4 B W { x with snd:=s' } a1∧∀ k,WF W { x with snd:=s' } a1 k→WF W x a k∨w1.drew.heap.size≤k)→Stays w1 w4 (a.sF x)→OwMid w w1 (w4.alloc (.cells #[.int .i64 sc,.int .i64 sf,.slice Ad sdt.length cd,.bool sn,.bool sa,.bool si,.int .i64 sl] 49)) B W w4.heap.size x { x with snd:=s' } a a1 #[.int .i64 sc,.int .i64 sf,.slice Ad sdt.length cd,.bool sn,.bool sa,.bool si,.int .i64 sl]):=Lib.hid (fun w4 a1 Ad cd hg hs=>by
  refine ⟨hg.1.next (balloc (bself w4) _),((Stays.of_below HB1.out _).trans hs (fun k hk e=>.inr (.inl e))).comp (Stays.of_below (balloc (bself w4) _) _),fun k hk=>⟨hg.2 k hk,by have:=(hg.1.lt hk).2;omega⟩,BlkA.new _ _ _,hs.size,(HZ1.out.stays hs (fun e=>by have:=HWL.out _ (.inr (.inl e));omega)).alloc _⟩)
 have HMB:Hid (∀ (w4:World) (a1:WAd) (Ad:Option Addr) (cd:Nat),(WAt w4 B W { x with snd:=s' } a1∧∀ k,WF W { x with snd:=s' } a1 k→WF W x a k∨(w1.alloc (.cells #[.int .i64 0,.int .i64 0,.slice none 0 0,.bool false,.bool false,.bool false,.int .i64 0] 49)).drew.heap.size≤k)→Stays (w1.alloc (.cells #[.int .i64 0,.int .i64 0,.slice none 0 0,.bool false,.bool false,.bool false,.int .i64 0] 49)).drew w4 (HF a.FS a.Ds a.Ms x.snd.more)→OwMid w w1 (((((((w4.setCell ⟨w.heap.size+1+1,0,none⟩ (.int .i64 sc)).setCell ⟨w.heap.size+1+1,1,none⟩ (.int .i64 sf)).setCell ⟨w.heap.size+1+1,2,none⟩ (.slice Ad sdt.length cd)).setCell ⟨w.heap.size+1+1,3,none⟩ (.bool sn)).setCell ⟨w.heap.size+1+1,4,none⟩ (.bool sa)).setCell ⟨w.heap.size+1+1,5,none⟩ (.bool si)).setCell ⟨w.heap.size+1+1,6,none⟩ (.int .i64 sl)) B W (w.heap.size+1+1) x { x with snd:=s' } a a1 #[.int .i64 sc,.int .i64 sf,.slice Ad sdt.length cd,.bool sn,.bool sa,.bool si,.int .i64 sl]):=Lib.hid (fun w4 a1 Ad cd hg hs=>by
  have hb:Below w1.heap.size w1 (w1.alloc (.cells #[.int .i64 0,.int .i64 0,.slice none 0 0,.bool false,.bool false,.bool false,.int .i64 0] 49)).drew:=Below.drew (balloc (bself w1) _)
  have hsz:(w1.alloc (.cells #[.int .i64 0,.int .i64 0,.slice none 0 0,.bool false,.bool false,.bool false,.int .i64 0] 49)).drew.heap.size=w1.heap.size+1:=World.size_alloc _ _
  have hU:=HZD.out w4 hs
  have hne:∀ k,WF W { x with snd:=s' } a1 k→(WF W x a k∨w1.heap.size≤k)∧k≠w.heap.size+1+1:=fun k hk=>by
   rcases hg.2 k hk with e | e
   ·have:=HWL.out k e
    exact ⟨.inl e,by omega⟩
   ·rw [hsz] at e
    exact ⟨.inr (by omega),by omega⟩
  have st:=Stays.seven w4 (w.heap.size+1+1) (.int .i64 sc) (.int .i64 sf) (.slice Ad sdt.length cd) (.bool sn) (.bool sa) (.bool si) (.int .i64 sl)
  have hs14:Stays w1 w4 (a.sF x):=(Stays.of_below hb _).comp hs
  exact ⟨hg.1.stays st (fun k hk e=>(hne k hk).2 e),((Stays.of_below HB1.out _).trans hs14 (fun k hk e=>.inr (.inl e))).trans st (fun k hk e=>by omega),hne,hU.seven _ _ _ _ _ _ _,by omega,(HZ1.out.stays hs14 (fun e=>by have:=HWL.out _ (.inr (.inl e));omega)).stays st (by omega)⟩)
 clear h hi hG hR h2 hb1 HDO0
 go_enter Try.func55,Try.ntmps55
 go_upto_region 1 with (fail)
 rw [← hw1]
 clear hw1
 go_cut [4] (fun s4 wx=>∃ (U:Nat) (a1:WAd) (Ad:Option Addr) (cd:Nat),s4=.pointer (some ⟨U,0,none⟩)∧Hid (OwMid w w1 wx B W U x { x with snd:=s' } a a1 #[.int .i64 sc,.int .i64 sf,.slice Ad sdt.length cd,.bool sn,.bool sa,.bool si,.int .i64 sl]))
 case first=>
  refine wp_region_tail [5,7] (fun wx=>wx.cell? ⟨X2,0,none⟩=some (.pointer (some ⟨W,0,none⟩))∧wx.cell? ⟨W,1,none⟩=some (.pointer (some ⟨a.FS,0,none⟩))∧(∀ j:Nat,wx.cell? ⟨w.heap.size,j,none⟩ = #[Value.int .i64 dk,.slice G dd.length gc,.int .i64 da,.int .i64 dw,.slice R ds.length rc][j]?)) (by kernel_rfl) (HSS.out w1 (bself _)) ?_
  intro hHeld
  refine zT 0 [1,2,3,5,7] (v:=?_) ?_ hHeld ?_
  rotate_left
  ·intro w9 hS9;(try dsimp only at hS9);obtain ⟨q1,q2,q3⟩:=hS9;go_simp;try with_reducible rfl
  try simp only [Act.put,zA,zB,zC,zD,zE,zF]
  refine zP 1 (v:=?_) ?_ (fun _=>hHeld) ?_
  rotate_left
  ·intro w9;go_simp;try with_reducible rfl
  try simp only [Act.put,zA,zB,zC,zD,zE,zF]
  refine zP 2 (v:=?_) ?_ (fun _=>hHeld) ?_
  rotate_left
  ·intro w9;go_simp;try with_reducible rfl
  try simp only [Act.put,zA,zB,zC,zD,zE,zF]
  refine zT 3 [5,7] (v:=?_) ?_ hHeld ?_
  rotate_left
  ·intro w9 hS9;(try dsimp only at hS9);obtain ⟨q1,q2,q3⟩:=hS9;go_simp;try with_reducible rfl
  try simp only [Act.put,zA,zB,zC,zD,zE,zF]
  refine zT 4 [5,7] (v:=?_) ?_ hHeld ?_
  rotate_left
  ·intro w9 hS9;(try dsimp only at hS9);obtain ⟨q1,q2,q3⟩:=hS9;go_simp;try with_reducible rfl
  try simp only [Act.put,zA,zB,zC,zD,zE,zF]
  refine wpAnyT_fork (i:=5) (j:=6) (by kernel_rfl) rfl rfl ?_ ?_
  ·intro K hK
   go_simp
   go_at_call 25
   refine (HDO.out _ (by exact (by repeat (first | (with_reducible first | exact Below.refl _ _ | assumption | refine bset ?_ ?_ _ | refine balloc ?_ _ | refine Below.drew ?_ | refine bdrewN ?_ _ | refine bnext ?_ (by with_reducible assumption)) | exact Nat.le_refl _ | (simp;done) | omega | (simp;omega))))).mono ?_
   rintro e w4 ⟨cs,D1,dc1,M1,mc1,rfl,g1,g2,g3,g4⟩
   obtain ⟨Ad,cd,rfl,g5⟩:=Sent.rep_iff.1 g1
   have G3:Hid (Stays w1 w4 (a.sF x)):=Lib.hid ((Stays.of_below (by exact (by repeat (first | (with_reducible first | exact Below.refl _ _ | assumption | refine bset ?_ ?_ _ | refine balloc ?_ _ | refine Below.drew ?_ | refine bdrewN ?_ _ | refine bnext ?_ (by with_reducible assumption)) | exact Nat.le_refl _ | (simp;done) | omega | (simp;omega)))) _).comp g3)
   have G2:=Lib.hid (HPS.out _ _ _ _ _ _ (by exact (by repeat (first | (with_reducible first | exact Below.refl _ _ | assumption | refine bset ?_ ?_ _ | refine balloc ?_ _ | refine Below.drew ?_ | refine bdrewN ?_ _ | refine bnext ?_ (by with_reducible assumption)) | exact Nat.le_refl _ | (simp;done) | omega | (simp;omega)))) g2 g3 g4)
   (try with_reducible have zu:=(HZD.out w4 g3).get)
   (try with_reducible have zv:=(HZD.out w4 g3).frozen)
   (try with_reducible have zl:=(HZD.out w4 g3).lt)
   (try with_reducible have HG3:=Lib.hid g3)
   clear g1 g2 g3 g4 g5
   go_simp
   refine hK.out _ _ (zN (by kernel_rfl)) ?_
   clear hK K
   try simp only [Act.put,zA,zB,zC,zD,zE,zF]
   refine wpAnyT_next (i:=6) (by kernel_rfl) rfl ?_
   intro K hK
   go_simp
   refine hK.out _ _ (zN (by kernel_rfl)) ?_
   clear hK K
   try simp only [Act.put,zA,zB,zC,zD,zE,zF]
   refine wpAnyT_next (i:=7) (by kernel_rfl) rfl ?_
   intro K hK
   go_simp
   refine hK.out _ _ (zN (by kernel_rfl)) ?_
   clear hK K
   refine wpAnyT_done (by kernel_rfl) ?_ _
   go_wp2
   go_meet
   first
    | (with_reducible exact ⟨_,_,_,_,rfl,Lib.hid (HMB.out _ _ _ _ G2.out HG3.out)⟩)
    | (with_reducible exact ⟨_,_,_,_,rfl,Lib.hid (HMA.out _ _ _ _ G2.out G3.out)⟩)
    | trace_state
  ·intro K hK
   go_simp
   refine hK.out _ _ (fun _=>(HSS.out _ (by exact (by repeat (first | (with_reducible first | exact Below.refl _ _ | assumption | refine bset ?_ ?_ _ | refine balloc ?_ _ | refine Below.drew ?_ | refine bdrewN ?_ _ | refine bnext ?_ (by with_reducible assumption)) | exact Nat.le_refl _ | (simp;done) | omega | (simp;omega)))))) ?_
   clear hK K
   try simp only [Act.put,zA,zB,zC,zD,zE,zF]
   refine wpAnyT_next (i:=5) (by kernel_rfl) rfl ?_
   intro K hK
   go_simp
   go_at_call 25
   refine (HDO.out _ (by exact (by repeat (first | (with_reducible first | exact Below.refl _ _ | assumption | refine bset ?_ ?_ _ | refine balloc ?_ _ | refine Below.drew ?_ | refine bdrewN ?_ _ | refine bnext ?_ (by with_reducible assumption)) | exact Nat.le_refl _ | (simp;done) | omega | (simp;omega))))).mono ?_
   rintro e w4 ⟨cs,D1,dc1,M1,mc1,rfl,g1,g2,g3,g4⟩
   obtain ⟨Ad,cd,rfl,g5⟩:=Sent.rep_iff.1 g1
   have G3:Hid (Stays w1 w4 (a.sF x)):=Lib.hid ((Stays.of_below (by exact (by repeat (first | (with_reducible first | exact Below.refl _ _ | assumption | refine bset ?_ ?_ _ | refine balloc ?_ _ | refine Below.drew ?_ | refine bdrewN ?_ _ | refine bnext ?_ (by with_reducible assumption)) | exact Nat.le_refl _ | (simp;done) | omega | (simp;omega)))) _).comp g3)
   have G2:=Lib.hid (HPS.out _ _ _ _ _ _ (by exact (by repeat (first | (with_reducible first | exact Below.refl _ _ | assumption | refine bset ?_ ?_ _ | refine balloc ?_ _ | refine Below.drew ?_ | refine bdrewN ?_ _ | refine bnext ?_ (by with_reducible assumption)) | exact Nat.le_refl _ | (simp;done) | omega | (simp;omega)))) g2 g3 g4)
   (try with_reducible have zu:=(HZD.out w4 g3).get)
   (try with_reducible have zv:=(HZD.out w4 g3).frozen)
   (try with_reducible have zl:=(HZD.out w4 g3).lt)
   (try with_reducible have HG3:=Lib.hid g3)
   clear g1 g2 g3 g4 g5
   go_simp
   refine hK.out _ _ (zN (by kernel_rfl)) ?_
   clear hK K
   try simp only [Act.put,zA,zB,zC,zD,zE,zF]
   refine wpAnyT_next (i:=7) (by kernel_rfl) rfl ?_
   intro K hK
   go_simp
   refine hK.out _ _ (zN (by kernel_rfl)) ?_
   clear hK K
   refine wpAnyT_done (by kernel_rfl) ?_ _
   go_wp2
   go_meet
   first
    | (with_reducible exact ⟨_,_,_,_,rfl,Lib.hid (HMB.out _ _ _ _ G2.out HG3.out)⟩)
    | (with_reducible exact ⟨_,_,_,_,rfl,Lib.hid (HMA.out _ _ _ _ G2.out G3.out)⟩)
    | trace_state
 case rest=>
  obtain ⟨U,a1,Ad,cd,rfl,HM⟩:=hcut
  rename World=>w5
  have ud:=HM.out.box.get
  have ul:=HM.out.box.lt
  have zd:=HM.out.res.get
  have ze:=HM.out.res.frozen
  have zl:=HM.out.res.lt
  have HNW:Hid (¬ WF W { x with snd:=s' } a1 (w.heap.size+1)):=Lib.hid (fun e=>by
   rcases (HM.out.nm _ e).1 with e | e
   ·have:=HWL.out _ e;omega
   ·omega)
  have HFIN:Hid (∀ w',Stays w5 w' (fun k=>k=w.heap.size+1)→PasRes w B W x a (pp.own x ⟨dk,dd,da,dw,ds⟩) (.returned (.agg #[.int .i64 sc,.bool false,.int .i64 0,.slice none 0 0,.bool false,.int .i64 sl])) w'):=Lib.hid (fun w' hs=>by
   rw [HOW.out]
   exact PasRes.plain (r:=({ pp.none_ with code:=sc,left:=sl },{ x with snd:=s' })) rfl HM.out.at_ HM.out.stay (fun k hk=>((HM.out.nm k hk).1).imp (fun e=>e) (fun e=>by omega)) (hs.mono fun k hk e=>⟨by omega,fun e2=>HNW.out (e ▸ e2)⟩))
  clear HPS HMA HMB HDO HSS HZD
  go_wp2
  refine bodyPost_ret (v:=.agg #[.int .i64 sc,.bool false,.int .i64 0,.slice none 0 0,.bool false,.int .i64 sl]) (by simp [results,Try.results55,go_sem, *]) rfl (HFIN.out _ ?_)
  exact Stays.sixP _ _ _ _ _ _ _ _
end Go.Proofs.Ytdldfllllgogoaa
namespace Go.Proofs.Ytdldfllllgogoaa
open Go.RowKit
set_option linter.unusedSimpArgs false
theorem PasRes.lift {w w1 w2 w':World} {B W F:Nat} {x:pp.Wire} {a:WAd} {r:Passed × pp.Wire} {e:Ending} (hb:Below w.heap.size w w1) (hF:w.heap.size≤F∧F<w1.heap.size) (hWL:∀ k,WF W x a k→k<w.heap.size) (h:PasRes w1 B W x a r e w2) (hs:Stays w2 w' (fun k=>k=F)):PasRes w B W x a r e w':=by
 obtain ⟨cs,a1,he,h1,h2,h3,h4⟩:=h
 have hnF:¬ WF W r.2 a1 F:=fun e=>by
  rcases h4 F e with e | e
  ·have:=hWL F e;omega
  ·omega
 refine ⟨cs,a1,he,Passed.rep.mono h1 (fun k hk=>⟨⟨Nat.le_trans hb.size hk.1,Nat.lt_of_lt_of_le hk.2.1 hs.size,hk.2.2⟩,hs.block k hk.2.1 (by have:=hk.1;omega)⟩),h2.stays hs (fun k hk e=>hnF (e ▸ hk)),((Stays.of_below hb _).comp h3).trans hs (fun k hk e=>by omega),fun k hk=>(h4 k hk).imp (fun e=>e) (fun e=>Nat.le_trans hb.size e)⟩
/-- behind the hearer's turn in Do: what it told, in the block U -/
structure DrMid (w1 wx:World) (B W U:Nat) (x x1:pp.Wire) (a a1:WAd) (t:Told) (X5:Option Addr) (xc5:Nat) (Y5:Option Addr) (yc5:Nat):Prop where
 at_:WAt wx B W x1 a1
 stay:Stays w1 wx (WF W x a)
 nm:∀ k,WF W x1 a1 k→(WF W x a k∨w1.heap.size≤k)∧k≠U
 box:BlkA wx U 41 #[.int .i64 t.code,.int .i64 t.ack,.int .i64 t.window,.slice X5 t.sacks.length xc5,.slice Y5 t.data.length yc5,.bool t.end_]
 sk:SlRep Rng.rep wx (fun k=>k<wx.heap.size∧¬ WF W x1 a1 k) t.sacks X5 xc5
 dt:SlRep Rep.u8 wx (fun k=>k<wx.heap.size∧¬ WF W x1 a1 k) t.data Y5 yc5
/-- the same, ahead of the store -/
structure DrPre (wq w5:World) (B W:Nat) (x x1:pp.Wire) (a a1:WAd) (t:Told) (X5:Option Addr) (xc5:Nat) (Y5:Option Addr) (yc5:Nat):Prop where
 at_:WAt w5 B W x1 a1
 stay:Stays wq w5 (a.rF x)
 nm:∀ k,WF W x1 a1 k→WF W x a k∨wq.heap.size≤k
 sk:SlRep Rng.rep w5 (fun k=>wq.heap.size≤k∧k<w5.heap.size∧¬ WF W x1 a1 k) t.sacks X5 xc5
 dt:SlRep Rep.u8 w5 (fun k=>wq.heap.size≤k∧k<w5.heap.size∧¬ WF W x1 a1 k) t.data Y5 yc5
theorem PasRes.comp {w1 wx w2:World} {B W:Nat} {x x1:pp.Wire} {a a1:WAd} {r:Passed × pp.Wire} {e:Ending} (hs:Stays w1 wx (WF W x a)) (hn:∀ k,WF W x1 a1 k→WF W x a k∨w1.heap.size≤k) (h:PasRes wx B W x1 a1 r e w2):PasRes w1 B W x a r e w2:=by
 obtain ⟨cs,a2,he,h1,h2,h3,h4⟩:=h
 refine ⟨cs,a2,he,Passed.rep.mono h1 (fun k hk=>⟨⟨Nat.le_trans hs.size hk.1,hk.2⟩,rfl⟩),h2,hs.trans h3 (fun k hk e=>?_),fun k hk=>?_⟩
 ·rcases hn k e with e | e
  ·exact e
  ·omega
 ·rcases h4 k hk with e | e
  ·exact hn k e
  ·exact .inr (Nat.le_trans hs.size e)
theorem ok0:IntOk 0:=by unfold IntOk;decide
set_option maxRecDepth 100000 in
set_option maxHeartbeats 4000000 in
theorem pipe_Do (B W:Nat) (x:pp.Wire) (a:WAd) (t:Hop) (X:Option Addr) (xc:Nat) (w:World) (h:WAt w B W x a) {kk:Nat} (hi:pp.Inv x kk) (hk:kk≤1000) (hX:SlRep Rep.u8 w (· < w.heap.size) t.data X xc) (hid:IntOk t.id) (hat:IntOk t.at_) (hct:IntOk t.count) (hd:t.data.length≤140737488351232) :
  Calls Try.prog 29 #[.pointer (some ⟨W,0,none⟩),.agg #[.int .i64 t.kind,.slice X t.data.length xc,.int .i64 t.id,.int .i64 t.at_,.int .u8 t.by_.toNat,.int .i64 t.count]] w (PasRes w B W x a (pp.step x t)):=by
 obtain ⟨tk,td,ti,ta,tb,tc⟩:=t
 simp only at hX hid hat hct hd ⊢
 have HI:=Lib.hid hi
 have hW:=h.blk.lt
 have HWL:=Lib.hid (fun k (hk:WF W x a k)=>(h.lt hk).2)
 have hl:x.frames.length≤1000:=Nat.le_trans hi.few hk
 obtain ⟨w1,hw1⟩:∃ w1,w1=((w.alloc (.cells #[.pointer (some ⟨W,0,none⟩)] 86)).alloc (.cells #[.int .i64 tk,.slice X td.length xc,.int .i64 ti,.int .i64 ta,.int .u8 tb.toNat,.int .i64 tc] 89)).alloc (.cells #[.int .i64 0,.bool false,.int .i64 0,.slice none 0 0,.bool false,.int .i64 0] 58):=⟨_,rfl⟩
 have hb1:Below w.heap.size w w1:=by rw [hw1];exact balloc (balloc (balloc (bself w) _) _) _
 have hz1:w1.heap.size=w.heap.size+1+1+1:=by rw [hw1];simp
 have HP1:Hid (BlkA w1 w.heap.size 86 #[.pointer (some ⟨W,0,none⟩)]):=Lib.hid (by rw [hw1];exact ((BlkA.new _ _ _).alloc _).alloc _)
 have HH1:Hid (BlkA w1 (w.heap.size+1) 89 #[.int .i64 tk,.slice X td.length xc,.int .i64 ti,.int .i64 ta,.int .u8 tb.toNat,.int .i64 tc]):=Lib.hid (by
  rw [hw1]
  have h:=(BlkA.new (w.alloc (.cells #[.pointer (some ⟨W,0,none⟩)] 86)) 89 #[.int .i64 tk,.slice X td.length xc,.int .i64 ti,.int .i64 ta,.int .u8 tb.toNat,.int .i64 tc]).alloc (.cells #[.int .i64 0,.bool false,.int .i64 0,.slice none 0 0,.bool false,.int .i64 0] 58)
  simpa using h)
 have HZ1:Hid (BlkA w1 (w.heap.size+1+1) 58 #[.int .i64 0,.bool false,.int .i64 0,.slice none 0 0,.bool false,.int .i64 0]):=Lib.hid (by
  rw [hw1]
  have h:=BlkA.new ((w.alloc (.cells #[.pointer (some ⟨W,0,none⟩)] 86)).alloc (.cells #[.int .i64 tk,.slice X td.length xc,.int .i64 ti,.int .i64 ta,.int .u8 tb.toNat,.int .i64 tc] 89)) 58 #[.int .i64 0,.bool false,.int .i64 0,.slice none 0 0,.bool false,.int .i64 0]
  simpa using h)
 have H1:=Lib.hid (h.next hb1)
 have HB1:=Lib.hid hb1
 have HX1:=Lib.hid (hX.next hb1)
 have HNZ:Hid (¬ WF W x a (w.heap.size+1+1)):=Lib.hid (fun e=>by have:=HWL.out _ e;omega)
 have hd':=HH1.out.get
 have lh:=HH1.out.lt
 have pd:=HP1.out.get 0
 simp only [List.getElem?_toArray,List.getElem?_cons_zero] at pd
 have lp:=HP1.out.lt
 have zd:=HZ1.out.get
 have ze:=HZ1.out.frozen
 have lz:=HZ1.out.lt
 clear h hi hX hb1
 go_enter Try.func29,Try.ntmps29
 go_upto_region 1 with (fail)
 rw [← hw1]
 clear hw1
 by_cases k1:tk=1
 ·
  subst k1
  have HST:Hid (pp.step x ⟨1,td,ti,ta,tb,tc⟩=pp.own x ⟨1,td,0,0,[]⟩):=Lib.hid (by unfold pp.step;rw [if_pos rfl])
  have HC:Hid (Calls Try.prog 55 #[.agg #[.int .i64 1,.slice X td.length xc,.int .i64 0,.int .i64 0,.slice none 0 0],.pointer (some ⟨w.heap.size,0,none⟩)] w1 (PasRes w1 B W x a (pp.own x ⟨1,td,0,0,[]⟩))):=Lib.hid (pipe_own B W w.heap.size x a ⟨1,td,0,0,[]⟩ X xc none 0 w1 H1.out HI.out.snd HX1.out (SlRep.nilW _ _ _) ok0 ok0 hd (Nat.zero_le _) HP1.out)
  have HFIN:Hid (∀ (w2 w':World) (e:Ending),PasRes w1 B W x a (pp.own x ⟨1,td,0,0,[]⟩) e w2→Stays w2 w' (fun q=>q=w.heap.size+1+1)→PasRes w B W x a (pp.step x ⟨1,td,ti,ta,tb,tc⟩) e w'):=Lib.hid (fun w2 w' e hr hs=>by
   rw [HST.out]
   exact PasRes.lift HB1.out (by omega) HWL.out hr hs)
  generalize pp.own x ⟨1,td,0,0,[]⟩=r at *
  obtain ⟨⟨pc,pu,pi,pd,pe,pl⟩,x2⟩:=r
  go_wp2_with (first
   | (go_at_call 55;((with_reducible refine HC.out.mono ?_);rintro e w2 hr;obtain ⟨cs,a2,rfl,r1,r2,r3,r4⟩:=id hr;obtain ⟨Y,yc,rfl,r5⟩:=Passed.rep_iff.1 r1;have HRS:=Lib.hid hr;have z2:=HZ1.out.stays r3 HNZ.out;have zd:=z2.get;have ze:=z2.frozen;have lz2:=z2.lt;clear hr r1 r2 r3 r4 r5 z2))
   | fail)
  refine bodyPost_ret (v:=.agg #[.int .i64 pc,.bool pu,.int .i64 pi,.slice Y pd.length yc,.bool pe,.int .i64 pl]) (by simp [results,Try.results29,go_sem, *]) rfl (HFIN.out _ _ _ HRS.out ?_)
  exact Stays.sixP _ _ _ _ _ _ _ _
 have e1:(tk == 1)=false:=by simpa using k1
 by_cases k2:tk=2
 ·
  subst k2
  have HST:Hid (pp.step x ⟨2,td,ti,ta,tb,tc⟩=pp.own x ⟨5,[],0,0,[]⟩):=Lib.hid (by unfold pp.step;rw [if_neg (by simp),if_pos rfl])
  have HC:Hid (Calls Try.prog 55 #[.agg #[.int .i64 5,.slice none 0 0,.int .i64 0,.int .i64 0,.slice none 0 0],.pointer (some ⟨w.heap.size,0,none⟩)] w1 (PasRes w1 B W x a (pp.own x ⟨5,[],0,0,[]⟩))):=Lib.hid (pipe_own B W w.heap.size x a ⟨5,[],0,0,[]⟩ none 0 none 0 w1 H1.out HI.out.snd (SlRep.nilW _ _ _) (SlRep.nilW _ _ _) ok0 ok0 (Nat.zero_le _) (Nat.zero_le _) HP1.out)
  have HFIN:Hid (∀ (w2 w':World) (e:Ending),PasRes w1 B W x a (pp.own x ⟨5,[],0,0,[]⟩) e w2→Stays w2 w' (fun q=>q=w.heap.size+1+1)→PasRes w B W x a (pp.step x ⟨2,td,ti,ta,tb,tc⟩) e w'):=Lib.hid (fun w2 w' e hr hs=>by
   rw [HST.out]
   exact PasRes.lift HB1.out (by omega) HWL.out hr hs)
  generalize pp.own x ⟨5,[],0,0,[]⟩=r at *
  obtain ⟨⟨pc,pu,pi,pd,pe,pl⟩,x2⟩:=r
  go_wp2_with (first
   | (go_at_call 55;((with_reducible refine HC.out.mono ?_);rintro e w2 hr;obtain ⟨cs,a2,rfl,r1,r2,r3,r4⟩:=id hr;obtain ⟨Y,yc,rfl,r5⟩:=Passed.rep_iff.1 r1;have HRS:=Lib.hid hr;have z2:=HZ1.out.stays r3 HNZ.out;have zd:=z2.get;have ze:=z2.frozen;have lz2:=z2.lt;clear hr r1 r2 r3 r4 r5 z2))
   | fail)
  refine bodyPost_ret (v:=.agg #[.int .i64 pc,.bool pu,.int .i64 pi,.slice Y pd.length yc,.bool pe,.int .i64 pl]) (by simp [results,Try.results29,go_sem, *]) rfl (HFIN.out _ _ _ HRS.out ?_)
  exact Stays.sixP _ _ _ _ _ _ _ _
 have e2:(tk == 2)=false:=by simpa using k2
 by_cases k7:tk=7
 ·
  subst k7
  have HST:Hid (pp.step x ⟨7,td,ti,ta,tb,tc⟩=pp.own x ⟨4,[],0,0,[]⟩):=Lib.hid (by unfold pp.step;rw [if_neg (by simp),if_neg (by simp),if_pos rfl])
  have HC:Hid (Calls Try.prog 55 #[.agg #[.int .i64 4,.slice none 0 0,.int .i64 0,.int .i64 0,.slice none 0 0],.pointer (some ⟨w.heap.size,0,none⟩)] w1 (PasRes w1 B W x a (pp.own x ⟨4,[],0,0,[]⟩))):=Lib.hid (pipe_own B W w.heap.size x a ⟨4,[],0,0,[]⟩ none 0 none 0 w1 H1.out HI.out.snd (SlRep.nilW _ _ _) (SlRep.nilW _ _ _) ok0 ok0 (Nat.zero_le _) (Nat.zero_le _) HP1.out)
  have HFIN:Hid (∀ (w2 w':World) (e:Ending),PasRes w1 B W x a (pp.own x ⟨4,[],0,0,[]⟩) e w2→Stays w2 w' (fun q=>q=w.heap.size+1+1)→PasRes w B W x a (pp.step x ⟨7,td,ti,ta,tb,tc⟩) e w'):=Lib.hid (fun w2 w' e hr hs=>by
   rw [HST.out]
   exact PasRes.lift HB1.out (by omega) HWL.out hr hs)
  generalize pp.own x ⟨4,[],0,0,[]⟩=r at *
  obtain ⟨⟨pc,pu,pi,pd,pe,pl⟩,x2⟩:=r
  go_wp2_with (first
   | (go_at_call 55;((with_reducible refine HC.out.mono ?_);rintro e w2 hr;obtain ⟨cs,a2,rfl,r1,r2,r3,r4⟩:=id hr;obtain ⟨Y,yc,rfl,r5⟩:=Passed.rep_iff.1 r1;have HRS:=Lib.hid hr;have z2:=HZ1.out.stays r3 HNZ.out;have zd:=z2.get;have ze:=z2.frozen;have lz2:=z2.lt;clear hr r1 r2 r3 r4 r5 z2))
   | fail)
  refine bodyPost_ret (v:=.agg #[.int .i64 pc,.bool pu,.int .i64 pi,.slice Y pd.length yc,.bool pe,.int .i64 pl]) (by simp [results,Try.results29,go_sem, *]) rfl (HFIN.out _ _ _ HRS.out ?_)
  exact Stays.sixP _ _ _ _ _ _ _ _
 have e7:(tk == 7)=false:=by simpa using k7
 by_cases k3:tk=3
 ·
  subst k3
  have HST:Hid (pp.step x ⟨3,td,ti,ta,tb,tc⟩=pp.send x):=Lib.hid (by unfold pp.step;rw [if_neg (by simp),if_neg (by simp),if_neg (by simp),if_pos rfl])
  have HC:=Lib.hid (pipe_send B W x a w1 H1.out HI.out hk)
  have HFIN:Hid (∀ (w2 w':World) (e:Ending),PasRes w1 B W x a (pp.send x) e w2→Stays w2 w' (fun q=>q=w.heap.size+1+1)→PasRes w B W x a (pp.step x ⟨3,td,ti,ta,tb,tc⟩) e w'):=Lib.hid (fun w2 w' e hr hs=>by
   rw [HST.out]
   exact PasRes.lift HB1.out (by omega) HWL.out hr hs)
  generalize pp.send x=r at *
  obtain ⟨⟨pc,pu,pi,pd,pe,pl⟩,x2⟩:=r
  go_wp2_with (first
   | (go_at_call 56;((with_reducible refine HC.out.mono ?_);rintro e w2 hr;obtain ⟨cs,a2,rfl,r1,r2,r3,r4⟩:=id hr;obtain ⟨Y,yc,rfl,r5⟩:=Passed.rep_iff.1 r1;have HRS:=Lib.hid hr;have z2:=HZ1.out.stays r3 HNZ.out;have zd:=z2.get;have ze:=z2.frozen;have lz2:=z2.lt;clear hr r1 r2 r3 r4 r5 z2))
   | fail)
  refine bodyPost_ret (v:=.agg #[.int .i64 pc,.bool pu,.int .i64 pi,.slice Y pd.length yc,.bool pe,.int .i64 pl]) (by simp [results,Try.results29,go_sem, *]) rfl (HFIN.out _ _ _ HRS.out ?_)
  exact Stays.sixP _ _ _ _ _ _ _ _
 have e3:(tk == 3)=false:=by simpa using k3
 by_cases k4:tk=4
 ·subst k4
  have HST:Hid (pp.step x ⟨4,td,ti,ta,tb,tc⟩=(pp.no (pp.hit x ⟨4,td,ti,ta,tb,tc⟩).1,(pp.hit x ⟨4,td,ti,ta,tb,tc⟩).2)):=Lib.hid (by unfold pp.step;rw [if_neg (by simp),if_neg (by simp),if_neg (by simp),if_neg (by simp),if_pos rfl])
  have HC:Hid (Calls Try.prog 58 #[.pointer (some ⟨W,0,none⟩),.agg #[.int .i64 4,.slice X td.length xc,.int .i64 ti,.int .i64 ta,.int .u8 tb.toNat,.int .i64 tc]] w1 (WRes w1 B W x a (.int .i64 (pp.hit x ⟨4,td,ti,ta,tb,tc⟩).1) (pp.hit x ⟨4,td,ti,ta,tb,tc⟩).2)):=Lib.hid (pipe_hit B W x a ⟨4,td,ti,ta,tb,tc⟩ X xc w1 H1.out hl hid hat HI.out.size)
  generalize pp.hit x ⟨4,td,ti,ta,tb,tc⟩=r at *
  obtain ⟨c,x2⟩:=r
  simp only at HST HC
  have HNO:=Lib.hid (fun wx=>pipe_no c wx)
  go_wp2_with (first
   | (go_at_call 58;((with_reducible refine HC.out.mono ?_);rintro e w2 ⟨rfl,a2,r2,r3,r4⟩;have R2:=Lib.hid r2;have R3:=Lib.hid r3;have R4:=Lib.hid r4;have HZ2:=Lib.hid (HZ1.out.stays r3 HNZ.out);clear r2 r3 r4))
   | (go_at_call 57;((with_reducible refine (HNO.out _).mono ?_);rintro e w3 ⟨rfl,hb3⟩;have z3:=HZ2.out.next hb3;have zd:=z3.get;have ze:=z3.frozen;have lz3:=z3.lt;have HB3:=Lib.hid hb3;clear hb3 z3))
   | fail)
  have HFIN:Hid (∀ w',Stays w3 w' (fun q=>q=w.heap.size+1+1)→PasRes w B W x a (pp.step x ⟨4,td,ti,ta,tb,tc⟩) (.returned (.agg #[.int .i64 c,.bool false,.int .i64 0,.slice none 0 0,.bool false,.int .i64 0])) w'):=Lib.hid (fun w' hs=>by
   rw [HST.out]
   refine PasRes.plain (r:=(pp.no c,x2)) (a1:=a2) rfl (R2.out.next HB3.out) (((Stays.of_below HB1.out _).comp R3.out).comp (Stays.of_below HB3.out _)) (fun k hk=>(R4.out k hk).imp (fun e=>e) (fun e=>by omega)) (hs.mono fun q hq e=>⟨by omega,fun e2=>?_⟩)
   rcases R4.out q e2 with e3 | e3
   ·have:=HWL.out q e3;omega
   ·omega)
  refine bodyPost_ret (v:=.agg #[.int .i64 c,.bool false,.int .i64 0,.slice none 0 0,.bool false,.int .i64 0]) (by simp [results,Try.results29,go_sem, *]) rfl (HFIN.out _ ?_)
  exact Stays.sixP _ _ _ _ _ _ _ _
 have e4:(tk == 4)=false:=by simpa using k4
 by_cases k5:tk=5
 ·
  subst k5
  have HST:Hid (pp.step x ⟨5,td,ti,ta,tb,tc⟩=pp.carry x ti):=Lib.hid (by unfold pp.step;rw [if_neg (by simp),if_neg (by simp),if_neg (by simp),if_neg (by simp),if_neg (by simp),if_pos rfl])
  have HC:=Lib.hid (pipe_carry B W x a ti w1 H1.out HI.out hk hid)
  have HFIN:Hid (∀ (w2 w':World) (e:Ending),PasRes w1 B W x a (pp.carry x ti) e w2→Stays w2 w' (fun q=>q=w.heap.size+1+1)→PasRes w B W x a (pp.step x ⟨5,td,ti,ta,tb,tc⟩) e w'):=Lib.hid (fun w2 w' e hr hs=>by
   rw [HST.out]
   exact PasRes.lift HB1.out (by omega) HWL.out hr hs)
  generalize pp.carry x ti=r at *
  obtain ⟨⟨pc,pu,pi,pd,pe,pl⟩,x2⟩:=r
  go_wp2_with (first
   | (go_at_call 59;((with_reducible refine HC.out.mono ?_);rintro e w2 hr;obtain ⟨cs,a2,rfl,r1,r2,r3,r4⟩:=id hr;obtain ⟨Y,yc,rfl,r5⟩:=Passed.rep_iff.1 r1;have HRS:=Lib.hid hr;have z2:=HZ1.out.stays r3 HNZ.out;have zd:=z2.get;have ze:=z2.frozen;have lz2:=z2.lt;clear hr r1 r2 r3 r4 r5 z2))
   | fail)
  refine bodyPost_ret (v:=.agg #[.int .i64 pc,.bool pu,.int .i64 pi,.slice Y pd.length yc,.bool pe,.int .i64 pl]) (by simp [results,Try.results29,go_sem, *]) rfl (HFIN.out _ _ _ HRS.out ?_)
  exact Stays.sixP _ _ _ _ _ _ _ _
 have e5:(tk == 5)=false:=by simpa using k5
 by_cases k6:tk=6
 ·
  subst k6
  have HST:Hid (pp.step x ⟨6,td,ti,ta,tb,tc⟩=pp.back x ti):=Lib.hid (by unfold pp.step;rw [if_neg (by simp),if_neg (by simp),if_neg (by simp),if_neg (by simp),if_neg (by simp),if_neg (by simp),if_pos rfl])
  have HC:=Lib.hid (pipe_back B W x a ti w1 H1.out HI.out hk hid)
  have HFIN:Hid (∀ (w2 w':World) (e:Ending),PasRes w1 B W x a (pp.back x ti) e w2→Stays w2 w' (fun q=>q=w.heap.size+1+1)→PasRes w B W x a (pp.step x ⟨6,td,ti,ta,tb,tc⟩) e w'):=Lib.hid (fun w2 w' e hr hs=>by
   rw [HST.out]
   exact PasRes.lift HB1.out (by omega) HWL.out hr hs)
  generalize pp.back x ti=r at *
  obtain ⟨⟨pc,pu,pi,pd,pe,pl⟩,x2⟩:=r
  go_wp2_with (first
   | (go_at_call 60;((with_reducible refine HC.out.mono ?_);rintro e w2 hr;obtain ⟨cs,a2,rfl,r1,r2,r3,r4⟩:=id hr;obtain ⟨Y,yc,rfl,r5⟩:=Passed.rep_iff.1 r1;have HRS:=Lib.hid hr;have z2:=HZ1.out.stays r3 HNZ.out;have zd:=z2.get;have ze:=z2.frozen;have lz2:=z2.lt;clear hr r1 r2 r3 r4 r5 z2))
   | fail)
  refine bodyPost_ret (v:=.agg #[.int .i64 pc,.bool pu,.int .i64 pi,.slice Y pd.length yc,.bool pe,.int .i64 pl]) (by simp [results,Try.results29,go_sem, *]) rfl (HFIN.out _ _ _ HRS.out ?_)
  exact Stays.sixP _ _ _ _ _ _ _ _
 have e6:(tk == 6)=false:=by simpa using k6
 by_cases k8:tk=8
 ·subst k8
  have HST:Hid (pp.step x ⟨8,td,ti,ta,tb,tc⟩=pp.comes x ⟨2,0,[],false,tc⟩):=Lib.hid (by unfold pp.step;rw [if_neg (by simp),if_neg (by simp),if_neg (by simp),if_neg (by simp),if_neg (by simp),if_neg (by simp),if_neg (by simp),if_pos rfl])
  have HD0:=Lib.hid (fun wx (hb:Below w1.heap.size w1 wx)=>recv_Do B a.FH x.room x.rcv a.Dh a.dch a.Mh a.mch ⟨2,0,[],false,tc⟩ none 0 (fun _=>False) wx (H1.out.next hb).rcv HI.out.rcv HI.out.room (SlRep.nilW _ _ _) (fun q hq=>hq.elim) ok0 (Nat.zero_le _))
  have htb:=rv.told_bd HI.out.rcv HI.out.room ⟨2,0,[],false,tc⟩
  have HCM:Hid (pp.comes x ⟨2,0,[],false,tc⟩=pp.reply { x with rcv:=(rv.doIt x.room x.rcv ⟨2,0,[],false,tc⟩).2 } (rv.doIt x.room x.rcv ⟨2,0,[],false,tc⟩).1):=Lib.hid rfl
  generalize rv.doIt x.room x.rcv ⟨2,0,[],false,tc⟩=rr at *
  obtain ⟨⟨oc,oa,ow,os,od,oe⟩,s'⟩:=rr
  simp only at htb HCM HD0
  have HDO:Hid (∀ wx,Below w1.heap.size w1 wx→Calls Try.prog 21 #[.pointer (some ⟨a.FH,0,none⟩),.agg #[.int .i64 2,.int .i64 0,.slice none 0 0,.bool false,.int .i64 tc]] wx (TellRes wx B a.FH x.room x.rcv.more (⟨oc,oa,ow,os,od,oe⟩,s') a.Dh a.Mh)):=Lib.hid (fun wx hb=>HD0.out wx hb)
  have hWl:=H1.out
  have HPS:Hid (∀ (wq w5:World) (D5:Option Addr) (dc5:Nat) (M5:Option Addr) (mc5:Nat) (X5:Option Addr) (xc5:Nat) (Y5:Option Addr) (yc5:Nat),Below w1.heap.size w1 wq→HAt w5 B a.FH x.room s' D5 dc5 M5 mc5→Stays wq w5 (HF a.FH a.Dh a.Mh x.rcv.more)→(∀ k,HF a.FH D5 M5 s'.more k→HF a.FH a.Dh a.Mh x.rcv.more k∨wq.heap.size≤k)→SlRep Rng.rep w5 (fun k=>wq.heap.size≤k∧k<w5.heap.size∧¬ HF a.FH D5 M5 s'.more k) os X5 xc5→SlRep Rep.u8 w5 (fun k=>wq.heap.size≤k∧k<w5.heap.size∧¬ HF a.FH D5 M5 s'.more k) od Y5 yc5→DrPre wq w5 B W x { x with rcv:=s' } a { a with Dh:=D5,dch:=dc5,Mh:=M5,mch:=mc5 } ⟨oc,oa,ow,os,od,oe⟩ X5 xc5 Y5 yc5):=Lib.hid (fun wq w5 D5 dc5 M5 mc5 X5 xc5 Y5 yc5 hb g2 g3 g4 g5 g6=>by
   have hq:=H1.out.next hb
   obtain ⟨h8,h9⟩:=hq.putRcv g3 g2 g4
   have key:∀ k,(wq.heap.size≤k∧k<w5.heap.size∧¬ HF a.FH D5 M5 s'.more k)→(wq.heap.size≤k∧k<w5.heap.size∧¬ WF W { x with rcv:=s' } { a with Dh:=D5,dch:=dc5,Mh:=M5,mch:=mc5 } k):=fun k hk=>⟨hk.1,hk.2.1,fun e=>by
    rcases e with e | e | e | e
    ·have:=(hq.lt (k:=k) (.inl e)).2;omega
    ·have:=(hq.lt (k:=k) (.inr (.inl e))).2;omega
    ·exact hk.2.2 e
    ·have:=(hq.lt (k:=k) (.inr (.inr (.inr e)))).2;omega⟩
   exact ⟨h8,g3,h9,g5.keep fun k hk=>⟨key k hk,rfl⟩,g6.keep fun k hk=>⟨key k hk,rfl⟩⟩)
  have HZD:Hid (∀ w5,Stays (w1.alloc (.cells #[.int .i64 0,.int .i64 0,.int .i64 0,.slice none 0 0,.slice none 0 0,.bool false] 41)).drew w5 (HF a.FH a.Dh a.Mh x.rcv.more)→BlkA w5 (w.heap.size+1+1+1) 41 #[.int .i64 0,.int .i64 0,.int .i64 0,.slice none 0 0,.slice none 0 0,.bool false]):=Lib.hid (fun w5 hs=>by
   have hd:BlkA (w1.alloc (.cells #[.int .i64 0,.int .i64 0,.int .i64 0,.slice none 0 0,.slice none 0 0,.bool false] 41)).drew (w.heap.size+1+1+1) 41 #[.int .i64 0,.int .i64 0,.int .i64 0,.slice none 0 0,.slice none 0 0,.bool false]:=by rw [← hz1];exact BlkA.new w1 _ _
   exact hd.stays hs (fun e=>by have:=HWL.out _ (.inr (.inr (.inl e)));omega))
  have HMA:Hid (∀ (w5:World) (a1:WAd) (X5:Option Addr) (xc5:Nat) (Y5:Option Addr) (yc5:Nat),DrPre w1.drew w5 B W x { x with rcv:=s' } a a1 ⟨oc,oa,ow,os,od,oe⟩ X5 xc5 Y5 yc5→DrMid w1 (w5.alloc (.cells #[.int .i64 oc,.int .i64 oa,.int .i64 ow,.slice X5 os.length xc5,.slice Y5 od.length yc5,.bool oe] 41)) B W w5.heap.size x { x with rcv:=s' } a a1 ⟨oc,oa,ow,os,od,oe⟩ X5 xc5 Y5 yc5):=Lib.hid (fun w5 a1 X5 xc5 Y5 yc5 g=>by
   have hb:Below w5.heap.size w5 (w5.alloc (.cells #[.int .i64 oc,.int .i64 oa,.int .i64 ow,.slice X5 os.length xc5,.slice Y5 od.length yc5,.bool oe] 41)):=balloc (bself w5) _
   exact ⟨g.at_.next hb,((Stays.of_below (Below.drew (bself w1)) _).trans g.stay (fun k hk e=>.inr (.inr (.inl e)))).comp (Stays.of_below hb _),fun k hk=>⟨g.nm k hk,by have:=(g.at_.lt hk).2;omega⟩,BlkA.new _ _ _,g.sk.keep fun k hk=>⟨⟨Nat.lt_of_lt_of_le hk.2.1 hb.size,hk.2.2⟩,hb.block k hk.2.1⟩,g.dt.keep fun k hk=>⟨⟨Nat.lt_of_lt_of_le hk.2.1 hb.size,hk.2.2⟩,hb.block k hk.2.1⟩⟩)
  have HMB:Hid (∀ (w5:World) (a1:WAd) (X5:Option Addr) (xc5:Nat) (Y5:Option Addr) (yc5:Nat),DrPre (w1.alloc (.cells #[.int .i64 0,.int .i64 0,.int .i64 0,.slice none 0 0,.slice none 0 0,.bool false] 41)).drew w5 B W x { x with rcv:=s' } a a1 ⟨oc,oa,ow,os,od,oe⟩ X5 xc5 Y5 yc5→DrMid w1 ((((((w5.setCell ⟨w.heap.size+1+1+1,0,none⟩ (.int .i64 oc)).setCell ⟨w.heap.size+1+1+1,1,none⟩ (.int .i64 oa)).setCell ⟨w.heap.size+1+1+1,2,none⟩ (.int .i64 ow)).setCell ⟨w.heap.size+1+1+1,3,none⟩ (.slice X5 os.length xc5)).setCell ⟨w.heap.size+1+1+1,4,none⟩ (.slice Y5 od.length yc5)).setCell ⟨w.heap.size+1+1+1,5,none⟩ (.bool oe)) B W (w.heap.size+1+1+1) x { x with rcv:=s' } a a1 ⟨oc,oa,ow,os,od,oe⟩ X5 xc5 Y5 yc5):=Lib.hid (fun w5 a1 X5 xc5 Y5 yc5 g=>by
   have hb:Below w1.heap.size w1 (w1.alloc (.cells #[.int .i64 0,.int .i64 0,.int .i64 0,.slice none 0 0,.slice none 0 0,.bool false] 41)).drew:=Below.drew (balloc (bself w1) _)
   have hsz:(w1.alloc (.cells #[.int .i64 0,.int .i64 0,.int .i64 0,.slice none 0 0,.slice none 0 0,.bool false] 41)).drew.heap.size=w1.heap.size+1:=World.size_alloc _ _
   have hU:=HZD.out w5 g.stay
   have hne:∀ k,WF W { x with rcv:=s' } a1 k→(WF W x a k∨w1.heap.size≤k)∧k≠w.heap.size+1+1+1:=fun k hk=>by
    rcases g.nm k hk with e | e
    ·have:=HWL.out k e
     exact ⟨.inl e,by omega⟩
    ·rw [hsz] at e
     exact ⟨.inr (by omega),by omega⟩
   have st:=Stays.six w5 (w.heap.size+1+1+1) (.int .i64 oc) (.int .i64 oa) (.int .i64 ow) (.slice X5 os.length xc5) (.slice Y5 od.length yc5) (.bool oe)
   have hs15:Stays w1 w5 (WF W x a):=(Stays.of_below hb _).trans g.stay (fun k hk e=>.inr (.inr (.inl e)))
   exact ⟨g.at_.stays st (fun k hk e=>(hne k hk).2 e),hs15.trans st (fun k hk e=>by omega),hne,hU.six _ _ _ _ _ _,g.sk.keep fun k hk=>⟨⟨Nat.lt_of_lt_of_le hk.2.1 st.size,hk.2.2⟩,st.block k hk.2.1 (by have:=hk.1;rw [hsz] at this;omega)⟩,g.dt.keep fun k hk=>⟨⟨Nat.lt_of_lt_of_le hk.2.1 st.size,hk.2.2⟩,st.block k hk.2.1 (by have:=hk.1;rw [hsz] at this;omega)⟩⟩)
  have HSS:Hid (∀ wx,Below w1.heap.size w1 wx→wx.cell? ⟨w.heap.size,0,none⟩=some (.pointer (some ⟨W,0,none⟩))∧wx.cell? ⟨W,2,none⟩=some (.pointer (some ⟨a.FH,0,none⟩))∧wx.cell? ⟨w.heap.size+1,5,none⟩=some (.int .i64 tc)):=Lib.hid (fun wx hb=>⟨(HP1.out.next hb).get 0,(H1.out.next hb).ptrH,(HH1.out.next hb).get 5⟩)
  have lW:=H1.out.blk.lt
  clear HD0 hWl
  go_upto_region 18 with (fail)
  go_cut [6] (fun s6 wx=>∃ (U:Nat) (a1:WAd) (X5:Option Addr) (xc5:Nat) (Y5:Option Addr) (yc5:Nat),s6=.pointer (some ⟨U,0,none⟩)∧Hid (DrMid w1 wx B W U x { x with rcv:=s' } a a1 ⟨oc,oa,ow,os,od,oe⟩ X5 xc5 Y5 yc5))
  case first=>
   refine wp_region_tail [7,9] (fun wx=>wx.cell? ⟨w.heap.size,0,none⟩=some (.pointer (some ⟨W,0,none⟩))∧wx.cell? ⟨W,2,none⟩=some (.pointer (some ⟨a.FH,0,none⟩))∧wx.cell? ⟨w.heap.size+1,5,none⟩=some (.int .i64 tc)) (by kernel_rfl) (HSS.out w1 (bself _)) ?_
   intro hHeld
   refine zP 4 (v:=?_) ?_ (fun _=>hHeld) ?_
   rotate_left
   ·intro w9;go_simp;try with_reducible rfl
   try simp only [Act.put,zA,zB,zC,zD,zE,zF]
   refine zT 0 [1,2,3,7,9] (v:=?_) ?_ hHeld ?_
   rotate_left
   ·intro w9 hS9;(try dsimp only at hS9);obtain ⟨q1,q2,q3⟩:=hS9;go_simp;try with_reducible rfl
   try simp only [Act.put,zA,zB,zC,zD,zE,zF]
   refine zP 1 (v:=?_) ?_ (fun _=>hHeld) ?_
   rotate_left
   ·intro w9;go_simp;try with_reducible rfl
   try simp only [Act.put,zA,zB,zC,zD,zE,zF]
   refine zP 2 (v:=?_) ?_ (fun _=>hHeld) ?_
   rotate_left
   ·intro w9;go_simp;try with_reducible rfl
   try simp only [Act.put,zA,zB,zC,zD,zE,zF]
   refine zT 3 [7,9] (v:=?_) ?_ hHeld ?_
   rotate_left
   ·intro w9 hS9;(try dsimp only at hS9);obtain ⟨q1,q2,q3⟩:=hS9;go_simp;try with_reducible rfl
   try simp only [Act.put,zA,zB,zC,zD,zE,zF]
   refine zT 5 [6,7,9] (v:=?_) ?_ hHeld ?_
   rotate_left
   ·intro w9 hS9;(try dsimp only at hS9);obtain ⟨q1,q2,q3⟩:=hS9;go_simp;try with_reducible rfl
   try simp only [Act.put,zA,zB,zC,zD,zE,zF]
   refine zP 6 (v:=?_) ?_ (fun _=>hHeld) ?_
   rotate_left
   ·intro w9;go_simp;try with_reducible rfl
   try simp only [Act.put,zA,zB,zC,zD,zE,zF]
   refine wpAnyT_fork (i:=7) (j:=8) (by kernel_rfl) rfl rfl ?_ ?_
   ·intro K hK
    go_simp
    go_at_call 21
    refine (HDO.out _ (by exact (by repeat (first | (with_reducible first | exact Below.refl _ _ | assumption | refine bset ?_ ?_ _ | refine balloc ?_ _ | refine Below.drew ?_ | refine bdrewN ?_ _ | refine bnext ?_ (by with_reducible assumption)) | exact Nat.le_refl _ | (simp;done) | omega | (simp;omega))))).mono ?_
    rintro e w5 ⟨cs,D5,dc5,M5,mc5,rfl,g1,g2,g3,g4⟩
    obtain ⟨X5,xc5,Y5,yc5,rfl,g5,g6⟩:=Told.rep_iff.1 g1
    have G:=Lib.hid (HPS.out _ _ _ _ _ _ _ _ _ _ (by exact (by repeat (first | (with_reducible first | exact Below.refl _ _ | assumption | refine bset ?_ ?_ _ | refine balloc ?_ _ | refine Below.drew ?_ | refine bdrewN ?_ _ | refine bnext ?_ (by with_reducible assumption)) | exact Nat.le_refl _ | (simp;done) | omega | (simp;omega)))) g2 g3 g4 g5 g6)
    (try with_reducible have zu:=(HZD.out w5 g3).get)
    (try with_reducible have zv:=(HZD.out w5 g3).frozen)
    (try with_reducible have zl:=(HZD.out w5 g3).lt)
    clear g1 g2 g3 g4 g5 g6
    go_simp
    refine hK.out _ _ (zN (by kernel_rfl)) ?_
    clear hK K
    try simp only [Act.put,zA,zB,zC,zD,zE,zF]
    refine wpAnyT_next (i:=8) (by kernel_rfl) rfl ?_
    intro K hK
    go_simp
    refine hK.out _ _ (zN (by kernel_rfl)) ?_
    clear hK K
    try simp only [Act.put,zA,zB,zC,zD,zE,zF]
    refine wpAnyT_next (i:=9) (by kernel_rfl) rfl ?_
    intro K hK
    go_simp
    refine hK.out _ _ (zN (by kernel_rfl)) ?_
    clear hK K
    refine wpAnyT_done (by kernel_rfl) ?_ _
    go_wp2
    go_meet
    first
     | (with_reducible exact ⟨_,_,_,_,_,_,rfl,Lib.hid (HMB.out _ _ _ _ _ _ G.out)⟩)
     | (with_reducible exact ⟨_,_,_,_,_,_,rfl,Lib.hid (HMA.out _ _ _ _ _ _ G.out)⟩)
     | trace_state
   ·intro K hK
    go_simp
    refine hK.out _ _ (fun _=>(HSS.out _ (by exact (by repeat (first | (with_reducible first | exact Below.refl _ _ | assumption | refine bset ?_ ?_ _ | refine balloc ?_ _ | refine Below.drew ?_ | refine bdrewN ?_ _ | refine bnext ?_ (by with_reducible assumption)) | exact Nat.le_refl _ | (simp;done) | omega | (simp;omega)))))) ?_
    clear hK K
    try simp only [Act.put,zA,zB,zC,zD,zE,zF]
    refine wpAnyT_next (i:=7) (by kernel_rfl) rfl ?_
    intro K hK
    go_simp
    go_at_call 21
    refine (HDO.out _ (by exact (by repeat (first | (with_reducible first | exact Below.refl _ _ | assumption | refine bset ?_ ?_ _ | refine balloc ?_ _ | refine Below.drew ?_ | refine bdrewN ?_ _ | refine bnext ?_ (by with_reducible assumption)) | exact Nat.le_refl _ | (simp;done) | omega | (simp;omega))))).mono ?_
    rintro e w5 ⟨cs,D5,dc5,M5,mc5,rfl,g1,g2,g3,g4⟩
    obtain ⟨X5,xc5,Y5,yc5,rfl,g5,g6⟩:=Told.rep_iff.1 g1
    have G:=Lib.hid (HPS.out _ _ _ _ _ _ _ _ _ _ (by exact (by repeat (first | (with_reducible first | exact Below.refl _ _ | assumption | refine bset ?_ ?_ _ | refine balloc ?_ _ | refine Below.drew ?_ | refine bdrewN ?_ _ | refine bnext ?_ (by with_reducible assumption)) | exact Nat.le_refl _ | (simp;done) | omega | (simp;omega)))) g2 g3 g4 g5 g6)
    (try with_reducible have zu:=(HZD.out w5 g3).get)
    (try with_reducible have zv:=(HZD.out w5 g3).frozen)
    (try with_reducible have zl:=(HZD.out w5 g3).lt)
    clear g1 g2 g3 g4 g5 g6
    go_simp
    refine hK.out _ _ (zN (by kernel_rfl)) ?_
    clear hK K
    try simp only [Act.put,zA,zB,zC,zD,zE,zF]
    refine wpAnyT_next (i:=9) (by kernel_rfl) rfl ?_
    intro K hK
    go_simp
    refine hK.out _ _ (zN (by kernel_rfl)) ?_
    clear hK K
    refine wpAnyT_done (by kernel_rfl) ?_ _
    go_wp2
    go_meet
    first
     | (with_reducible exact ⟨_,_,_,_,_,_,rfl,Lib.hid (HMB.out _ _ _ _ _ _ G.out)⟩)
     | (with_reducible exact ⟨_,_,_,_,_,_,rfl,Lib.hid (HMA.out _ _ _ _ _ _ G.out)⟩)
     | trace_state
  case rest=>
   obtain ⟨U,a1,X5,xc5,Y5,yc5,rfl,HM⟩:=hcut
   rename World=>w5
   have HC:=Lib.hid (pipe_reply B W { x with rcv:=s' } a1 ⟨oc,oa,ow,os,od,oe⟩ X5 xc5 Y5 yc5 _ w5 HM.out.at_ HI.out.first hl HM.out.sk HM.out.dt (fun k hk=>hk) htb.1 htb.2.1 htb.2.2.1 (Nat.le_trans htb.2.2.2 (by decide)))
   simp only at HC
   have HFIN:Hid (∀ (w2 w':World) (e:Ending),PasRes w5 B W { x with rcv:=s' } a1 (pp.reply { x with rcv:=s' } ⟨oc,oa,ow,os,od,oe⟩) e w2→Stays w2 w' (fun q=>q=w.heap.size+1+1)→PasRes w B W x a (pp.step x ⟨8,td,ti,ta,tb,tc⟩) e w'):=Lib.hid (fun w2 w' e hr hs=>by
    rw [HST.out,HCM.out]
    exact PasRes.lift HB1.out (by omega) HWL.out (hr.comp HM.out.stay (fun k hk=>(HM.out.nm k hk).1)) hs)
   generalize pp.reply { x with rcv:=s' } ⟨oc,oa,ow,os,od,oe⟩=r at *
   obtain ⟨⟨pc,pu,pi,pd',pe,pl⟩,x2⟩:=r
   have HNW:Hid (¬ WF W { x with rcv:=s' } a1 (w.heap.size+1+1)):=Lib.hid (fun e=>by
    rcases (HM.out.nm _ e).1 with e | e
    ·have:=HWL.out _ e;omega
    ·omega)
   have HZ5:=Lib.hid (HZ1.out.stays HM.out.stay HNZ.out)
   have hP5:=HP1.out.stays HM.out.stay (fun e=>by have:=HWL.out _ e;omega)
   have pd5:=hP5.get 0
   simp only [List.getElem?_toArray,List.getElem?_cons_zero] at pd5
   have lp5:=hP5.lt
   have ud:=HM.out.box.get
   have ul:=HM.out.box.lt
   clear hP5 HPS HMA HMB HDO HSS HZD hd' zd ze
   go_wp2_with (first
    | (go_at_call 61;((with_reducible refine HC.out.mono ?_);rintro e w6 hr;obtain ⟨cs,a2,rfl,r1,r2,r3,r4⟩:=id hr;obtain ⟨Y,yc,rfl,r5⟩:=Passed.rep_iff.1 r1;have HRS:=Lib.hid hr;have z2:=HZ5.out.stays r3 HNW.out;have zd:=z2.get;have ze:=z2.frozen;have lz2:=z2.lt;clear hr r1 r2 r3 r4 r5 z2))
    | fail)
   refine bodyPost_ret (v:=.agg #[.int .i64 pc,.bool pu,.int .i64 pi,.slice Y pd'.length yc,.bool pe,.int .i64 pl]) (by simp [results,Try.results29,go_sem, *]) rfl (HFIN.out _ _ _ HRS.out ?_)
   exact Stays.sixP _ _ _ _ _ _ _ _
 have e8:(tk == 8)=false:=by simpa using k8
 have HST:Hid (pp.step x ⟨tk,td,ti,ta,tb,tc⟩=(pp.no 3,x)):=Lib.hid (by unfold pp.step;rw [if_neg k1,if_neg k2,if_neg k7,if_neg k3,if_neg k4,if_neg k5,if_neg k6,if_neg k8])
 have HNO:=Lib.hid (fun wx=>pipe_no 3 wx)
 go_wp2_with (first
  | (go_at_call 57;((with_reducible refine (HNO.out _).mono ?_);rintro e w3 ⟨rfl,hb3⟩;have z3:=HZ1.out.next hb3;have zd:=z3.get;have ze:=z3.frozen;have lz3:=z3.lt;have HB3:=Lib.hid hb3;clear hb3 z3))
  | fail)
 have HFIN:Hid (∀ w',Stays w3 w' (fun q=>q=w.heap.size+1+1)→PasRes w B W x a (pp.step x ⟨tk,td,ti,ta,tb,tc⟩) (.returned (.agg #[.int .i64 3,.bool false,.int .i64 0,.slice none 0 0,.bool false,.int .i64 0])) w'):=Lib.hid (fun w' hs=>by
  rw [HST.out]
  exact PasRes.plain (r:=(pp.no 3,x)) (a1:=a) rfl (H1.out.next HB3.out) (Stays.of_below (bnext HB1.out HB3.out) _) (fun k hk=>.inl hk) (hs.mono fun q hq e=>⟨by omega,fun e2=>HNZ.out (e ▸ e2)⟩))
 refine bodyPost_ret (v:=.agg #[.int .i64 3,.bool false,.int .i64 0,.slice none 0 0,.bool false,.int .i64 0]) (by simp [results,Try.results29,go_sem, *]) rfl (HFIN.out _ ?_)
 exact Stays.sixP _ _ _ _ _ _ _ _
end Go.Proofs.Ytdldfllllgogoaa
