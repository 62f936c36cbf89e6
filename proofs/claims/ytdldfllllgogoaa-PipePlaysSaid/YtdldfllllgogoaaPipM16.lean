/- Texts in one: PipeR6c, PipeR6d, Pipe12, SendR7, Recv7, RecvR8, PipeR7, PipeR8, Pipe13, PipeL. No condition. -/
import Derived.Test.YtdldfllllgogoaaPipM15
import Derived.Test.YtdldfllllgogoaaPipM14
import Derived.Test.YtdldfllllgogoaaPipM4
import Derived.Test.YtdldfllllgogoaaPipM6
import Derived.Test.YtdldfllllgogoaaPipM7
import Derived.Test.YtdldfllllgogoaaPipM9
namespace Go.Proofs.Ytdldfllllgogoaa
open Go.RowKit
set_option linter.unusedSimpArgs false
set_option maxRecDepth 100000 in
set_option maxHeartbeats 4000000 in
theorem rpipe_Hop_6 (B W:Nat) (x:pp.Wire) (a:RAd) (m:Nat) (t:Hop) (X:Option Addr) (xc:Nat) (w:World) (h:RAt w B W x a m) {kk:Nat} (hi:pp.Inv x kk) (hk:kk≤1000) (hm:m≤1000) (hX:SlRep Rep.u8 w (· < w.heap.size) t.data X xc) (hid:IntOk t.id) (hat:IntOk t.at_) (hct:IntOk t.count) (hd:t.data.length≤140737488351232) (k6:t.kind=6) :
  Calls Try.prog 32 #[.pointer (some ⟨W,0,none⟩),.agg #[.int .i64 t.kind,.slice X t.data.length xc,.int .i64 t.id,.int .i64 t.at_,.int .u8 t.by_.toNat,.int .i64 t.count]] w (RPas w.heap.size w B W a (m+1) (pp.step x t)):=by
 obtain ⟨tk,td,ti,ta,tb,tc⟩:=t
 simp only at hX hid hat hct hd k6 ⊢
 subst k6
 have HI:=Lib.hid hi
 have hW:=h.blk.lt
 have HWL:=Lib.hid (fun k (hk:RF W a k)=>(h.lt hk).2)
 have hl:x.frames.length≤1000:=Nat.le_trans hi.few hk
 obtain ⟨w1,hw1⟩:∃ w1,w1=((w.alloc (.cells #[.pointer (some ⟨W,0,none⟩)] 92)).alloc (.cells #[.int .i64 6,.slice X td.length xc,.int .i64 ti,.int .i64 ta,.int .u8 tb.toNat,.int .i64 tc] 89)).alloc (.cells #[.int .i64 0,.bool false,.int .i64 0,.slice none 0 0,.bool false,.int .i64 0] 58):=⟨_,rfl⟩
 have hb1:Below w.heap.size w w1:=by rw [hw1];exact balloc (balloc (balloc (bself w) _) _) _
 have hz1:w1.heap.size=w.heap.size+1+1+1:=by rw [hw1];simp
 have HP1:Hid (BlkA w1 w.heap.size 92 #[.pointer (some ⟨W,0,none⟩)]):=Lib.hid (by rw [hw1];exact ((BlkA.new _ _ _).alloc _).alloc _)
 have HH1:Hid (BlkA w1 (w.heap.size+1) 89 #[.int .i64 6,.slice X td.length xc,.int .i64 ti,.int .i64 ta,.int .u8 tb.toNat,.int .i64 tc]):=Lib.hid (by
  rw [hw1]
  have h:=(BlkA.new (w.alloc (.cells #[.pointer (some ⟨W,0,none⟩)] 92)) 89 #[.int .i64 6,.slice X td.length xc,.int .i64 ti,.int .i64 ta,.int .u8 tb.toNat,.int .i64 tc]).alloc (.cells #[.int .i64 0,.bool false,.int .i64 0,.slice none 0 0,.bool false,.int .i64 0] 58)
  simpa using h)
 have HZ1:Hid (BlkA w1 (w.heap.size+1+1) 58 #[.int .i64 0,.bool false,.int .i64 0,.slice none 0 0,.bool false,.int .i64 0]):=Lib.hid (by
  rw [hw1]
  have h:=BlkA.new ((w.alloc (.cells #[.pointer (some ⟨W,0,none⟩)] 92)).alloc (.cells #[.int .i64 6,.slice X td.length xc,.int .i64 ti,.int .i64 ta,.int .u8 tb.toNat,.int .i64 tc] 89)) 58 #[.int .i64 0,.bool false,.int .i64 0,.slice none 0 0,.bool false,.int .i64 0]
  simpa using h)
 have H1:=Lib.hid (h.next hb1)
 have H1u:=Lib.hid ((h.next hb1).up (Nat.le_succ m))
 have HB1:=Lib.hid hb1
 have HX1:=Lib.hid (hX.next hb1)
 have HNZ:Hid (¬ RF W a (w.heap.size+1+1)):=Lib.hid (fun e=>by have:=HWL.out _ e;omega)
 have hd':=HH1.out.get
 have lh:=HH1.out.lt
 have pd:=HP1.out.get 0
 simp only [List.getElem?_toArray,List.getElem?_cons_zero] at pd
 have lp:=HP1.out.lt
 have zd:=HZ1.out.get
 have ze:=HZ1.out.frozen
 have lz:=HZ1.out.lt
 clear h hi hX hb1
 go_enter Try.func32,Try.ntmps32
 go_upto_region 1 with (fail)
 rw [← hw1]
 clear hw1
 have HI2:=Lib.hid (HI.out.heard ti)
 have HST:Hid (pp.step x ⟨6,td,ti,ta,tb,tc⟩=({ pp.no (pp.heard x ti).1 with left:=sd.leftOf (pp.heard x ti).2.snd },(pp.heard x ti).2)):=Lib.hid (by unfold pp.step;rw [if_neg (by simp),if_neg (by simp),if_neg (by simp),if_neg (by simp),if_neg (by simp),if_neg (by simp),if_pos rfl];rfl)
 have HCA:Hid (pp.heard x ti=pp.heardOf x (pp.taken x ti true)):=Lib.hid rfl
 have HER:=Lib.hid (fun c=>pp.taken_err (x:=x) (id:=ti) (b:=true) (c:=c))
 have HOK:=Lib.hid (fun s=>pp.taken_ok (x:=x) (id:=ti) (b:=true) (s:=s))
 generalize pp.heard x ti=hr at *
 go_upto_region 37 with (fail)
 generalize hw2:World.alloc w1 _=w2
 try simp only [hz1]
 generalize hXe:w.heap.size+1+1+1=X
 have HX2:Hid (BlkA w2 X 58 #[.int .i64 0,.bool false,.int .i64 0,.slice none 0 0,.bool false,.int .i64 0]):=Lib.hid (by rw [← hw2,← hXe,← hz1];exact BlkA.new _ _ _)
 have hb12:Below w1.heap.size w1 w2:=by rw [← hw2];exact balloc (bself w1) _
 have HTK:=Lib.hid (rpipe_open B W x a m ti true w2 (H1.out.next hb12) hl hid HI.out.size)
 have hX1:w.heap.size+1+1<X:=by omega
 have HXE:=Lib.hid hXe
 have HB12:=Lib.hid hb12
 have lp2:=(HP1.out.next hb12).lt
 have pd2:=(HP1.out.next hb12).get 0
 have hd2:=(HH1.out.next hb12).get
 have lh2:=(HH1.out.next hb12).lt
 simp only [List.getElem?_toArray,List.getElem?_cons_zero] at pd2
 generalize pp.taken x ti true=r at *
 clear hw2 hb12 hXe
 go_upto_region 38 with (first
  | (go_at_call 65;((with_reducible refine HTK.out.mono ?_);rintro e w3 hres;obtain ⟨sq,ak,wn,sy,fi,rs,as_,sk,dt,A0,c0,A1,c1,hseg,rfl,r0,r1,hb3⟩:=SegRes.open hres;have HSG:=Lib.hid hseg;have R0:=Lib.hid r0;have HB3:=Lib.hid hb3;clear hres hseg r0 r1 hb3))
  | fail)
 generalize hw4:World.alloc w3 _=w4
 generalize hT:w3.heap.size=T
 have hb34:Below w3.heap.size w3 w4:=by rw [← hw4];exact balloc (bself w3) _
 have HT4:Hid (BlkA w4 T 134 #[.int .i64 sq,.int .i64 ak,.int .i64 wn,.bool sy,.bool fi,.bool rs,.bool as_,.slice A0 sk.length c0,.slice A1 dt.length c1]):=Lib.hid (by rw [← hw4,← hT];exact BlkA.new _ _ _)
 have hs3:=HB3.out.size
 have hXT:X<T:=Nat.lt_of_lt_of_le HX2.out.lt (by omega)
 have hb24:Below w2.heap.size w2 w4:=bnext HB3.out hb34
 have HX4:=Lib.hid (HX2.out.next hb24)
 have HB14:Hid (Below w1.heap.size w1 w4):=Lib.hid (bnext HB12.out hb24)
 have R4:Hid (SlRep Rng.rep w4 (fun k=>w2.heap.size≤k∧k<T) sk A0 c0):=Lib.hid (R0.out.keep fun q hq=>⟨⟨hq.1,by omega⟩,hb34.block q (by omega)⟩)
 have hXw2:X<w2.heap.size:=HX2.out.lt
 have hw2T:w2.heap.size≤T:=by omega
 have xd:=HX4.out.get
 have xf:=HX4.out.frozen
 have xl:=HX4.out.lt
 obtain ⟨ec,hec⟩:∃ ec,exC r=ec:=⟨_,rfl⟩
 simp only [hec]
 have HEC:=Lib.hid hec
 clear hw4 hT hb34 hs3 hb24 hec HB3 R0
 go_upto_if 185 with (fail)
 generalize hw5:World.setCell w4 _ _=w5
 have HS5:Hid (Stays w4 w5 (fun k=>k=X)):=Lib.hid (by rw [← hw5];exact Stays.set _ _ _ _)
 have HX5:Hid (BlkA w5 X 58 #[.int .i64 ec,.bool false,.int .i64 0,.slice none 0 0,.bool false,.int .i64 0]):=Lib.hid (by rw [← hw5];simpa using HX4.out.set 0 (.int .i64 ec))
 have HFX:Hid (¬ RF W a X):=Lib.hid (fun e=>by have:=HWL.out _ e;omega)
 have H5:=Lib.hid ((H1.out.next HB14.out).stays HS5.out (fun k hk e=>HFX.out (e ▸ hk)))
 have HP5:=Lib.hid ((HP1.out.next HB14.out).stays HS5.out (by omega))
 have HT5:=Lib.hid (HT4.out.stays HS5.out (by omega))
 have hX0:w1.heap.size≤X:=by have:=HXE.out;omega
 have HB15:Hid (Below w1.heap.size w1 w5):=Lib.hid (HB14.out.trans (HS5.out.below HB14.out.size (fun k hk=>by omega)))
 have R5:Hid (SlRep Rng.rep w5 (fun k=>w2.heap.size≤k∧k<T) sk A0 c0):=Lib.hid (R4.out.keep fun q hq=>⟨hq,HS5.out.block q (Nat.lt_trans hq.2 HT4.out.lt) (by omega)⟩)
 clear hw5 xd xf xl
 go_cut [] (fun wx=>∃ a2,Hid (HrMid w1 wx B W m X a hr a2))
 case first=>
  cases r with
  | error c=>
   have hc:=HER.out c rfl
   have q2:(c == 0)=false:=by simpa using hc
   obtain rfl:c=ec:=HEC.out
   have HR:hr=(c,x):=HCA.out
   clear hc
   go_wp2
   go_meet
   exact ⟨a,Lib.hid (by rw [HR];exact HrMid.mk' H5.out HB15.out (Stays.refl _ _) hX0 HFX.out HX5.out)⟩
  | ok s=>
   obtain rfl:0=ec:=HEC.out
   have hfa:=sg.may_ok (HOK.out s rfl)
   have hseg:s=⟨sq,ak,wn,sy,fi,rs,as_,sk,dt⟩:=HSG.out
   subst hseg
   simp only at hfa
   obtain ⟨_,hak,hwn,hskl,_,hskb⟩:=hfa
   have HSK:=Lib.hid hskb
   have hdn:0≤x.snd.done∧x.snd.done≤1048576:=by have:=HI.out.snd.lo;have:=HI.out.snd.end_;omega
   have HLO:Hid (Calls Try.prog 68 #[.pointer (some ⟨a.G,0,none⟩)] w5 fun e w'=>e=.returned (.int .i64 x.snd.done)∧w5=w'):=Lib.hid (rsend_Low B a.G x.snd a.kl a.td a.D a.dc a.K a.kc w5 H5.out.snd HI.out.snd)
   have p1:=H5.out.ptrS
   have hW5:=H5.out.blk.lt
   have pd5:=HP5.out.get 0
   simp only [List.getElem?_toArray,List.getElem?_cons_zero] at pd5
   have lp5:=HP5.out.lt
   have lT5:=HT5.out.lt
   have HFD:Hid (∀ (wx:World) (s:Int),Below w5.heap.size w5 wx→(0≤s∧s<65536)→Calls Try.prog 66 #[.pointer (some ⟨W,0,none⟩),.int .i64 s,.int .i64 x.snd.done] wx fun e w'=>e=.returned (.int .i64 (pp.place x s x.snd.done))∧Below wx.heap.size wx w'):=Lib.hid (fun wx s hb hs=>(rpipe_find B W x a m s x.snd.done wx (H5.out.next hb) HI.out.first hs hdn).mono (by rintro e _ ⟨rfl,rfl⟩;exact ⟨rfl,bself _⟩))
   have HPB:=Lib.hid (fun s=>pp.place_bd x (s:=s) hdn)
   have HPW:Hid (∀ wx,Below w5.heap.size w5 wx→wx.cell? ⟨w.heap.size,0,none⟩=some (.pointer (some ⟨W,0,none⟩))):=Lib.hid (fun wx hb=>(HP5.out.next hb).get 0)
   clear hskb
   go_upto_region 41 with (first
    | (go_at_call 68;((with_reducible refine HLO.out.mono ?_);rintro e _ ⟨rfl,rfl⟩))
    | fail)
   obtain ⟨p0,hp0⟩:∃ p0,pp.place x ak x.snd.done=p0:=⟨_,rfl⟩
   have HP0:=Lib.hid hp0
   have hp5:=HPB.out ak
   rw [hp0] at hp5
   have HSS:Hid (∀ wx,Below w5.heap.size w5 wx→wx.cell? ⟨w.heap.size,0,none⟩=some (.pointer (some ⟨W,0,none⟩))∧wx.cell? ⟨T,1,none⟩=some (.int .i64 ak)∧wx.cell? ⟨T,2,none⟩=some (.int .i64 wn)):=Lib.hid (fun wx hb=>⟨(HP5.out.next hb).get 0,(HT5.out.next hb).get 1,(HT5.out.next hb).get 2⟩)
   have HSX:=Lib.hid (fun wy (hb:Below w5.heap.size w5 wy)=>HSS.out wy hb)
   have HF0:Hid (∀ wx,Below w5.heap.size w5 wx→Calls Try.prog 66 #[.pointer (some ⟨W,0,none⟩),.int .i64 ak,.int .i64 x.snd.done] wx fun e w'=>e=.returned (.int .i64 p0)∧Below wx.heap.size wx w'):=Lib.hid (fun wx hb=>hp0 ▸ HFD.out wx ak hb hak)
   have HMA:Hid (∀ w6,Below w5.heap.size w5 w6→RdMid w5 (w6.alloc (.cells #[.int .i64 2,.slice none 0 0,.int .i64 p0,.int .i64 wn,.slice none 0 0] 82)) w6.heap.size p0 wn none 0 0 []):=Lib.hid (fun w6 hb=>⟨bnext hb (balloc (bself w6) _),BlkA.new _ _ _,Own.nil _ _ _ _,hb.size⟩)
   have HZD:Hid (∀ w6,Below (w5.alloc (.cells #[.int .i64 0,.slice none 0 0,.int .i64 0,.int .i64 0,.slice none 0 0] 82)).drew.heap.size (w5.alloc (.cells #[.int .i64 0,.slice none 0 0,.int .i64 0,.int .i64 0,.slice none 0 0] 82)).drew w6→BlkA w6 w5.heap.size 82 #[.int .i64 0,.slice none 0 0,.int .i64 0,.int .i64 0,.slice none 0 0]):=Lib.hid (fun w6 hs=>(BlkA.new w5 _ _).drew.next hs)
   have HMB:Hid (∀ w6,Below (w5.alloc (.cells #[.int .i64 0,.slice none 0 0,.int .i64 0,.int .i64 0,.slice none 0 0] 82)).drew.heap.size (w5.alloc (.cells #[.int .i64 0,.slice none 0 0,.int .i64 0,.int .i64 0,.slice none 0 0] 82)).drew w6→RdMid w5 (((((w6.setCell ⟨w5.heap.size,0,none⟩ (.int .i64 2)).setCell ⟨w5.heap.size,1,none⟩ (.slice none 0 0)).setCell ⟨w5.heap.size,2,none⟩ (.int .i64 p0)).setCell ⟨w5.heap.size,3,none⟩ (.int .i64 wn)).setCell ⟨w5.heap.size,4,none⟩ (.slice none 0 0)) w5.heap.size p0 wn none 0 0 []):=Lib.hid (fun w6 hs=>by
    have hb:Below w5.heap.size w5 w6:=bnext (Below.drew (balloc (bself w5) _)) hs
    have st:=Stays.five w6 w5.heap.size (.int .i64 2) (.slice none 0 0) (.int .i64 p0) (.int .i64 wn) (.slice none 0 0)
    exact ⟨hb.trans (st.below hb.size (fun k hk=>by omega)),(HZD.out w6 hs).five _ _ _ _ _,Own.nil _ _ _ _,Nat.le_refl _⟩)
   clear p1 hp0
   go_cut [15] (fun s15 wx=>∃ U,s15=.pointer (some ⟨U,0,none⟩)∧Hid (RdMid w5 wx U p0 wn none 0 0 []))
   case first=>
    as_aux_lemma=>
     refine wp_region_tail [9] (fun wx=>wx.cell? ⟨w.heap.size,0,none⟩=some (.pointer (some ⟨W,0,none⟩))∧wx.cell? ⟨T,1,none⟩=some (.int .i64 ak)∧wx.cell? ⟨T,2,none⟩=some (.int .i64 wn)) (by kernel_rfl) (HSS.out w5 (bself _)) ?_
     intro hHeld
     refine zP 1 (v:=?_) ?_ (fun _=>hHeld) ?_
     rotate_left
     ·intro w9;go_simp;try with_reducible rfl
     try simp only [Act.put,zA,zB,zC,zD,zE,zF]
     refine zP 3 (v:=?_) ?_ (fun _=>hHeld) ?_
     rotate_left
     ·intro w9;go_simp;try with_reducible rfl
     try simp only [Act.put,zA,zB,zC,zD,zE,zF]
     refine zP 5 (v:=?_) ?_ (fun _=>hHeld) ?_
     rotate_left
     ·intro w9;go_simp;try with_reducible rfl
     try simp only [Act.put,zA,zB,zC,zD,zE,zF]
     refine zT 0 [4,7,9] (v:=?_) ?_ hHeld ?_
     rotate_left
     ·intro w9 hS9;(try dsimp only at hS9);obtain ⟨q1,q2,q3⟩:=hS9;go_simp;try with_reducible rfl
     try simp only [Act.put,zA,zB,zC,zD,zE,zF]
     refine zT 2 [4,7,9] (v:=?_) ?_ hHeld ?_
     rotate_left
     ·intro w9 hS9;(try dsimp only at hS9);obtain ⟨q1,q2,q3⟩:=hS9;go_simp;try with_reducible rfl
     try simp only [Act.put,zA,zB,zC,zD,zE,zF]
     refine zT 6 [7,9] (v:=?_) ?_ hHeld ?_
     rotate_left
     ·intro w9 hS9;(try dsimp only at hS9);obtain ⟨q1,q2,q3⟩:=hS9;go_simp;try with_reducible rfl
     try simp only [Act.put,zA,zB,zC,zD,zE,zF]
     refine wpAnyT_fork (i:=4) (j:=8) (by kernel_rfl) rfl rfl ?_ ?_
     ·intro K hK
      go_simp
      go_at_call 66
      refine (HF0.out _ (by exact (by repeat (first | (with_reducible first | exact Below.refl _ _ | assumption | refine bset ?_ ?_ _ | refine balloc ?_ _ | refine Below.drew ?_ | refine bdrewN ?_ _ | refine bnext ?_ (by with_reducible assumption)) | exact Nat.le_refl _ | (simp;done) | omega | (simp;omega))))).mono ?_
      rintro e w6 ⟨rfl,g2⟩
      have HG6:=Lib.hid g2
      have hb6:Below w5.heap.size w5 w6:=bnext (by exact (by repeat (first | (with_reducible first | exact Below.refl _ _ | assumption | refine bset ?_ ?_ _ | refine balloc ?_ _ | refine Below.drew ?_ | refine bdrewN ?_ _ | refine bnext ?_ (by with_reducible assumption)) | exact Nat.le_refl _ | (simp;done) | omega | (simp;omega)))) g2
      have HB6:=Lib.hid hb6
      have hs6:=HSS.out w6 hb6
      have HSX:=Lib.hid (fun wy (hb:Below w6.heap.size w6 wy)=>HSS.out wy (bnext HB6.out hb))
      (try with_reducible have zu:=(HZD.out w6 g2).get)
      (try with_reducible have zv:=(HZD.out w6 g2).frozen)
      (try with_reducible have zl:=(HZD.out w6 g2).lt)
      clear g2 hb6
      go_simp
      have hHeld2:=hs6
      refine hK.out _ _ (fun _=>hHeld2) ?_
      clear hK K hHeld
      have hHeld:=hHeld2
      clear hHeld2
      try simp only [Act.put,zA,zB,zC,zD,zE,zF]
      refine zP 7 (v:=?_) ?_ (fun _=>hHeld) ?_
      rotate_left
      ·intro w9;go_simp;try with_reducible rfl
      try simp only [Act.put,zA,zB,zC,zD,zE,zF]
      refine wpAnyT_next (i:=8) (by kernel_rfl) rfl ?_
      intro K hK
      go_simp
      refine hK.out _ _ (fun _=>(HSX.out _ (by exact (by repeat (first | (with_reducible first | exact Below.refl _ _ | assumption | refine bset ?_ ?_ _ | refine balloc ?_ _ | refine Below.drew ?_ | refine bdrewN ?_ _ | refine bnext ?_ (by with_reducible assumption)) | exact Nat.le_refl _ | (simp;done) | omega | (simp;omega)))))) ?_
      clear hK K
      try simp only [Act.put,zA,zB,zC,zD,zE,zF]
      refine wpAnyT_next (i:=9) (by kernel_rfl) rfl ?_
      intro K hK
      go_simp
      refine hK.out _ _ (zN (by kernel_rfl)) ?_
      clear hK K
      refine wpAnyT_done (by kernel_rfl) ?_ _
      go_wp2
      go_meet
      first
       | (with_reducible exact ⟨_,rfl,Lib.hid (HMB.out _ HG6.out)⟩)
       | (with_reducible exact ⟨_,rfl,Lib.hid (HMA.out _ HB6.out)⟩)
       | trace_state
     ·intro K hK
      go_simp
      refine hK.out _ _ (fun _=>(HSX.out _ (by exact (by repeat (first | (with_reducible first | exact Below.refl _ _ | assumption | refine bset ?_ ?_ _ | refine balloc ?_ _ | refine Below.drew ?_ | refine bdrewN ?_ _ | refine bnext ?_ (by with_reducible assumption)) | exact Nat.le_refl _ | (simp;done) | omega | (simp;omega)))))) ?_
      clear hK K
      try simp only [Act.put,zA,zB,zC,zD,zE,zF]
      refine wpAnyT_next (i:=4) (by kernel_rfl) rfl ?_
      intro K hK
      go_simp
      go_at_call 66
      refine (HF0.out _ (by exact (by repeat (first | (with_reducible first | exact Below.refl _ _ | assumption | refine bset ?_ ?_ _ | refine balloc ?_ _ | refine Below.drew ?_ | refine bdrewN ?_ _ | refine bnext ?_ (by with_reducible assumption)) | exact Nat.le_refl _ | (simp;done) | omega | (simp;omega))))).mono ?_
      rintro e w6 ⟨rfl,g2⟩
      have HG6:=Lib.hid g2
      have hb6:Below w5.heap.size w5 w6:=bnext (by exact (by repeat (first | (with_reducible first | exact Below.refl _ _ | assumption | refine bset ?_ ?_ _ | refine balloc ?_ _ | refine Below.drew ?_ | refine bdrewN ?_ _ | refine bnext ?_ (by with_reducible assumption)) | exact Nat.le_refl _ | (simp;done) | omega | (simp;omega)))) g2
      have HB6:=Lib.hid hb6
      have hs6:=HSS.out w6 hb6
      have HSX:=Lib.hid (fun wy (hb:Below w6.heap.size w6 wy)=>HSS.out wy (bnext HB6.out hb))
      (try with_reducible have zu:=(HZD.out w6 g2).get)
      (try with_reducible have zv:=(HZD.out w6 g2).frozen)
      (try with_reducible have zl:=(HZD.out w6 g2).lt)
      clear g2 hb6
      go_simp
      have hHeld2:=hs6
      refine hK.out _ _ (fun _=>hHeld2) ?_
      clear hK K hHeld
      have hHeld:=hHeld2
      clear hHeld2
      try simp only [Act.put,zA,zB,zC,zD,zE,zF]
      refine zP 7 (v:=?_) ?_ (fun _=>hHeld) ?_
      rotate_left
      ·intro w9;go_simp;try with_reducible rfl
      try simp only [Act.put,zA,zB,zC,zD,zE,zF]
      refine wpAnyT_next (i:=9) (by kernel_rfl) rfl ?_
      intro K hK
      go_simp
      refine hK.out _ _ (zN (by kernel_rfl)) ?_
      clear hK K
      refine wpAnyT_done (by kernel_rfl) ?_ _
      go_wp2
      go_meet
      first
       | (with_reducible exact ⟨_,rfl,Lib.hid (HMB.out _ HG6.out)⟩)
       | (with_reducible exact ⟨_,rfl,Lib.hid (HMA.out _ HB6.out)⟩)
       | trace_state
   case rest=>
    obtain ⟨U,rfl,HM⟩:=hcut
    rename World=>wm
    obtain ⟨n,hn'⟩:∃ n,sk.length=n:=⟨_,rfl⟩
    have HN:=Lib.hid hn'
    have hT6:=HT5.out.next HM.out.stay
    have td:=hT6.get
    have lT6:=hT6.lt
    have ud:=HM.out.deed.get
    have ul:=HM.out.deed.lt
    rw [hn'] at hskl
    simp only [hn'] at td
    obtain ⟨b0,hb0⟩:∃ b0:Bool,decide (p0<0)=b0:=⟨_,rfl⟩
    have HE0:Hid (b0 = !pp.allOk x p0 (sk.take 0)):=Lib.hid (by
     rw [← hb0]
     by_cases c:p0<0
     ·rw [decide_eq_true c];simp [pp.allOk];omega
     ·rw [decide_eq_false c];simp [pp.allOk];omega)
    have HM0:Hid (RdMid w5 wm U p0 wn none 0 0 (((sk.take 0).map (pp.backR x)).flatMap Rng.cells)):=Lib.hid HM.out
    clear hT6 hn' HM HSS HSX HMA HMB HZD HF0
    go_wp2
    go_loopw [16,205] (fun s16 i wr=>∃ (k:Nat) (E:Option Addr) (ec:Nat) (bd:Bool),k≤n∧i=.int .i64 (k:Int)∧s16=.bool bd∧Hid (bd = !pp.allOk x p0 (sk.take k))∧Hid (RdMid w5 wr U p0 wn E k ec (((sk.take k).map (pp.backR x)).flatMap Rng.cells))) (fun _ i _=>n - (intOf i).toNat)
    case atStart=>exact ⟨0,none,0,b0,by omega,rfl,by rw [← hb0],HE0,HM0⟩
    case round=>
     as_aux_lemma=>
      obtain ⟨k,E,ec,bd,hk,rfl,rfl,HBD,HK⟩:=hrel
      rename World=>wr
      by_cases hkn:k<n
      ·--[v
       have hlt:k<sk.length:=by rw [HN.out];exact hkn
       have hsw:=HK.out.stay.size
       obtain ⟨g,o,rfl,hg,e0,e1⟩:=Rng.cells_at Rng.z (R5.out.keep (S':=(· < wr.heap.size)) fun q hq=>⟨by omega,HK.out.stay.block q (by omega)⟩) hlt
       have hlt':(k:Int)<(n:Int):=by omega
       have hrb:=HSK.out (sk.getD k Rng.z) (by rw [List.getD_eq_getElem?_getD,List.getElem?_eq_getElem hlt];exact List.getElem_mem hlt)
       have HTA:Hid (((sk.take (k+1)).map (pp.backR x)).flatMap Rng.cells=((sk.take k).map (pp.backR x)).flatMap Rng.cells ++ [.int .i64 (pp.place x (sk.getD k Rng.z).lo x.snd.done),.int .i64 (pp.place x (sk.getD k Rng.z).hi x.snd.done)]):=Lib.hid (by
        rw [sd.take_getD hlt,List.map_append,List.flatMap_append]
        rfl)
       have HOA:Hid (pp.allOk x p0 (sk.take (k+1))=((pp.allOk x p0 (sk.take k) && decide (0≤pp.place x (sk.getD k Rng.z).lo x.snd.done)) && decide (0≤pp.place x (sk.getD k Rng.z).hi x.snd.done))):=Lib.hid (by
        rw [sd.take_getD hlt,pp.allOk_snoc]
        rfl)
       generalize sk.getD k Rng.z=r at *
       obtain ⟨y0,y1⟩:=r
       dsimp only at e0 e1 hrb HTA HOA
       have hgr:g<wr.heap.size:=hg
       obtain ⟨w3,hw3⟩:∃ w3,w3=wr.alloc (.cells #[.int .i64 y0,.int .i64 y1] 78):=⟨_,rfl⟩
       have hb3:Below wr.heap.size wr w3:=by rw [hw3];exact balloc (bself wr) _
       have HRB:Hid (BlkA w3 wr.heap.size 78 #[.int .i64 y0,.int .i64 y1]):=Lib.hid (by rw [hw3];exact BlkA.new _ _ _)
       have HK5:Hid (Below w5.heap.size w5 w3):=Lib.hid (bnext HK.out.stay hb3)
       have HUB:=Lib.hid (HK.out.deed.next hb3)
       have HOE:=Lib.hid (HK.out.own.next hb3)
       have lRr:=HRB.out.lt
       have z0b:=HPB.out y0
       have z1b:=HPB.out y1
       obtain ⟨z0,hz0⟩:∃ z0,pp.place x y0 x.snd.done=z0:=⟨_,rfl⟩
       obtain ⟨z1,hz1'⟩:∃ z1,pp.place x y1 x.snd.done=z1:=⟨_,rfl⟩
       have HFA:Hid (∀ wx,Below w5.heap.size w5 wx→Calls Try.prog 66 #[.pointer (some ⟨W,0,none⟩),.int .i64 y0,.int .i64 x.snd.done] wx fun e w'=>e=.returned (.int .i64 z0)∧Below wx.heap.size wx w'):=Lib.hid (fun wx hb=>hz0 ▸ HFD.out wx y0 hb hrb.1)
       have HFB:Hid (∀ wx,Below w5.heap.size w5 wx→Calls Try.prog 66 #[.pointer (some ⟨W,0,none⟩),.int .i64 y1,.int .i64 x.snd.done] wx fun e w'=>e=.returned (.int .i64 z1)∧Below wx.heap.size wx w'):=Lib.hid (fun wx hb=>hz1' ▸ HFD.out wx y1 hb hrb.2)
       rw [hz0,hz1'] at HTA HOA
       rw [hz0] at z0b
       rw [hz1'] at z1b
       have HSS:Hid (∀ wx,Below w3.heap.size w3 wx→wx.cell? ⟨w.heap.size,0,none⟩=some (.pointer (some ⟨W,0,none⟩))∧wx.cell? ⟨wr.heap.size,0,none⟩=some (.int .i64 y0)∧wx.cell? ⟨wr.heap.size,1,none⟩=some (.int .i64 y1)):=Lib.hid (fun wx hb=>⟨HPW.out wx (bnext HK5.out hb),(HRB.out.next hb).get 0,(HRB.out.next hb).get 1⟩)
       have HSX:=Lib.hid (fun wy (hb:Below w3.heap.size w3 wy)=>HSS.out wy hb)
       have HZY:Hid (∀ wa wb,Below (World.alloc wa (.cells #[.int .i64 0,.int .i64 0] 78)).heap.size (World.alloc wa (.cells #[.int .i64 0,.int .i64 0] 78)) wb→BlkA wb wa.heap.size 78 #[.int .i64 0,.int .i64 0]):=Lib.hid (fun wa wb hb=>(BlkA.new wa _ _).next hb)
       have HMC:Hid (∀ w7,Below w3.heap.size w3 w7→RyMid w3 (w7.alloc (.cells #[.int .i64 z0,.int .i64 z1] 78)) w7.heap.size z0 z1):=Lib.hid (fun w7 hb=>⟨bnext hb (balloc (bself w7) _),BlkA.new _ _ _,hb.size⟩)
       have HMD:Hid (∀ wa wb,Below w3.heap.size w3 wa→Below (World.alloc wa (.cells #[.int .i64 0,.int .i64 0] 78)).heap.size (World.alloc wa (.cells #[.int .i64 0,.int .i64 0] 78)) wb→RyMid w3 ((wb.setCell ⟨wa.heap.size,0,none⟩ (.int .i64 z0)).setCell ⟨wa.heap.size,1,none⟩ (.int .i64 z1)) wa.heap.size z0 z1):=Lib.hid (fun wa wb h1 h2=>by
        have hb:Below w3.heap.size w3 wb:=bnext (bnext h1 (balloc (bself wa) _)) h2
        have hs:=h1.size
        exact ⟨(hb.setCell (p:=⟨wa.heap.size,0,none⟩) hs _).setCell (p:=⟨wa.heap.size,1,none⟩) hs _,(HZY.out wa wb h2).two_ _ _,hs⟩)
       clear hb3 hgr hz0 hz1'
       go_upto_region 46 with (fail)
       rw [← hw3]
       clear hw3 e0 e1 hg
       go_cut [19] (fun s19 wx=>∃ V,s19=.pointer (some ⟨V,0,none⟩)∧Hid (RyMid w3 wx V z0 z1))
       case first=>
        as_aux_lemma=>
         refine wp_region_tail [12] (fun wx=>wx.cell? ⟨w.heap.size,0,none⟩=some (.pointer (some ⟨W,0,none⟩))∧wx.cell? ⟨wr.heap.size,0,none⟩=some (.int .i64 y0)∧wx.cell? ⟨wr.heap.size,1,none⟩=some (.int .i64 y1)) (by kernel_rfl) (HSS.out w3 (bself _)) ?_
         intro hHeld
         refine zP 1 (v:=?_) ?_ (fun _=>hHeld) ?_
         rotate_left
         ·intro w9;go_simp;try with_reducible rfl
         try simp only [Act.put,zA,zB,zC,zD,zE,zF]
         refine zP 3 (v:=?_) ?_ (fun _=>hHeld) ?_
         rotate_left
         ·intro w9;go_simp;try with_reducible rfl
         try simp only [Act.put,zA,zB,zC,zD,zE,zF]
         refine zP 6 (v:=?_) ?_ (fun _=>hHeld) ?_
         rotate_left
         ·intro w9;go_simp;try with_reducible rfl
         try simp only [Act.put,zA,zB,zC,zD,zE,zF]
         refine zP 8 (v:=?_) ?_ (fun _=>hHeld) ?_
         rotate_left
         ·intro w9;go_simp;try with_reducible rfl
         try simp only [Act.put,zA,zB,zC,zD,zE,zF]
         refine zT 0 [4,9,10,12] (v:=?_) ?_ hHeld ?_
         rotate_left
         ·intro w9 hS9;(try dsimp only at hS9);obtain ⟨q1,q2,q3⟩:=hS9;go_simp;try with_reducible rfl
         try simp only [Act.put,zA,zB,zC,zD,zE,zF]
         refine zT 2 [4,9,10,12] (v:=?_) ?_ hHeld ?_
         rotate_left
         ·intro w9 hS9;(try dsimp only at hS9);obtain ⟨q1,q2,q3⟩:=hS9;go_simp;try with_reducible rfl
         try simp only [Act.put,zA,zB,zC,zD,zE,zF]
         refine zT 5 [9,10,12] (v:=?_) ?_ hHeld ?_
         rotate_left
         ·intro w9 hS9;(try dsimp only at hS9);obtain ⟨q1,q2,q3⟩:=hS9;go_simp;try with_reducible rfl
         try simp only [Act.put,zA,zB,zC,zD,zE,zF]
         refine zT 7 [9,10,12] (v:=?_) ?_ hHeld ?_
         rotate_left
         ·intro w9 hS9;(try dsimp only at hS9);obtain ⟨q1,q2,q3⟩:=hS9;go_simp;try with_reducible rfl
         try simp only [Act.put,zA,zB,zC,zD,zE,zF]
         refine wpAnyT_fork (i:=4) (j:=11) (by kernel_rfl) rfl rfl ?_ ?_
         ·intro K hK
          go_simp
          go_at_call 66
          refine (HFA.out _ (bnext HK5.out (by exact (by repeat (first | (with_reducible first | exact Below.refl _ _ | assumption | refine bset ?_ ?_ _ | refine balloc ?_ _ | refine Below.drew ?_ | refine bdrewN ?_ _ | refine bnext ?_ (by with_reducible assumption)) | exact Nat.le_refl _ | (simp;done) | omega | (simp;omega)))))).mono ?_
          rintro e w6 ⟨rfl,g2⟩
          have hb6:Below w3.heap.size w3 w6:=bnext (by exact (by repeat (first | (with_reducible first | exact Below.refl _ _ | assumption | refine bset ?_ ?_ _ | refine balloc ?_ _ | refine Below.drew ?_ | refine bdrewN ?_ _ | refine bnext ?_ (by with_reducible assumption)) | exact Nat.le_refl _ | (simp;done) | omega | (simp;omega)))) g2
          have HB6:=Lib.hid hb6
          have hs6:=HSS.out w6 hb6
          have HSX:=Lib.hid (fun wy (hb:Below w6.heap.size w6 wy)=>HSS.out wy (bnext HB6.out hb))
          (try have HA6:Hid (Below (World.alloc w3 (.cells #[.int .i64 0,.int .i64 0] 78)).heap.size (World.alloc w3 (.cells #[.int .i64 0,.int .i64 0] 78)) w6):=Lib.hid (by first | exact g2 | exact (Below.drew (bself _)).trans g2))
          clear g2 hb6
          go_simp
          have hHeld2:=hs6
          refine hK.out _ _ (fun _=>hHeld2) ?_
          clear hK K hHeld
          have hHeld:=hHeld2
          clear hHeld2
          try simp only [Act.put,zA,zB,zC,zD,zE,zF]
          refine wpAnyT_fork (i:=9) (j:=11) (by kernel_rfl) rfl rfl ?_ ?_
          ·intro K hK
           go_simp
           go_at_call 66
           refine (HFB.out _ (bnext HK5.out (by exact bnext HB6.out (by exact (by repeat (first | (with_reducible first | exact Below.refl _ _ | assumption | refine bset ?_ ?_ _ | refine balloc ?_ _ | refine Below.drew ?_ | refine bdrewN ?_ _ | refine bnext ?_ (by with_reducible assumption)) | exact Nat.le_refl _ | (simp;done) | omega | (simp;omega))))))).mono ?_
           rintro e w7 ⟨rfl,g2⟩
           have hb7:Below w3.heap.size w3 w7:=bnext (by exact bnext HB6.out (by exact (by repeat (first | (with_reducible first | exact Below.refl _ _ | assumption | refine bset ?_ ?_ _ | refine balloc ?_ _ | refine Below.drew ?_ | refine bdrewN ?_ _ | refine bnext ?_ (by with_reducible assumption)) | exact Nat.le_refl _ | (simp;done) | omega | (simp;omega))))) g2
           have HB7:=Lib.hid hb7
           have hs7:=HSS.out w7 hb7
           have HSX:=Lib.hid (fun wy (hb:Below w7.heap.size w7 wy)=>HSS.out wy (bnext HB7.out hb))
           (try have HA7:Hid (Below (World.alloc w3 (.cells #[.int .i64 0,.int .i64 0] 78)).heap.size (World.alloc w3 (.cells #[.int .i64 0,.int .i64 0] 78)) w7):=Lib.hid (by first | exact bnext HA6.out g2 | exact bnext (Below.drew HA6.out) g2))
           (try have HA7:Hid (Below (World.alloc w6 (.cells #[.int .i64 0,.int .i64 0] 78)).heap.size (World.alloc w6 (.cells #[.int .i64 0,.int .i64 0] 78)) w7):=Lib.hid (by first | exact g2 | exact (Below.drew (bself _)).trans g2))
           (try have zu:=(HZY.out _ _ HA7.out).get)
           (try have zv:=(HZY.out _ _ HA7.out).frozen)
           (try have zl:=(HZY.out _ _ HA7.out).lt)
           clear g2 hb7
           go_simp
           have hHeld2:=hs7
           refine hK.out _ _ (fun _=>hHeld2) ?_
           clear hK K hHeld
           have hHeld:=hHeld2
           clear hHeld2
           try simp only [Act.put,zA,zB,zC,zD,zE,zF]
           refine zP 10 (v:=?_) ?_ (fun _=>hHeld) ?_
           rotate_left
           ·intro w9;go_simp;try with_reducible rfl
           try simp only [Act.put,zA,zB,zC,zD,zE,zF]
           refine wpAnyT_next (i:=11) (by kernel_rfl) rfl ?_
           intro K hK
           go_simp
           refine hK.out _ _ (fun _=>(HSX.out _ (by exact (by repeat (first | (with_reducible first | exact Below.refl _ _ | assumption | refine bset ?_ ?_ _ | refine balloc ?_ _ | refine Below.drew ?_ | refine bdrewN ?_ _ | refine bnext ?_ (by with_reducible assumption)) | exact Nat.le_refl _ | (simp;done) | omega | (simp;omega)))))) ?_
           clear hK K
           try simp only [Act.put,zA,zB,zC,zD,zE,zF]
           refine wpAnyT_next (i:=12) (by kernel_rfl) rfl ?_
           intro K hK
           go_simp
           refine hK.out _ _ (zN (by kernel_rfl)) ?_
           clear hK K
           refine wpAnyT_done (by kernel_rfl) ?_ _
           go_wp2
           go_meet
           first
            | (with_reducible exact ⟨_,rfl,Lib.hid (HMD.out w3 _ (bself _) HA7.out)⟩)
            | (with_reducible exact ⟨_,rfl,Lib.hid (HMD.out w6 _ HB6.out HA7.out)⟩)
            | (with_reducible exact ⟨_,rfl,Lib.hid (HMC.out _ HB7.out)⟩)
            | trace_state
          ·intro K hK
           go_simp
           refine hK.out _ _ (fun _=>(HSX.out _ (by exact (by repeat (first | (with_reducible first | exact Below.refl _ _ | assumption | refine bset ?_ ?_ _ | refine balloc ?_ _ | refine Below.drew ?_ | refine bdrewN ?_ _ | refine bnext ?_ (by with_reducible assumption)) | exact Nat.le_refl _ | (simp;done) | omega | (simp;omega)))))) ?_
           clear hK K
           try simp only [Act.put,zA,zB,zC,zD,zE,zF]
           refine wpAnyT_next (i:=9) (by kernel_rfl) rfl ?_
           intro K hK
           go_simp
           go_at_call 66
           refine (HFB.out _ (bnext HK5.out (by exact bnext HB6.out (by exact (by repeat (first | (with_reducible first | exact Below.refl _ _ | assumption | refine bset ?_ ?_ _ | refine balloc ?_ _ | refine Below.drew ?_ | refine bdrewN ?_ _ | refine bnext ?_ (by with_reducible assumption)) | exact Nat.le_refl _ | (simp;done) | omega | (simp;omega))))))).mono ?_
           rintro e w7 ⟨rfl,g2⟩
           have hb7:Below w3.heap.size w3 w7:=bnext (by exact bnext HB6.out (by exact (by repeat (first | (with_reducible first | exact Below.refl _ _ | assumption | refine bset ?_ ?_ _ | refine balloc ?_ _ | refine Below.drew ?_ | refine bdrewN ?_ _ | refine bnext ?_ (by with_reducible assumption)) | exact Nat.le_refl _ | (simp;done) | omega | (simp;omega))))) g2
           have HB7:=Lib.hid hb7
           have hs7:=HSS.out w7 hb7
           have HSX:=Lib.hid (fun wy (hb:Below w7.heap.size w7 wy)=>HSS.out wy (bnext HB7.out hb))
           (try have HA7:Hid (Below (World.alloc w3 (.cells #[.int .i64 0,.int .i64 0] 78)).heap.size (World.alloc w3 (.cells #[.int .i64 0,.int .i64 0] 78)) w7):=Lib.hid (by first | exact bnext HA6.out g2 | exact bnext (Below.drew HA6.out) g2))
           (try have HA7:Hid (Below (World.alloc w6 (.cells #[.int .i64 0,.int .i64 0] 78)).heap.size (World.alloc w6 (.cells #[.int .i64 0,.int .i64 0] 78)) w7):=Lib.hid (by first | exact g2 | exact (Below.drew (bself _)).trans g2))
           (try have zu:=(HZY.out _ _ HA7.out).get)
           (try have zv:=(HZY.out _ _ HA7.out).frozen)
           (try have zl:=(HZY.out _ _ HA7.out).lt)
           clear g2 hb7
           go_simp
           have hHeld2:=hs7
           refine hK.out _ _ (fun _=>hHeld2) ?_
           clear hK K hHeld
           have hHeld:=hHeld2
           clear hHeld2
           try simp only [Act.put,zA,zB,zC,zD,zE,zF]
           refine zP 10 (v:=?_) ?_ (fun _=>hHeld) ?_
           rotate_left
           ·intro w9;go_simp;try with_reducible rfl
           try simp only [Act.put,zA,zB,zC,zD,zE,zF]
           refine wpAnyT_next (i:=12) (by kernel_rfl) rfl ?_
           intro K hK
           go_simp
           refine hK.out _ _ (zN (by kernel_rfl)) ?_
           clear hK K
           refine wpAnyT_done (by kernel_rfl) ?_ _
           go_wp2
           go_meet
           first
            | (with_reducible exact ⟨_,rfl,Lib.hid (HMD.out w3 _ (bself _) HA7.out)⟩)
            | (with_reducible exact ⟨_,rfl,Lib.hid (HMD.out w6 _ HB6.out HA7.out)⟩)
            | (with_reducible exact ⟨_,rfl,Lib.hid (HMC.out _ HB7.out)⟩)
            | trace_state
         ·intro K hK
          go_simp
          refine hK.out _ _ (fun _=>(HSX.out _ (by exact (by repeat (first | (with_reducible first | exact Below.refl _ _ | assumption | refine bset ?_ ?_ _ | refine balloc ?_ _ | refine Below.drew ?_ | refine bdrewN ?_ _ | refine bnext ?_ (by with_reducible assumption)) | exact Nat.le_refl _ | (simp;done) | omega | (simp;omega)))))) ?_
          clear hK K
          try simp only [Act.put,zA,zB,zC,zD,zE,zF]
          refine wpAnyT_next (i:=4) (by kernel_rfl) rfl ?_
          intro K hK
          go_simp
          go_at_call 66
          refine (HFA.out _ (bnext HK5.out (by exact (by repeat (first | (with_reducible first | exact Below.refl _ _ | assumption | refine bset ?_ ?_ _ | refine balloc ?_ _ | refine Below.drew ?_ | refine bdrewN ?_ _ | refine bnext ?_ (by with_reducible assumption)) | exact Nat.le_refl _ | (simp;done) | omega | (simp;omega)))))).mono ?_
          rintro e w6 ⟨rfl,g2⟩
          have hb6:Below w3.heap.size w3 w6:=bnext (by exact (by repeat (first | (with_reducible first | exact Below.refl _ _ | assumption | refine bset ?_ ?_ _ | refine balloc ?_ _ | refine Below.drew ?_ | refine bdrewN ?_ _ | refine bnext ?_ (by with_reducible assumption)) | exact Nat.le_refl _ | (simp;done) | omega | (simp;omega)))) g2
          have HB6:=Lib.hid hb6
          have hs6:=HSS.out w6 hb6
          have HSX:=Lib.hid (fun wy (hb:Below w6.heap.size w6 wy)=>HSS.out wy (bnext HB6.out hb))
          (try have HA6:Hid (Below (World.alloc w3 (.cells #[.int .i64 0,.int .i64 0] 78)).heap.size (World.alloc w3 (.cells #[.int .i64 0,.int .i64 0] 78)) w6):=Lib.hid (by first | exact g2 | exact (Below.drew (bself _)).trans g2))
          clear g2 hb6
          go_simp
          have hHeld2:=hs6
          refine hK.out _ _ (fun _=>hHeld2) ?_
          clear hK K hHeld
          have hHeld:=hHeld2
          clear hHeld2
          try simp only [Act.put,zA,zB,zC,zD,zE,zF]
          refine wpAnyT_next (i:=9) (by kernel_rfl) rfl ?_
          intro K hK
          go_simp
          go_at_call 66
          refine (HFB.out _ (bnext HK5.out (by exact bnext HB6.out (by exact (by repeat (first | (with_reducible first | exact Below.refl _ _ | assumption | refine bset ?_ ?_ _ | refine balloc ?_ _ | refine Below.drew ?_ | refine bdrewN ?_ _ | refine bnext ?_ (by with_reducible assumption)) | exact Nat.le_refl _ | (simp;done) | omega | (simp;omega))))))).mono ?_
          rintro e w7 ⟨rfl,g2⟩
          have hb7:Below w3.heap.size w3 w7:=bnext (by exact bnext HB6.out (by exact (by repeat (first | (with_reducible first | exact Below.refl _ _ | assumption | refine bset ?_ ?_ _ | refine balloc ?_ _ | refine Below.drew ?_ | refine bdrewN ?_ _ | refine bnext ?_ (by with_reducible assumption)) | exact Nat.le_refl _ | (simp;done) | omega | (simp;omega))))) g2
          have HB7:=Lib.hid hb7
          have hs7:=HSS.out w7 hb7
          have HSX:=Lib.hid (fun wy (hb:Below w7.heap.size w7 wy)=>HSS.out wy (bnext HB7.out hb))
          (try have HA7:Hid (Below (World.alloc w3 (.cells #[.int .i64 0,.int .i64 0] 78)).heap.size (World.alloc w3 (.cells #[.int .i64 0,.int .i64 0] 78)) w7):=Lib.hid (by first | exact bnext HA6.out g2 | exact bnext (Below.drew HA6.out) g2))
          (try have HA7:Hid (Below (World.alloc w6 (.cells #[.int .i64 0,.int .i64 0] 78)).heap.size (World.alloc w6 (.cells #[.int .i64 0,.int .i64 0] 78)) w7):=Lib.hid (by first | exact g2 | exact (Below.drew (bself _)).trans g2))
          (try have zu:=(HZY.out _ _ HA7.out).get)
          (try have zv:=(HZY.out _ _ HA7.out).frozen)
          (try have zl:=(HZY.out _ _ HA7.out).lt)
          clear g2 hb7
          go_simp
          have hHeld2:=hs7
          refine hK.out _ _ (fun _=>hHeld2) ?_
          clear hK K hHeld
          have hHeld:=hHeld2
          clear hHeld2
          try simp only [Act.put,zA,zB,zC,zD,zE,zF]
          refine zP 10 (v:=?_) ?_ (fun _=>hHeld) ?_
          rotate_left
          ·intro w9;go_simp;try with_reducible rfl
          try simp only [Act.put,zA,zB,zC,zD,zE,zF]
          refine wpAnyT_next (i:=12) (by kernel_rfl) rfl ?_
          intro K hK
          go_simp
          refine hK.out _ _ (zN (by kernel_rfl)) ?_
          clear hK K
          refine wpAnyT_done (by kernel_rfl) ?_ _
          go_wp2
          go_meet
          first
           | (with_reducible exact ⟨_,rfl,Lib.hid (HMD.out w3 _ (bself _) HA7.out)⟩)
           | (with_reducible exact ⟨_,rfl,Lib.hid (HMD.out w6 _ HB6.out HA7.out)⟩)
           | (with_reducible exact ⟨_,rfl,Lib.hid (HMC.out _ HB7.out)⟩)
           | trace_state
       case rest=>
        obtain ⟨V,rfl,HY⟩:=hcut
        rename World=>wy
        have yd:=HY.out.yb.get
        have yl:=HY.out.yb.lt
        clear HSS HSX HZY HMC HMD HFA HFB
        obtain ⟨b1,hb1'⟩:∃ b1:Bool,decide (z0<0)=b1:=⟨_,rfl⟩
        obtain ⟨b2,hb2'⟩:∃ b2:Bool,decide (z1<0)=b2:=⟨_,rfl⟩
        have HBD2:Hid ((bd || b1 || b2) = !pp.allOk x p0 (sk.take (k+1))):=Lib.hid (by
         rw [HOA.out,HBD.out,← hb1',← hb2',Bool.not_and,Bool.not_and,lt0_not,lt0_not])
        have HUY:=Lib.hid (HUB.out.next HY.out.stay)
        have HOY:=Lib.hid (HOE.out.next HY.out.stay)
        have HKY:Hid (Below w5.heap.size w5 wy):=Lib.hid (bnext HK5.out HY.out.stay)
        have HYB:=Lib.hid HY.out.yb
        have HNU:=Lib.hid HK.out.new
        have HOE1:Hid (∀ q,blkOf E=some q→q<wr.heap.size):=Lib.hid (fun q hq=>(HK.out.own.lt q hq).2)
        have HVN:Hid (wr.heap.size≤V):=Lib.hid (by have h1:=HY.out.new;have h2:=lRr;omega)
        clear HOA HBD HUB HOE HY HK HRB
        go_upto_region 47 with (fail)
        go_cut [16] (fun s16 wx=>s16=.bool (bd || b1 || b2)∧Hid (Below wy.heap.size wy wx))
        case first=>
         cases bd with
         | true=>
          go_wp2
          go_meet
          exact ⟨rfl,Lib.hid (by repeat (first | (with_reducible first | exact Below.refl _ _ | assumption | refine bset ?_ ?_ _ | refine balloc ?_ _ | refine Below.drew ?_ | refine bdrewN ?_ _ | refine bnext ?_ (by with_reducible assumption)) | exact Nat.le_refl _ | (simp;done) | omega | (simp;omega)))⟩
         | false=>
          cases b1 with
          | true=>
           go_wp2
           go_meet
           exact ⟨rfl,Lib.hid (by repeat (first | (with_reducible first | exact Below.refl _ _ | assumption | refine bset ?_ ?_ _ | refine balloc ?_ _ | refine Below.drew ?_ | refine bdrewN ?_ _ | refine bnext ?_ (by with_reducible assumption)) | exact Nat.le_refl _ | (simp;done) | omega | (simp;omega)))⟩
          | false=>
           cases b2 with
           | true=>
            go_wp2
            go_meet
            exact ⟨rfl,Lib.hid (by repeat (first | (with_reducible first | exact Below.refl _ _ | assumption | refine bset ?_ ?_ _ | refine balloc ?_ _ | refine Below.drew ?_ | refine bdrewN ?_ _ | refine bnext ?_ (by with_reducible assumption)) | exact Nat.le_refl _ | (simp;done) | omega | (simp;omega)))⟩
           | false=>
            go_wp2
            go_meet
            exact ⟨rfl,Lib.hid (by repeat (first | (with_reducible first | exact Below.refl _ _ | assumption | refine bset ?_ ?_ _ | refine balloc ?_ _ | refine Below.drew ?_ | refine bdrewN ?_ _ | refine bnext ?_ (by with_reducible assumption)) | exact Nat.le_refl _ | (simp;done) | omega | (simp;omega)))⟩
        case rest=>
         obtain ⟨rfl,HZW⟩:=hcut
         rename World=>wz
         generalize (bd || b1 || b2)=b3 at HBD2 ⊢
         clear hb1' hb2'
         have HUZ:=Lib.hid (HUY.out.next HZW.out)
         have HOZ:=Lib.hid (HOY.out.next HZW.out)
         have HKZ:Hid (Below w5.heap.size w5 wz):=Lib.hid (bnext HKY.out HZW.out)
         have HVZ:=Lib.hid (HYB.out.next HZW.out)
         have hET:∀ q,blkOf E=some q→q≠U∧q≠V:=fun q hq=>⟨fun e=>HUZ.out.apart HOZ.out rngNeDeed (e ▸ hq),fun e=>by have h1:=(HOE1.out q hq);have h2:=HVN.out;omega⟩
         have HSS:Hid (∀ wx,Stays wz wx (fun q=>blkOf E=some q)→wx.cell? ⟨U,4,none⟩=some (.slice E k ec)∧wx.cell? ⟨V,0,none⟩=some (.int .i64 z0)∧wx.cell? ⟨V,1,none⟩=some (.int .i64 z1)):=Lib.hid (fun wx hs=>by
          have h5:=HUZ.out.stays hs (fun e=>(hET _ e).1 rfl)
          have h6:=HVZ.out.stays hs (fun e=>(hET _ e).2 rfl)
          exact ⟨h5.get 4,h6.get 0,h6.get 1⟩)
         have HFZ:Hid (∀ wx,Stays wz wx (fun q=>blkOf E=some q)→wx.frozen? ⟨U,4,none⟩=false):=Lib.hid (fun wx hs=>(HUZ.out.stays hs (fun e=>(hET _ e).1 rfl)).frozen 4)
         have HO3:Hid (∀ wx,Below wz.heap.size wz wx→Own wx w5.heap.size 78 2 E k ec (((sk.take k).map (pp.backR x)).flatMap Rng.cells)):=Lib.hid (fun wx hb=>HOZ.out.next hb)
         have HBS:Hid (∀ wx,Below wz.heap.size wz wx→w5.heap.size≤wx.heap.size):=Lib.hid (fun wx hb=>Nat.le_trans HKZ.out.size hb.size)
         have lUz:=HUZ.out.lt
         have lVz:=HVZ.out.lt
         clear yd yl
         have ud:=HUZ.out.get
         have vd:=HVZ.out.get
         go_wp2_with (first
          | (at_builtin;refine wp_app _ rfl _ _ _ rfl elemRng w5.heap.size E k ec _ rfl (HO3.out _ (by exact (by repeat (first | (with_reducible first | exact Below.refl _ _ | assumption | refine bset ?_ ?_ _ | refine balloc ?_ _ | refine Below.drew ?_ | refine bdrewN ?_ _ | refine bnext ?_ (by with_reducible assumption)) | exact Nat.le_refl _ | (simp;done) | omega | (simp;omega))))) _ 1 1 [.int .i64 z0,.int .i64 z1] rfl rfl (Cells.newAt _ _ _ rfl) (by simp [Value.oneCell']) (by omega) (by unfold maxLen;omega) (HBS.out _ (by exact (by repeat (first | (with_reducible first | exact Below.refl _ _ | assumption | refine bset ?_ ?_ _ | refine balloc ?_ _ | refine Below.drew ?_ | refine bdrewN ?_ _ | refine bnext ?_ (by with_reducible assumption)) | exact Nat.le_refl _ | (simp;done) | omega | (simp;omega))))) ?_;intro E7 c7 w8 hO8 hg8;have HO8:=Lib.hid hO8;have hst8:Stays wz w8 (fun q=>blkOf E=some q):=(Stays.of_below (by exact (by repeat (first | (with_reducible first | exact Below.refl _ _ | assumption | refine bset ?_ ?_ _ | refine balloc ?_ _ | refine Below.drew ?_ | refine bdrewN ?_ _ | refine bnext ?_ (by with_reducible assumption)) | exact Nat.le_refl _ | (simp;done) | omega | (simp;omega)))) _).comp (Stays.grew hg8);have HST8:=Lib.hid hst8;have hs8:=HSS.out _ hst8;obtain ⟨us8,_,_⟩:=hs8;have f8:=HFZ.out _ hst8;have l8:U<w8.heap.size:=Nat.lt_of_lt_of_le lUz hst8.size;clear hO8 hg8 hst8)
          | fail)
         have HNX:Hid (RdMid w5 (w8.setCell ⟨U,4,none⟩ (.slice E7 (k+1) c7)) U p0 wn E7 (k+1) c7 (((sk.take (k+1)).map (pp.backR x)).flatMap Rng.cells)):=Lib.hid (by
          have hb8:=HUZ.out.stays HST8.out (fun e=>(hET _ e).1 rfl)
          refine ⟨(HKZ.out.trans (HST8.out.below HKZ.out.size (fun q hq=>(HOZ.out.lt q hq).1))).setCell (p:=⟨U,4,none⟩) HNU.out _,by simpa using hb8.set 4 (.slice E7 (k+1) c7),?_,HNU.out⟩
          rw [HTA.out]
          exact HO8.out.setCell (hb8.apart HO8.out rngNeDeed) _)
         go_roundw
         case rel=>exact ⟨k+1,E7,c7,b3,by omega,by go_num,rfl,HBD2,HNX⟩
         case measure=>simp [intOf];omega
      ·obtain rfl:k=n:=by omega
       have hnlt:decide (k<k)=false:=by simp
       have htk:sk.take k=sk:=by rw [← HN.out];exact List.take_length
       rw [htk] at HK HBD
       have hsw:=HK.out.stay.size
       have HAB:Hid (pp.anyBelow (pp.backD x ⟨sq,ak,wn,sy,fi,rs,as_,sk,dt⟩)=bd):=Lib.hid (by rw [HBD.out,← HP0.out];exact pp.allOk_not x ⟨sq,ak,wn,sy,fi,rs,as_,sk,dt⟩)
       have HHE:Hid (hr=if pp.anyBelow (pp.backD x ⟨sq,ak,wn,sy,fi,rs,as_,sk,dt⟩)=true then (2,x) else ((sd.doIt x.snd (pp.backD x ⟨sq,ak,wn,sy,fi,rs,as_,sk,dt⟩)).1.code,{ x with snd:=(sd.doIt x.snd (pp.backD x ⟨sq,ak,wn,sy,fi,rs,as_,sk,dt⟩)).2 })):=Lib.hid (by rw [HCA.out];rfl)
       have HXR:=Lib.hid (HX5.out.next HK.out.stay)
       have HRR:=Lib.hid (H5.out.next HK.out.stay)
       have HPR:=Lib.hid (HP5.out.next HK.out.stay)
       have HB1R:Hid (Below w1.heap.size w1 wr):=Lib.hid (bnext HB15.out HK.out.stay)
       have HUR:=Lib.hid HK.out.deed
       have xd:=HXR.out.get
       have xf:=HXR.out.frozen
       have xl:=HXR.out.lt
       clear htk
       cases bd with
       | true=>
        have HR:Hid (hr=(2,x)):=Lib.hid (by rw [HHE.out,HAB.out];rfl)
        clear HHE HAB HCA
        go_wp2
        go_meet
        exact ⟨a,Lib.hid (by rw [HR.out];exact HrMid.mk' (HRR.out.stays (Stays.set _ _ _ _) (fun k hk e=>HFX.out (e ▸ hk))) HB1R.out (Stays.set _ _ _ _) hX0 HFX.out (by simpa using HXR.out.set 0 (.int .i64 2)))⟩
       | false=>
        obtain ⟨dd,hdd⟩:∃ dd,pp.backD x ⟨sq,ak,wn,sy,fi,rs,as_,sk,dt⟩=dd:=⟨_,rfl⟩
        have HR:Hid (hr=((sd.doIt x.snd dd).1.code,{ x with snd:=(sd.doIt x.snd dd).2 })):=Lib.hid (by rw [HHE.out,HAB.out,hdd];rfl)
        have hml:(sk.map (pp.backR x)).length=k:=by rw [List.length_map];exact HN.out
        have hde:dd=⟨2,[],p0,wn,sk.map (pp.backR x)⟩:=by rw [← hdd,← HP0.out];rfl
        go_upto_region 52 with (fail)
        generalize hw6:World.setCell wr _ _=w6
        have HS6:Hid (Stays wr w6 (fun k=>k=X)):=Lib.hid (by rw [← hw6];exact Stays.set _ _ _ _)
        have HX6:Hid (BlkA w6 X 58 #[.int .i64 2,.bool false,.int .i64 0,.slice none 0 0,.bool false,.int .i64 0]):=Lib.hid (by rw [← hw6];simpa using HXR.out.set 0 (.int .i64 2))
        have HR6:=Lib.hid (HRR.out.stays HS6.out (fun k hk e=>HFX.out (e ▸ hk)))
        have hX5:X<w5.heap.size:=HX5.out.lt
        have hnU:=HK.out.new
        have HP6:=Lib.hid (HPR.out.stays HS6.out (by omega))
        have HU6:=Lib.hid (HUR.out.stays HS6.out (by omega))
        have HO6:=Lib.hid (HK.out.own.stays HS6.out (fun q hq e=>by have:=(HK.out.own.lt q hq).1;omega))
        have HDO:Hid (∀ wx,Below w6.heap.size w6 wx→Calls Try.prog 27 #[.pointer (some ⟨a.G,0,none⟩),.agg #[.int .i64 2,.slice none 0 0,.int .i64 p0,.int .i64 wn,.slice E k ec]] wx (DeedRes wx B a.G (sd.doIt x.snd dd) a.D a.K)):=Lib.hid (fun wx hb=>by
         have h9:=ref_Deed B a.G x.snd a.kl a.td a.D a.dc a.K a.kc ⟨2,[],p0,wn,sk.map (pp.backR x)⟩ none 0 E ec wx (HR6.out.next hb).snd HI.out.snd (SlRep.nilW _ _ _) (((Own.rng (HO6.out.next hb)).2).within fun q hq=>hq.2) (by unfold IntOk;simp only;omega) (by unfold IntOk;simp only;omega) (Nat.zero_le _) (by simp only;rw [hml];omega)
         simp only at h9
         rw [hml] at h9
         rw [hde]
         exact h9)
        generalize sd.doIt x.snd dd=rr at *
        obtain ⟨⟨rc,rf,rd,rn,ra,ri,rl⟩,s'⟩:=rr
        simp only at HR
        have HSS:Hid (∀ wx,Below w6.heap.size w6 wx→wx.cell? ⟨w.heap.size,0,none⟩=some (.pointer (some ⟨W,0,none⟩))∧wx.cell? ⟨W,1,none⟩=some (.pointer (some ⟨a.G,0,none⟩))∧(∀ j:Nat,wx.cell? ⟨U,j,none⟩ = #[Value.int .i64 2,.slice none 0 0,.int .i64 p0,.int .i64 wn,.slice E k ec][j]?)):=Lib.hid (fun wx hb=>⟨(HP6.out.next hb).get 0,(HR6.out.next hb).ptrS,(HU6.out.next hb).get⟩)
        have lU6:=HU6.out.lt
        have lP6:=HP6.out.lt
        have lW6:=HR6.out.blk.lt
        clear hw6 HHE HAB HCA hdd hde hml xd xf xl
        have hfl:=sent_field0 (.int .i64 rc) (.int .i64 rf)
        refine wp_region_tail [5,8] (fun wx=>wx.cell? ⟨w.heap.size,0,none⟩=some (.pointer (some ⟨W,0,none⟩))∧wx.cell? ⟨W,1,none⟩=some (.pointer (some ⟨a.G,0,none⟩))∧(∀ j:Nat,wx.cell? ⟨U,j,none⟩ = #[Value.int .i64 2,.slice none 0 0,.int .i64 p0,.int .i64 wn,.slice E k ec][j]?)) (by kernel_rfl) (HSS.out w6 (bself _)) ?_
        intro hHeld
        refine zT 0 [1,2,3,5,6,7,8] (v:=?_) ?_ hHeld ?_
        rotate_left
        ·intro w9 hS9;(try dsimp only at hS9);obtain ⟨q1,q2,q3⟩:=hS9;go_simp;try with_reducible rfl
        try simp only [Act.put,zA,zB,zC,zD,zE,zF]
        refine zP 1 (v:=?_) ?_ (fun _=>hHeld) ?_
        rotate_left
        ·intro w9;go_simp;try with_reducible rfl
        try simp only [Act.put,zA,zB,zC,zD,zE,zF]
        refine zP 2 (v:=?_) ?_ (fun _=>hHeld) ?_
        rotate_left
        ·intro w9;go_simp;try with_reducible rfl
        try simp only [Act.put,zA,zB,zC,zD,zE,zF]
        refine zT 3 [5,6,7,8] (v:=?_) ?_ hHeld ?_
        rotate_left
        ·intro w9 hS9;(try dsimp only at hS9);obtain ⟨q1,q2,q3⟩:=hS9;go_simp;try with_reducible rfl
        try simp only [Act.put,zA,zB,zC,zD,zE,zF]
        refine zT 4 [5,6,7,8] (v:=?_) ?_ hHeld ?_
        rotate_left
        ·intro w9 hS9;(try dsimp only at hS9);obtain ⟨q1,q2,q3⟩:=hS9;go_simp;try with_reducible rfl
        try simp only [Act.put,zA,zB,zC,zD,zE,zF]
        refine wpAnyT_next (i:=5) (by kernel_rfl) rfl ?_
        intro K hK
        go_simp
        go_at_call 27
        refine (HDO.out _ (by exact (by repeat (first | (with_reducible first | exact Below.refl _ _ | assumption | refine bset ?_ ?_ _ | refine balloc ?_ _ | refine Below.drew ?_ | refine bdrewN ?_ _ | refine bnext ?_ (by with_reducible assumption)) | exact Nat.le_refl _ | (simp;done) | omega | (simp;omega))))).mono ?_
        rintro e w7 ⟨cs,kl1,td1,D1,dc1,K1,kc1,rfl,g1,g2,g3,g4⟩
        obtain ⟨Ad,cd,rfl,g5⟩:=Sent.rep_iff.1 g1
        have G3:Hid (Stays w6 w7 a.sF):=Lib.hid ((Stays.of_below (by exact (by repeat (first | (with_reducible first | exact Below.refl _ _ | assumption | refine bset ?_ ?_ _ | refine balloc ?_ _ | refine Below.drew ?_ | refine bdrewN ?_ _ | refine bnext ?_ (by with_reducible assumption)) | exact Nat.le_refl _ | (simp;done) | omega | (simp;omega)))) _).comp (g3.mono fun _ _ e=>.inl e))
        have G2:=Lib.hid (HR6.out.putSnd G3.out g2 (fun k hk=>(g4 k hk).imp (fun e=>e) (fun e=>e)))
        have HX7:=Lib.hid (HX6.out.stays G3.out (fun e=>HFX.out (.inr (.inl e))))
        have xd:=HX7.out.get
        have xf:=HX7.out.frozen
        have xl:=HX7.out.lt
        clear g1 g2 g3 g4 g5
        go_simp
        refine hK.out _ _ (zN (by kernel_rfl)) ?_
        clear hK K
        try simp only [Act.put,zA,zB,zC,zD,zE,zF]
        refine zP 6 (v:=?_) ?_ (zN (by kernel_rfl)) ?_
        rotate_left
        ·intro w9;go_simp;try with_reducible rfl
        try simp only [Act.put,zA,zB,zC,zD,zE,zF]
        refine zP 7 (v:=?_) ?_ (zN (by kernel_rfl)) ?_
        rotate_left
        ·intro w9;go_simp;try with_reducible rfl
        try simp only [Act.put,zA,zB,zC,zD,zE,zF]
        refine wpAnyT_next (i:=8) (by kernel_rfl) rfl ?_
        intro K hK
        go_simp
        refine hK.out _ _ (zN (by kernel_rfl)) ?_
        clear hK K
        refine wpAnyT_done (by kernel_rfl) ?_ _
        have HFI:Hid (HrMid w1 (w7.setCell ⟨X,0,none⟩ (.int .i64 rc)) B W m X a (rc,{ x with snd:=s' }) { a with kl:=kl1,td:=td1,D:=D1,dc:=dc1,K:=K1,kc:=kc1 }):=Lib.hid (by
         have hf:¬ RF W { a with kl:=kl1,td:=td1,D:=D1,dc:=dc1,K:=K1,kc:=kc1 } X:=fun e=>by
          rcases G2.out.2 X e with e | e
          ·exact HFX.out e
          ·have:=HX6.out.lt;omega
         refine ⟨G2.out.1.stays (Stays.set _ _ _ _) (fun k hk e=>hf (e ▸ hk)),?_,fun k hk=>(G2.out.2 k hk).imp (fun e=>e) (fun e=>Nat.le_trans (Nat.le_trans HB1R.out.size HS6.out.size) e),hf,by simpa using HX7.out.set 0 (.int .i64 rc)⟩
         exact (((Stays.of_below HB1R.out _).trans HS6.out (fun q hq e=>by omega)).trans G3.out (fun q hq e=>.inr (.inl e))).trans (Stays.set _ _ _ _) (fun q hq e=>by omega))
        clear HSS HDO
        go_wp2
        go_meet
        exact ⟨_,Lib.hid (by rw [HR.out];exact HFI.out)⟩
 case rest=>
  obtain ⟨a2,HM⟩:=hcut
  rename World=>wr
  obtain ⟨hc,x2⟩:=hr
  simp only at HI2 HST
  have HR:=Lib.hid HM.out.at_
  have HXR:=Lib.hid HM.out.box
  have HPR:=Lib.hid (HP1.out.stays HM.out.stay (fun e=>by have:=HWL.out _ e;omega))
  have HZR:=Lib.hid (HZ1.out.stays HM.out.stay HNZ.out)
  have HN0:=Lib.hid (sd.none_do x2.snd)
  have HDO:Hid (∀ wx,Below wr.heap.size wr wx→Calls Try.prog 27 #[.pointer (some ⟨a2.G,0,none⟩),.agg #[.int .i64 0,.slice none 0 0,.int .i64 0,.int .i64 0,.slice none 0 0]] wx (DeedRes wx B a2.G (sd.doIt x2.snd ⟨0,[],0,0,[]⟩) a2.D a2.K)):=Lib.hid (fun wx hb=>ref_Deed B a2.G x2.snd a2.kl a2.td a2.D a2.dc a2.K a2.kc ⟨0,[],0,0,[]⟩ none 0 none 0 wx (HR.out.next hb).snd HI2.out.snd (SlRep.nilW _ _ _) (SlRep.nilW _ _ _) ok0 ok0 (Nat.zero_le _) (Nat.zero_le _))
  generalize sd.doIt x2.snd ⟨0,[],0,0,[]⟩=rr at *
  obtain ⟨⟨qc,qf,qd,qn,qa,qi,ql⟩,s9⟩:=rr
  have HQL:Hid (ql=sd.leftOf x2.snd):=Lib.hid (congrArg (fun z=>z.1.left) HN0.out)
  have hs9:s9=x2.snd:=congrArg (fun z=>z.2) HN0.out
  subst hs9
  have HFR:Hid (¬ RF W a2 X):=Lib.hid HM.out.far
  have HNF:Hid (∀ k,RF W a2 k→RF W a k∨w1.heap.size≤k):=Lib.hid HM.out.new
  have HST1:Hid (Stays w1 wr (RF W a)):=Lib.hid HM.out.stay
  have HF2:Hid (¬ RF W a2 (w.heap.size+1+1)):=Lib.hid (fun e=>by rcases HNF.out _ e with e | e;exact HNZ.out e;omega)
  have HSS:Hid (∀ wx,Below wr.heap.size wr wx→wx.cell? ⟨w.heap.size,0,none⟩=some (.pointer (some ⟨W,0,none⟩))∧wx.cell? ⟨W,1,none⟩=some (.pointer (some ⟨a2.G,0,none⟩))):=Lib.hid (fun wx hb=>⟨(HPR.out.next hb).get 0,(HR.out.next hb).ptrS⟩)
  have lPr:=HPR.out.lt
  have lWr:=HR.out.blk.lt
  have hfl:=sent_field6 (.int .i64 qc) (.int .i64 qf)
  clear HN0 HM HCA HER HOK HSG
  have pdr:=HPR.out.get 0
  simp only [List.getElem?_toArray,List.getElem?_cons_zero] at pdr
  have sdr:=HR.out.ptrS
  go_upto_region 54 with (first
   | (go_at_call 27;((with_reducible refine (HDO.out _ (by exact (by repeat (first | (with_reducible first | exact Below.refl _ _ | assumption | refine bset ?_ ?_ _ | refine balloc ?_ _ | refine Below.drew ?_ | refine bdrewN ?_ _ | refine bnext ?_ (by with_reducible assumption)) | exact Nat.le_refl _ | (simp;done) | omega | (simp;omega))))).mono ?_);rintro e w7 ⟨cs,kl1,td1,D1,dc1,K1,kc1,rfl,g1,g2,g3,g4⟩;obtain ⟨Ad,cd,rfl,g5⟩:=Sent.rep_iff.1 g1;have G3:Hid (Stays wr w7 a2.sF):=Lib.hid ((Stays.of_below (by exact (by repeat (first | (with_reducible first | exact Below.refl _ _ | assumption | refine bset ?_ ?_ _ | refine balloc ?_ _ | refine Below.drew ?_ | refine bdrewN ?_ _ | refine bnext ?_ (by with_reducible assumption)) | exact Nat.le_refl _ | (simp;done) | omega | (simp;omega)))) _).comp (g3.mono fun _ _ e=>.inl e));have G2:=Lib.hid (HR.out.putSnd G3.out g2 (fun k hk=>(g4 k hk).imp (fun e=>e) (fun e=>e)));have HX7:=Lib.hid (HXR.out.stays G3.out (fun e=>HFR.out (.inr (.inl e))));have xd:=HX7.out.get;have xf:=HX7.out.frozen;have xl:=HX7.out.lt;clear g1 g2 g3 g4 g5))
   | fail)
  generalize hw8:World.setCell w7 _ _=w8
  have HS8:Hid (Stays w7 w8 (fun k=>k=X)):=Lib.hid (by rw [← hw8];exact Stays.set _ _ _ _)
  have HX8:Hid (BlkA w8 X 58 #[.int .i64 hc,.bool false,.int .i64 0,.slice none 0 0,.bool false,.int .i64 ql]):=Lib.hid (by rw [← hw8];simpa using HX7.out.set 5 (.int .i64 ql))
  have HZ8:=Lib.hid ((HZR.out.stays G3.out (fun e=>HF2.out (.inr (.inl e)))).stays HS8.out (by omega))
  have xd:=HX8.out.get
  have xl:=HX8.out.lt
  have zd:=HZ8.out.get
  have ze:=HZ8.out.frozen
  have lz8:=HZ8.out.lt
  have HFIN:Hid (∀ w',Stays w8 w' (fun k=>k=w.heap.size+1+1)→RPas w.heap.size w B W a (m+1) (pp.step x ⟨6,td,ti,ta,tb,tc⟩) (.returned (.agg #[.int .i64 hc,.bool false,.int .i64 0,.slice none 0 0,.bool false,.int .i64 ql])) w'):=Lib.hid (fun w' hs=>by
   rw [HST.out,← HQL.out]
   have hf:∀ q,RF W { a2 with kl:=kl1,td:=td1,D:=D1,dc:=dc1,K:=K1,kc:=kc1 } q→RF W a2 q∨wr.heap.size≤q:=G2.out.2
   have hXr:=HXR.out.lt
   have hs1r:=HST1.out.size
   refine RPas.plain (r:=({ pp.no hc with left:=ql },x2)) (a1:={ a2 with kl:=kl1,td:=td1,D:=D1,dc:=dc1,K:=K1,kc:=kc1 }) rfl ((RAt.up (x:=x2) G2.out.1 (Nat.le_succ m)).stays HS8.out (fun k hk e=>?_)) (((Stays.of_below HB1.out _).comp HST1.out |>.trans G3.out (fun q hq e=>?_)).trans HS8.out (fun q hq e=>by omega)) (fun q hq=>?_) (hs.mono fun q hq e=>⟨by omega,fun e2=>?_⟩)
   ·subst e
    rcases hf _ hk with e | e
    ·exact HFR.out e
    ·omega
   ·rcases HNF.out q (.inr (.inl e)) with e | e
    ·exact e
    ·omega
   ·rcases hf q hq with e | e
    ·exact (HNF.out q e).imp (fun e=>e) (fun e=>by omega)
    ·exact .inr (by omega)
   ·subst e
    rcases hf _ e2 with e | e
    ·exact HF2.out e
    ·have:=HZR.out.lt;omega)
  clear hw8 HSS HDO
  go_wp2
  refine bodyPost_ret (v:=.agg #[.int .i64 hc,.bool false,.int .i64 0,.slice none 0 0,.bool false,.int .i64 ql]) (by simp [results,Try.results32,go_sem, *]) rfl (HFIN.out _ ?_)
  exact Stays.sixP _ _ _ _ _ _ _ _
end Go.Proofs.Ytdldfllllgogoaa
namespace Go.Proofs.Ytdldfllllgogoaa
theorem rpipe_Hop (B W:Nat) (x:pp.Wire) (a:RAd) (m:Nat) (t:Hop) (X:Option Addr) (xc:Nat) (w:World) (h:RAt w B W x a m) {kk:Nat} (hi:pp.Inv x kk) (hk:kk≤1000) (hm:m≤1000) (hX:SlRep Rep.u8 w (· < w.heap.size) t.data X xc) (hid:IntOk t.id) (hat:IntOk t.at_) (hct:IntOk t.count) (hd:t.data.length≤140737488351232) :
  Calls Try.prog 32 #[.pointer (some ⟨W,0,none⟩),.agg #[.int .i64 t.kind,.slice X t.data.length xc,.int .i64 t.id,.int .i64 t.at_,.int .u8 t.by_.toNat,.int .i64 t.count]] w (RPas w.heap.size w B W a (m+1) (pp.step x t)):=by
 by_cases k1:t.kind=1
 ·exact rpipe_Hop_1 B W x a m t X xc w h hi hk hm hX hid hat hct hd k1
 by_cases k2:t.kind=2
 ·exact rpipe_Hop_2 B W x a m t X xc w h hi hk hm hX hid hat hct hd k2
 by_cases k7:t.kind=7
 ·exact rpipe_Hop_7 B W x a m t X xc w h hi hk hm hX hid hat hct hd k7
 by_cases k3:t.kind=3
 ·exact rpipe_Hop_3 B W x a m t X xc w h hi hk hm hX hid hat hct hd k3
 by_cases k4:t.kind=4
 ·exact rpipe_Hop_4 B W x a m t X xc w h hi hk hm hX hid hat hct hd k4
 by_cases k5:t.kind=5
 ·exact rpipe_Hop_5 B W x a m t X xc w h hi hk hm hX hid hat hct hd k5
 by_cases k8:t.kind=8
 ·exact rpipe_Hop_8 B W x a m t X xc w h hi hk hm hX hid hat hct hd k8
 by_cases k6:t.kind=6
 ·exact rpipe_Hop_6 B W x a m t X xc w h hi hk hm hX hid hat hct hd k6
 exact rpipe_Hop_0 B W x a m t X xc w h hi hk hm hX hid hat hct hd k1 k2 k7 k3 k4 k5 k8 k6
end Go.Proofs.Ytdldfllllgogoaa
namespace Go.Proofs.Ytdldfllllgogoaa
open Go.RowKit
set_option linter.unusedSimpArgs false
def NewRes (w:World) (c:Line) (e:Ending) (w':World):Prop:=
 ∃ (W:Nat) (a:WAd),e=.returned (.pointer (some ⟨W,0,none⟩))∧WAt w' w.heap.size W (pp.start c) a∧Below w.heap.size w w'
set_option maxHeartbeats 1000000 in
theorem pipe_New (c:Line) (w:World) :
  Calls Try.prog 28 #[.agg #[.int .i64 c.first,.int .i64 c.room]] w (NewRes w c):=by
 obtain ⟨w1,hw1⟩:∃ w1,w1=w.alloc (.cells #[.int .i64 c.first,.int .i64 c.room] 52):=⟨_,rfl⟩
 have hb1:Below w.heap.size w w1:=by rw [hw1];exact balloc (bself w) _
 have HC1:Hid (BlkA w1 w.heap.size 52 #[.int .i64 c.first,.int .i64 c.room]):=Lib.hid (by rw [hw1];exact BlkA.new _ _ _)
 have HSS:Hid (∀ wx,Below w1.heap.size w1 wx→wx.cell? ⟨w.heap.size,0,none⟩=some (.int .i64 c.first)∧wx.cell? ⟨w.heap.size,1,none⟩=some (.int .i64 c.room)):=Lib.hid (fun wx hb=>by
  have h:=HC1.out.next hb
  exact ⟨h.get 0,h.get 1⟩)
 have HB1:=Lib.hid hb1
 have l1:=HC1.out.lt
 clear hb1
 go_enter Try.func28,Try.ntmps28
 go_upto_region 1 with (fail)
 rw [← hw1]
 clear hw1
 refine wp_region_tail [] (fun wx=>wx.cell? ⟨w.heap.size,0,none⟩=some (.int .i64 c.first)∧wx.cell? ⟨w.heap.size,1,none⟩=some (.int .i64 c.room)) (by kernel_rfl) (HSS.out w1 (bself _)) ?_
 intro hHeld
 refine zP 0 (v:=?_) ?_ (fun _=>hHeld) ?_
 rotate_left
 ·intro w9;go_simp;try with_reducible rfl
 try simp only [Act.put,zA,zB,zC,zD,zE,zF]
 refine zP 2 (v:=?_) ?_ (fun _=>hHeld) ?_
 rotate_left
 ·intro w9;go_simp;try with_reducible rfl
 try simp only [Act.put,zA,zB,zC,zD,zE,zF]
 refine zP 5 (v:=?_) ?_ (fun _=>hHeld) ?_
 rotate_left
 ·intro w9;go_simp;try with_reducible rfl
 try simp only [Act.put,zA,zB,zC,zD,zE,zF]
 refine zT 1 [] (v:=?_) ?_ hHeld ?_
 rotate_left
 ·intro w9 hS9;(try dsimp only at hS9);obtain ⟨q1,q2⟩:=hS9;go_simp;try with_reducible rfl
 try simp only [Act.put,zA,zB,zC,zD,zE,zF]
 refine zT 3 [] (v:=?_) ?_ hHeld ?_
 rotate_left
 ·intro w9 hS9;(try dsimp only at hS9);obtain ⟨q1,q2⟩:=hS9;go_simp;try with_reducible rfl
 try simp only [Act.put,zA,zB,zC,zD,zE,zF]
 refine zT 6 [] (v:=?_) ?_ hHeld ?_
 rotate_left
 ·intro w9 hS9;(try dsimp only at hS9);obtain ⟨q1,q2⟩:=hS9;go_simp;try with_reducible rfl
 try simp only [Act.put,zA,zB,zC,zD,zE,zF]
 refine wpAnyT_next (i:=4) (by kernel_rfl) rfl ?_
 intro K hK
 go_simp
 go_at_call 24
 refine (send_New c.room _).mono ?_
 rintro e w2 ⟨rfl,hS,hb2⟩
 have HS2:=Lib.hid hS
 have hb12:Below w1.heap.size w1 w2:=(Below.drew (bself w1)).trans hb2
 have HB2:=Lib.hid hb12
 have hs2:=HSS.out w2 hb12
 have l2:=HS2.out.blk.lt
 clear hS hb2 hb12
 go_simp
 have hHeld2:=hs2
 refine hK.out _ _ (fun _=>hHeld2) ?_
 clear hK K hHeld
 have hHeld:=hHeld2
 clear hHeld2
 try simp only [Act.put,zA,zB,zC,zD,zE,zF]
 refine wpAnyT_next (i:=7) (by kernel_rfl) rfl ?_
 intro K hK
 go_simp
 go_at_call 20
 refine (recv_New c.room _).mono ?_
 rintro e w3 ⟨rfl,hR,hb3⟩
 have HR3:=Lib.hid hR
 have hb23:Below w2.heap.size w2 w3:=hb3
 have HB3:=Lib.hid hb23
 have hs3:=HSS.out w3 (bnext HB2.out hb23)
 have l3:=HR3.out.blk.lt
 clear hR hb3 hb23
 go_simp
 have hHeld2:=hs3
 refine hK.out _ _ (fun _=>hHeld2) ?_
 clear hK K hHeld
 have hHeld:=hHeld2
 clear hHeld2
 try simp only [Act.put,zA,zB,zC,zD,zE,zF]
 refine zP 8 (v:=?_) ?_ (fun _=>hHeld) ?_
 rotate_left
 ·intro w9;go_simp;try with_reducible rfl
 try simp only [Act.put,zA,zB,zC,zD,zE,zF]
 refine wpAnyT_next (i:=9) (by kernel_rfl) rfl ?_
 intro K hK
 go_simp
 refine hK.out _ _ (fun _=>(HSS.out _ (bnext (bnext HB2.out HB3.out) (by exact (by repeat (first | (with_reducible first | exact Below.refl _ _ | assumption | refine bset ?_ ?_ _ | refine balloc ?_ _ | refine Below.drew ?_ | refine bdrewN ?_ _ | refine bnext ?_ (by with_reducible assumption)) | exact Nat.le_refl _ | (simp;done) | omega | (simp;omega))))))) ?_
 clear hK K
 try simp only [Act.put,zA,zB,zC,zD,zE,zF]
 refine zP 10 (v:=?_) ?_ (fun _=>(HSS.out _ (bnext (bnext HB2.out HB3.out) (by exact (by repeat (first | (with_reducible first | exact Below.refl _ _ | assumption | refine bset ?_ ?_ _ | refine balloc ?_ _ | refine Below.drew ?_ | refine bdrewN ?_ _ | refine bnext ?_ (by with_reducible assumption)) | exact Nat.le_refl _ | (simp;done) | omega | (simp;omega))))))) ?_
 rotate_left
 ·intro w9;go_simp;try with_reducible rfl
 try simp only [Act.put,zA,zB,zC,zD,zE,zF]
 refine wpAnyT_done (by kernel_rfl) ?_ _
 have hsz1:=HB1.out.size
 have HAT:Hid (NewRes w c (.returned (.pointer (some ⟨w3.heap.size,0,none⟩))) (w3.alloc (.cells #[.int .i64 c.first,.pointer (some ⟨w1.heap.size,0,none⟩),.pointer (some ⟨w2.heap.size,0,none⟩),.slice none 0 0] 121))):=Lib.hid (by
  have hb4:Below w3.heap.size w3 (w3.alloc (.cells #[.int .i64 c.first,.pointer (some ⟨w1.heap.size,0,none⟩),.pointer (some ⟨w2.heap.size,0,none⟩),.slice none 0 0] 121)):=balloc (bself w3) _
  have e1:w1.drew.heap.size=w1.heap.size:=rfl
  have hS:=HS2.out
  rw [e1] at hS
  have l2':w1.heap.size<w2.heap.size:=l2
  have l3':w2.heap.size<w3.heap.size:=l3
  have hs12:=HB2.out.size
  refine ⟨w3.heap.size,⟨w1.heap.size,w2.heap.size,none,0,none,0,none,0,none,0,none,0,[]⟩,rfl,⟨by omega,BlkA.new _ _ _,((hS.base_le (by omega)).next (bnext HB3.out hb4)),(HR3.out.base_le (by omega)).next hb4,Frames.nil _ _ _,rfl,fun k hk=>?_,fun k hk e=>?_,fun k hk e=>?_,fun k hk e=>?_⟩,bnext (bnext (bnext HB1.out HB2.out) HB3.out) hb4⟩
  ·rcases hk with e | e | e
   ·rcases e with e | e | e
    ·have e':k=w1.heap.size:=e
     omega
    ·cases e
    ·exact absurd rfl e.1
   ·rcases e with e | e | e
    ·have e':k=w2.heap.size:=e
     omega
    ·cases e
    ·exact absurd rfl e.1
   ·rcases e with e | ⟨f,hf,_⟩
    ·cases e
    ·cases hf
  ·rcases hk with h1 | h1 | h1
   ·rcases e with e | e | e
    ·have e1:k=w1.heap.size:=h1
     have e2:k=w2.heap.size:=e
     omega
    ·cases e
    ·exact absurd rfl e.1
   ·cases h1
   ·exact absurd rfl h1.1
  ·rcases e with e | ⟨f,hf,_⟩
   ·cases e
   ·cases hf
  ·rcases e with e | ⟨f,hf,_⟩
   ·cases e
   ·cases hf)
 go_wp2
 go_ret
 exact HAT.out
theorem elemPassed:ElemT Try.prog 54 58 6 64:=ElemT.of Try.underlying54 (z:=.agg #[.int .i64 0,.bool false,.int .i64 0,.slice none 0 0,.bool false,.int .i64 0]) (by kernel_rfl) rfl (by decide)
def pp.zh:Hop:=⟨0,[],0,0,0,0⟩
set_option maxHeartbeats 400000 in
theorem pipe_Play_range (c:Line) (n k:Nat) (A:Option Addr) (w:World) (h:c.first<0∨65535<c.first∨c.room<1∨4096<c.room) :
  Calls Try.prog 15 #[.agg #[.int .i64 c.first,.int .i64 c.room],.slice A n k] w fun e w'=>e=.returned (.tuple #[.slice none 0 0,.int .i64 2])∧Below w.heap.size w w':=by
 obtain ⟨cf,cr⟩:=c
 simp only at h ⊢
 by_cases h0:cf<0
 ·go_enter Try.func15,Try.ntmps15
  go_wp2
  go_ret2
  exact ⟨rfl,(by repeat (first | (with_reducible first | exact Below.refl _ _ | assumption | refine bset ?_ ?_ _ | refine balloc ?_ _ | refine Below.drew ?_ | refine bdrewN ?_ _ | refine bnext ?_ (by with_reducible assumption)) | exact Nat.le_refl _ | (simp;done) | omega | (simp;omega)))⟩
 by_cases h1:65536≤cf
 ·clear h
  go_enter Try.func15,Try.ntmps15
  go_wp2
  go_ret2
  exact ⟨rfl,(by repeat (first | (with_reducible first | exact Below.refl _ _ | assumption | refine bset ?_ ?_ _ | refine balloc ?_ _ | refine Below.drew ?_ | refine bdrewN ?_ _ | refine bnext ?_ (by with_reducible assumption)) | exact Nat.le_refl _ | (simp;done) | omega | (simp;omega)))⟩
 by_cases h2:cr<1
 ·clear h
  go_enter Try.func15,Try.ntmps15
  go_wp2
  go_ret2
  exact ⟨rfl,(by repeat (first | (with_reducible first | exact Below.refl _ _ | assumption | refine bset ?_ ?_ _ | refine balloc ?_ _ | refine Below.drew ?_ | refine bdrewN ?_ _ | refine bnext ?_ (by with_reducible assumption)) | exact Nat.le_refl _ | (simp;done) | omega | (simp;omega)))⟩
 ·have h3:4096<cr:=by omega
  clear h
  go_enter Try.func15,Try.ntmps15
  go_wp2
  go_ret2
  exact ⟨rfl,(by repeat (first | (with_reducible first | exact Below.refl _ _ | assumption | refine bset ?_ ?_ _ | refine balloc ?_ _ | refine Below.drew ?_ | refine bdrewN ?_ _ | refine bnext ?_ (by with_reducible assumption)) | exact Nat.le_refl _ | (simp;done) | omega | (simp;omega)))⟩
set_option maxHeartbeats 400000 in
theorem pipe_Play_long (c:Line) (n k:Nat) (A:Option Addr) (w:World) (h:¬ (c.first<0∨65535<c.first∨c.room<1∨4096<c.room)) (hl:300<n) (hn:n≤140737488351232) :
  Calls Try.prog 15 #[.agg #[.int .i64 c.first,.int .i64 c.room],.slice A n k] w fun e w'=>e=.returned (.tuple #[.slice none 0 0,.int .i64 1])∧Below w.heap.size w w':=by
 obtain ⟨cf,cr⟩:=c
 simp only at h ⊢
 have h0:¬ cf<0:=by omega
 have h1:¬ 65536≤cf:=by omega
 have h2:¬ cr<1:=by omega
 have h3:¬ 4096<cr:=by omega
 clear h
 go_enter Try.func15,Try.ntmps15
 go_wp2
 go_ret2
 exact ⟨rfl,(by repeat (first | (with_reducible first | exact Below.refl _ _ | assumption | refine bset ?_ ?_ _ | refine balloc ?_ _ | refine Below.drew ?_ | refine bdrewN ?_ _ | refine bnext ?_ (by with_reducible assumption)) | exact Nat.le_refl _ | (simp;done) | omega | (simp;omega)))⟩
end Go.Proofs.Ytdldfllllgogoaa
namespace Go.Proofs.Ytdldfllllgogoaa
open Go.RowKit
set_option linter.unusedSimpArgs false
theorem OS.start {w:World} {B G:Nat} {window:Int} (h:OAt w B G [] false window 0 [] 0 none 0 none 0):OS w B G (sd.start window) [] 0 none 0 none 0:=by
 refine ⟨h,fun n=>?_,Int.le_refl _,Int.le_refl _,Int.le_refl _,fun x x1 x2=>by have x2':x<0:=x2;omega⟩
 constructor
 ·intro e
  simp at e
 ·rintro (e | ⟨r,hr,_⟩)
  ·have e':(n:Int)<0:=e
   omega
  ·cases hr
end Go.Proofs.Ytdldfllllgogoaa
namespace Go.Proofs.Ytdldfllllgogoaa
open Go.RowKit
set_option linter.unusedSimpArgs false
theorem HAt.below {w w':World} {B F B0:Nat} {room:Int} {s:rv.St} {D M:Option Addr} {dc mc:Nat} (h:HAt w B F room s D dc M mc) (hs:Stays w w' (HF F D M s.more)) (hB:B0≤B) (hw:B0≤w.heap.size):Below B0 w w':=
 ⟨hs.os,hs.tape,hs.output,hs.size,fun k hk=>hs.block k (by omega) (fun e=>by have:=(h.hf_lt e).1;omega)⟩
end Go.Proofs.Ytdldfllllgogoaa
namespace Go.Proofs.Ytdldfllllgogoaa
open Go.RowKit
set_option linter.unusedSimpArgs false
theorem rv.mapF_start:rv.mapF rv.start=fun _=>none:=by
 funext k
 refine rv.mapF_none.2 ?_
 rintro (e | ⟨r,hr,_⟩)
 ·have h1:=e.1
  have h2:k<0:=e.2
  omega
 ·cases hr
end Go.Proofs.Ytdldfllllgogoaa
namespace Go.Proofs.Ytdldfllllgogoaa
open Go.RowKit
set_option linter.unusedSimpArgs false
theorem OS.base_le {w:World} {B b' G:Nat} {s:sd.St} {kl:List Bool} {todo:Int} {D:Option Addr} {dc:Nat} {K:Option Addr} {kc:Nat} (h:OS w B G s kl todo D dc K kc) (hb:b'≤B):OS w b' G s kl todo D dc K kc:=
 ⟨⟨Nat.le_trans hb h.at_.lo,h.at_.blk,h.at_.data.base_le hb,h.at_.known.base_le hb⟩,h.knows,h.len,h.todo⟩
def RNewRes (w:World) (c:Line) (e:Ending) (w':World):Prop:=
 ∃ (W:Nat) (a:RAd),e=.returned (.pointer (some ⟨W,0,none⟩))∧RAt w' w.heap.size W (pp.start c) a 0∧Below w.heap.size w w'
set_option maxHeartbeats 1000000 in
theorem rpipe_New (c:Line) (w:World) :
  Calls Try.prog 31 #[.agg #[.int .i64 c.first,.int .i64 c.room]] w (RNewRes w c):=by
 obtain ⟨w1,hw1⟩:∃ w1,w1=w.alloc (.cells #[.int .i64 c.first,.int .i64 c.room] 52):=⟨_,rfl⟩
 have hb1:Below w.heap.size w w1:=by rw [hw1];exact balloc (bself w) _
 have HC1:Hid (BlkA w1 w.heap.size 52 #[.int .i64 c.first,.int .i64 c.room]):=Lib.hid (by rw [hw1];exact BlkA.new _ _ _)
 have HSS:Hid (∀ wx,Below w1.heap.size w1 wx→wx.cell? ⟨w.heap.size,0,none⟩=some (.int .i64 c.first)∧wx.cell? ⟨w.heap.size,1,none⟩=some (.int .i64 c.room)):=Lib.hid (fun wx hb=>by
  have h:=HC1.out.next hb
  exact ⟨h.get 0,h.get 1⟩)
 have HB1:=Lib.hid hb1
 have l1:=HC1.out.lt
 clear hb1
 go_enter Try.func31,Try.ntmps31
 go_upto_region 1 with (fail)
 rw [← hw1]
 clear hw1
 refine wp_region_tail [] (fun wx=>wx.cell? ⟨w.heap.size,0,none⟩=some (.int .i64 c.first)∧wx.cell? ⟨w.heap.size,1,none⟩=some (.int .i64 c.room)) (by kernel_rfl) (HSS.out w1 (bself _)) ?_
 intro hHeld
 refine zP 0 (v:=?_) ?_ (fun _=>hHeld) ?_
 rotate_left
 ·intro w9;go_simp;try with_reducible rfl
 try simp only [Act.put,zA,zB,zC,zD,zE,zF]
 refine zP 2 (v:=?_) ?_ (fun _=>hHeld) ?_
 rotate_left
 ·intro w9;go_simp;try with_reducible rfl
 try simp only [Act.put,zA,zB,zC,zD,zE,zF]
 refine zP 5 (v:=?_) ?_ (fun _=>hHeld) ?_
 rotate_left
 ·intro w9;go_simp;try with_reducible rfl
 try simp only [Act.put,zA,zB,zC,zD,zE,zF]
 refine zT 1 [] (v:=?_) ?_ hHeld ?_
 rotate_left
 ·intro w9 hS9;(try dsimp only at hS9);obtain ⟨q1,q2⟩:=hS9;go_simp;try with_reducible rfl
 try simp only [Act.put,zA,zB,zC,zD,zE,zF]
 refine zT 3 [] (v:=?_) ?_ hHeld ?_
 rotate_left
 ·intro w9 hS9;(try dsimp only at hS9);obtain ⟨q1,q2⟩:=hS9;go_simp;try with_reducible rfl
 try simp only [Act.put,zA,zB,zC,zD,zE,zF]
 refine zT 6 [] (v:=?_) ?_ hHeld ?_
 rotate_left
 ·intro w9 hS9;(try dsimp only at hS9);obtain ⟨q1,q2⟩:=hS9;go_simp;try with_reducible rfl
 try simp only [Act.put,zA,zB,zC,zD,zE,zF]
 refine wpAnyT_next (i:=4) (by kernel_rfl) rfl ?_
 intro K hK
 go_simp
 go_at_call 26
 refine (ref_NewOutlet c.room _).mono ?_
 rintro e w2 ⟨rfl,hS,hb2⟩
 have HS2:=Lib.hid (OS.start hS)
 have hb12:Below w1.heap.size w1 w2:=(Below.drew (bself w1)).trans hb2
 have HB2:=Lib.hid hb12
 have hs2:=HSS.out w2 hb12
 have l2:=HS2.out.at_.blk.lt
 clear hS hb2 hb12
 go_simp
 have hHeld2:=hs2
 refine hK.out _ _ (fun _=>hHeld2) ?_
 clear hK K hHeld
 have hHeld:=hHeld2
 clear hHeld2
 try simp only [Act.put,zA,zB,zC,zD,zE,zF]
 refine wpAnyT_next (i:=7) (by kernel_rfl) rfl ?_
 intro K hK
 go_simp
 go_at_call 22
 refine (ref_NewInlet c.room _).mono ?_
 rintro e w3 ⟨G,Mb,rfl,hR,hg1,hm1,hb3⟩
 have HR3:Hid (IS w3 G Mb 0 c.room rv.start):=Lib.hid (by unfold IS;rw [rv.mapF_start];exact hR)
 have HG1:=Lib.hid hg1
 have HM1:=Lib.hid hm1
 have hb23:Below w2.heap.size w2 w3:=hb3
 have HB3:=Lib.hid hb23
 have hs3:=HSS.out w3 (bnext HB2.out hb23)
 have l3:=HR3.out.blk.lt
 clear hR hb3 hb23 hg1 hm1
 go_simp
 have hHeld2:=hs3
 refine hK.out _ _ (fun _=>hHeld2) ?_
 clear hK K hHeld
 have hHeld:=hHeld2
 clear hHeld2
 try simp only [Act.put,zA,zB,zC,zD,zE,zF]
 refine zP 8 (v:=?_) ?_ (fun _=>hHeld) ?_
 rotate_left
 ·intro w9;go_simp;try with_reducible rfl
 try simp only [Act.put,zA,zB,zC,zD,zE,zF]
 refine wpAnyT_next (i:=9) (by kernel_rfl) rfl ?_
 intro K hK
 go_simp
 refine hK.out _ _ (fun _=>(HSS.out _ (bnext (bnext HB2.out HB3.out) (by exact (by repeat (first | (with_reducible first | exact Below.refl _ _ | assumption | refine bset ?_ ?_ _ | refine balloc ?_ _ | refine Below.drew ?_ | refine bdrewN ?_ _ | refine bnext ?_ (by with_reducible assumption)) | exact Nat.le_refl _ | (simp;done) | omega | (simp;omega))))))) ?_
 clear hK K
 try simp only [Act.put,zA,zB,zC,zD,zE,zF]
 refine zP 10 (v:=?_) ?_ (fun _=>(HSS.out _ (bnext (bnext HB2.out HB3.out) (by exact (by repeat (first | (with_reducible first | exact Below.refl _ _ | assumption | refine bset ?_ ?_ _ | refine balloc ?_ _ | refine Below.drew ?_ | refine bdrewN ?_ _ | refine bnext ?_ (by with_reducible assumption)) | exact Nat.le_refl _ | (simp;done) | omega | (simp;omega))))))) ?_
 rotate_left
 ·intro w9;go_simp;try with_reducible rfl
 try simp only [Act.put,zA,zB,zC,zD,zE,zF]
 refine wpAnyT_done (by kernel_rfl) ?_ _
 have hsz1:=HB1.out.size
 have HAT:Hid (RNewRes w c (.returned (.pointer (some ⟨w3.heap.size,0,none⟩))) (w3.alloc (.cells #[.int .i64 c.first,.pointer (some ⟨w1.heap.size,0,none⟩),.pointer (some ⟨G,0,none⟩),.slice none 0 0] 130))):=Lib.hid (by
  have hb4:Below w3.heap.size w3 (w3.alloc (.cells #[.int .i64 c.first,.pointer (some ⟨w1.heap.size,0,none⟩),.pointer (some ⟨G,0,none⟩),.slice none 0 0] 130)):=balloc (bself w3) _
  have e1:w1.drew.heap.size=w1.heap.size:=rfl
  have hS:=HS2.out
  rw [e1] at hS
  have l2':w1.heap.size<w2.heap.size:=l2
  have hg1:w2.heap.size≤G:=HG1.out
  have hm1:w2.heap.size≤Mb:=HM1.out
  have l3':G<w3.heap.size:=HR3.out.blk.lt
  have l4':Mb<w3.heap.size:=HR3.out.map.lt
  have hs12:=HB2.out.size
  refine ⟨w3.heap.size,⟨w1.heap.size,[],0,none,0,none,0,G,Mb,0,none,0,[]⟩,rfl,⟨by omega,BlkA.new _ _ _,(hS.base_le (by omega)).stays (Stays.of_below (bnext HB3.out hb4) (fun _=>False)) (fun _ _ e=>e),IAt.stays HR3.out (Stays.of_below hb4 (fun _=>False)) (fun e=>e) (fun e=>e),⟨by show w.heap.size≤G;omega,by show w.heap.size≤Mb;omega⟩,Nat.le_refl _,Frames.nil _ _ _,rfl,fun k hk=>?_,fun k hk e=>?_,fun k hk e=>?_,fun k hk e=>?_⟩,bnext (bnext (bnext HB1.out HB2.out) HB3.out) hb4⟩
  ·rcases hk with e | e | e
   ·rcases e with e | e | e
    ·have e':k=w1.heap.size:=e
     omega
    ·cases e
    ·cases e
   ·rcases e with e | e
    ·have e':k=G:=e
     omega
    ·have e':k=Mb:=e
     omega
   ·rcases e with e | ⟨f,hf,_⟩
    ·cases e
    ·cases hf
  ·rcases hk with h1 | h1 | h1
   ·have e1:k=w1.heap.size:=h1
    rcases e with e | e
    ·have e2:k=G:=e
     omega
    ·have e2:k=Mb:=e
     omega
   ·cases h1
   ·cases h1
  ·rcases e with e | ⟨f,hf,_⟩
   ·cases e
   ·cases hf
  ·rcases e with e | ⟨f,hf,_⟩
   ·cases e
   ·cases hf)
 go_wp2
 go_ret
 exact HAT.out
set_option maxHeartbeats 400000 in
theorem ref_PipePlayed_range (c:Line) (n k:Nat) (A:Option Addr) (w:World) (h:c.first<0∨65535<c.first∨c.room<1∨4096<c.room) :
  Calls Try.prog 16 #[.agg #[.int .i64 c.first,.int .i64 c.room],.slice A n k] w fun e w'=>e=.returned (.tuple #[.slice none 0 0,.int .i64 2])∧Below w.heap.size w w':=by
 obtain ⟨cf,cr⟩:=c
 simp only at h ⊢
 by_cases h0:cf<0
 ·go_enter Try.func16,Try.ntmps16
  go_wp2
  go_ret2
  exact ⟨rfl,(by repeat (first | (with_reducible first | exact Below.refl _ _ | assumption | refine bset ?_ ?_ _ | refine balloc ?_ _ | refine Below.drew ?_ | refine bdrewN ?_ _ | refine bnext ?_ (by with_reducible assumption)) | exact Nat.le_refl _ | (simp;done) | omega | (simp;omega)))⟩
 by_cases h1:65536≤cf
 ·clear h
  go_enter Try.func16,Try.ntmps16
  go_wp2
  go_ret2
  exact ⟨rfl,(by repeat (first | (with_reducible first | exact Below.refl _ _ | assumption | refine bset ?_ ?_ _ | refine balloc ?_ _ | refine Below.drew ?_ | refine bdrewN ?_ _ | refine bnext ?_ (by with_reducible assumption)) | exact Nat.le_refl _ | (simp;done) | omega | (simp;omega)))⟩
 by_cases h2:cr<1
 ·clear h
  go_enter Try.func16,Try.ntmps16
  go_wp2
  go_ret2
  exact ⟨rfl,(by repeat (first | (with_reducible first | exact Below.refl _ _ | assumption | refine bset ?_ ?_ _ | refine balloc ?_ _ | refine Below.drew ?_ | refine bdrewN ?_ _ | refine bnext ?_ (by with_reducible assumption)) | exact Nat.le_refl _ | (simp;done) | omega | (simp;omega)))⟩
 ·have h3:4096<cr:=by omega
  clear h
  go_enter Try.func16,Try.ntmps16
  go_wp2
  go_ret2
  exact ⟨rfl,(by repeat (first | (with_reducible first | exact Below.refl _ _ | assumption | refine bset ?_ ?_ _ | refine balloc ?_ _ | refine Below.drew ?_ | refine bdrewN ?_ _ | refine bnext ?_ (by with_reducible assumption)) | exact Nat.le_refl _ | (simp;done) | omega | (simp;omega)))⟩
set_option maxHeartbeats 400000 in
theorem ref_PipePlayed_long (c:Line) (n k:Nat) (A:Option Addr) (w:World) (h:¬ (c.first<0∨65535<c.first∨c.room<1∨4096<c.room)) (hl:300<n) (hn:n≤140737488351232) :
  Calls Try.prog 16 #[.agg #[.int .i64 c.first,.int .i64 c.room],.slice A n k] w fun e w'=>e=.returned (.tuple #[.slice none 0 0,.int .i64 1])∧Below w.heap.size w w':=by
 obtain ⟨cf,cr⟩:=c
 simp only at h ⊢
 have h0:¬ cf<0:=by omega
 have h1:¬ 65536≤cf:=by omega
 have h2:¬ cr<1:=by omega
 have h3:¬ 4096<cr:=by omega
 clear h
 go_enter Try.func16,Try.ntmps16
 go_wp2
 go_ret2
 exact ⟨rfl,(by repeat (first | (with_reducible first | exact Below.refl _ _ | assumption | refine bset ?_ ?_ _ | refine balloc ?_ _ | refine Below.drew ?_ | refine bdrewN ?_ _ | refine bnext ?_ (by with_reducible assumption)) | exact Nat.le_refl _ | (simp;done) | omega | (simp;omega)))⟩
end Go.Proofs.Ytdldfllllgogoaa
namespace Go.Proofs.Ytdldfllllgogoaa
open Go.RowKit
set_option linter.unusedSimpArgs false
set_option maxHeartbeats 400000 in
theorem rpipe_may (x:Int) (w:World) (h0:0≤x) (h1:x≤65535):Calls Try.prog 30 #[.int .i64 x] w fun e w'=>e=.returned (.bool true)∧w=w':=by
 go_enter Try.func30,Try.ntmps30
 go_wp2
 go_ret
 exact ⟨rfl,rfl⟩
set_option maxRecDepth 100000 in
set_option maxHeartbeats 2000000 in
theorem ref_PipePlayed_ok (cl:Line) (l:List Hop) (A:Option Addr) (c:Nat) (w:World) (hc:¬ (cl.first<0∨65535<cl.first∨cl.room<1∨4096<cl.room)) (hl:SlRep Hop.rep w (· < w.heap.size) l A c) (hlen:l.length≤300) (hd:∀ a ∈ l,(IntOk a.id∧IntOk a.at_)∧IntOk a.count∧a.data.length≤140737488351232) :
  Calls Try.prog 16 #[.agg #[.int .i64 cl.first,.int .i64 cl.room],.slice A l.length c] w (RowsRes Passed.rep (pp.play cl l) w):=by
 have HL:=Lib.hid hl
 have HP:Hid (pp.play cl l=.ok (pp.afterAll cl l l.length).1):=Lib.hid (by unfold pp.play;rw [if_neg hc,if_neg (by omega)])
 have HD:Hid (∀ k,k<l.length→(IntOk (l.getD k pp.zh).id∧IntOk (l.getD k pp.zh).at_)∧IntOk (l.getD k pp.zh).count∧(l.getD k pp.zh).data.length≤140737488351232):=Lib.hid (fun k hk=>hd _ (by rw [List.getD_eq_getElem?_getD,List.getElem?_eq_getElem hk];exact List.getElem_mem hk))
 have HI:=Lib.hid (fun k=>pp.Inv.afterAll hc l k)
 have HNE:=Lib.hid (rpipe_New cl)
 have HST:Hid ((pp.afterAll cl l 0)=([],pp.start cl)):=Lib.hid rfl
 obtain ⟨cf,cr⟩:=cl
 simp only at hc HNE
 have h0:¬ cf<0:=by omega
 have h1:¬ 65536≤cf:=by omega
 have h2:¬ cr<1:=by omega
 have h3:¬ 4096<cr:=by omega
 obtain ⟨w0,hw0⟩:∃ w0,w0=w.alloc (.cells #[.int .i64 cf,.int .i64 cr] 52):=⟨_,rfl⟩
 have hb0:Below w.heap.size w w0:=by rw [hw0];exact balloc (bself w) _
 have hz0:w0.heap.size=w.heap.size+1:=by rw [hw0];simp
 have HC0:Hid (BlkA w0 w.heap.size 52 #[.int .i64 cf,.int .i64 cr]):=Lib.hid (by rw [hw0];exact BlkA.new _ _ _)
 have cd:=HC0.out.get
 have lc:=HC0.out.lt
 have HB0:=Lib.hid hb0
 have HSM:Hid (Calls Try.prog 30 #[.int .i64 cf] w0 fun e w'=>e=.returned (.bool true)∧w0=w'):=Lib.hid (rpipe_may cf w0 (by omega) (by omega))
 clear hl hd hc hb0
 go_enter Try.func16,Try.ntmps16
 go_upto_region 1 with (fail)
 rw [← hw0]
 clear hw0
 go_wp2_with (first
  | (go_at_call 30;((refine HSM.out.mono ?_);rintro e _ ⟨rfl,rfl⟩))
  | (go_at_call 31;((refine (HNE.out _).mono ?_);rintro e w1 ⟨W,a0,rfl,hN,hb1⟩;have HN:=Lib.hid hN;have HB1:=Lib.hid (bnext HB0.out hb1);clear hN hb1))
  | fail)
 clear h0 h1 h2 h3 cd lc HNE
 go_loopw [7,31] (fun out i wr=>∃ (k:Nat) (Ao:Option Addr) (co:Nat) (xs:List Value) (a:RAd),k≤l.length∧i=.int .i64 k∧out=.slice Ao k co∧Hid (RAt wr w0.heap.size W (pp.afterAll ⟨cf,cr⟩ l k).2 a k∧Coll Passed.rep wr w.heap.size 58 6 Ao k co (RF W a) (pp.afterAll ⟨cf,cr⟩ l k).1 xs∧Below w.heap.size w wr)) (fun _ i _=>l.length - (intOf i).toNat)
 case atStart=>exact ⟨0,none,0,[],a0,by omega,rfl,rfl,Lib.hid ⟨HN.out,Coll.nil _ _ _ _ _,HB1.out⟩⟩
 case round=>
  obtain ⟨k,Ao,co,xs,a,hk,rfl,rfl,HR⟩:=hrel
  rename World=>wr
  obtain ⟨hH,hC,hB⟩:=HR.out
  by_cases hlt:k<l.length
  ·obtain ⟨b,o,rfl,hb,G,gc,e0,e1,e2,e3,e4,e5,hg⟩:=Hop.cells_at pp.zh (HL.out.below hB) hlt
   have hlt':(k:Int)<(l.length:Int):=by omega
   have hbr:b<wr.heap.size:=Nat.lt_of_lt_of_le hb hB.size
   have hdl:=HD.out k hlt
   have HAF:=Lib.hid (pp.afterAll_succ (c:=⟨cf,cr⟩) (l:=l) (k:=k) (a:=l.getD k pp.zh) (by rw [List.getD_eq_getElem?_getD,List.getElem?_eq_getElem hlt];rfl))
   have HGL:=Lib.hid hg
   have HH:=Lib.hid hH
   have HC:=Lib.hid hC
   have HB:=Lib.hid hB
   have HIk:=Lib.hid (HI.out k)
   have hsz:w.heap.size≤wr.heap.size:=hB.size
   clear hg hH hC hB HR HL HD HN HB1
   generalize l.getD k pp.zh=t at *
   generalize (pp.afterAll ⟨cf,cr⟩ l k).2=s at *
   generalize (pp.afterAll ⟨cf,cr⟩ l k).1=L at *
   go_wp2_with (first
    | (go_at_call 32;((refine (rpipe_Hop w0.heap.size W s a k t G gc _ (HH.out.next (balloc (bself wr) _)) HIk.out (by omega) (by omega) (HGL.out.keep fun q hq=>⟨by simp only [World.size_alloc];omega,Below.heap_alloc wr _ q (by omega)⟩) hdl.1.1 hdl.1.2 hdl.2.1 hdl.2.2).mono ?_);rintro e w5 ⟨cs,a5,rfl,g1,g2,g3,g4⟩;obtain ⟨Ad,cd,rfl,g5⟩:=Passed.rep_iff.1 g1;have HC5:=Lib.hid ((HC.out.next (balloc (bself wr) _)).stays g3 g4);have G1:=Lib.hid g1;have G2:=Lib.hid g2;have G3:=Lib.hid g3;have G4:=Lib.hid g4;have hs5:=g3.size;clear g1 g2 g3 g4 g5))
    | (at_builtin;refine wp_app _ rfl _ _ _ rfl elemPassed w.heap.size Ao k co xs rfl (HC5.out.own.alloc _) _ 1 1 [_,_,_,_,_,_] rfl rfl (Cells.newAt _ _ _ rfl) (by simp [Value.oneCell']) (by omega) (by unfold maxLen;omega) (by simp only [World.size_alloc] at *;omega) ?_;intro A6 c6 w6 hO6 hg6;have HO6:=Lib.hid hO6;have HG6:=Lib.hid hg6;clear hO6 hg6)
    | fail)
   go_roundw
   case rel=>
    have hs5':wr.heap.size+1≤w5.heap.size:=by simpa using hs5
    have hC6:=HC5.out.push (a:=(pp.step s t).1) (Passed.rep.mono G1.out (fun q hq=>⟨⟨by have:=hq.1;simp only [World.size_alloc] at this;omega,hq.2.1,fun e=>by have:=(HC.out.own.lt q e).2;have:=hq.1;simp only [World.size_alloc] at this;omega,hq.2.2⟩,rfl⟩)) (balloc (bself w5) _) HG6.out HO6.out (fun q hq=>(G2.out.lt hq).2)
    have hF6:=G2.out.stays ((Stays.of_below (balloc (bself w5) _) (fun j=>blkOf Ao=some j)).comp (Stays.grew HG6.out)) (fun j hj e=>HC5.out.far _ e hj)
    have hB6:Below w.heap.size w w6:=by
     have b1:Below w.heap.size w (wr.alloc (.cells #[.int .i64 t.kind,.slice G t.data.length gc,.int .i64 t.id,.int .i64 t.at_,.int .u8 t.by_.toNat,.int .i64 t.count] 89)):=balloc HB.out _
     have b2:=(HH.out.next (balloc (bself wr) _)).below (B0:=w.heap.size) G3.out (by omega) (by simp only [World.size_alloc];omega)
     exact (balloc (b1.trans b2) _).trans (HG6.out.below (by simp only [World.size_alloc];omega) (fun j hj=>(HC5.out.own.lt j hj).1))
    exact ⟨k+1,A6,c6,_,a5,by omega,by go_num,rfl,Lib.hid (by rw [HAF.out];exact ⟨hF6,hC6,hB6⟩)⟩
   case measure=>simp [intOf];omega
  ·obtain rfl:k=l.length:=by omega
   have HRS:Hid (RowsRes Passed.rep (pp.play ⟨cf,cr⟩ l) w (.returned (.tuple #[.slice Ao l.length co,.int .i64 0])) wr):=Lib.hid (by
    have h:=hC.rep rfl (by decide)
    exact RowsRes.yes (L:=(pp.afterAll ⟨cf,cr⟩ l l.length).1) HP.out h.1 h.2 hB)
   clear hH hC hB HR HL HD HN HB1 HI HP
   go_wp2
   go_ret2
   exact HRS.out
theorem ref_PipePlayed_res (cl:Line) (l:List Hop) (A:Option Addr) (c:Nat) (w:World) (hl:SlRep Hop.rep w (· < w.heap.size) l A c) (hlen:l.length≤140737488351232) (hd:∀ a ∈ l,(IntOk a.id∧IntOk a.at_)∧IntOk a.count∧a.data.length≤140737488351232) :
  Calls Try.prog 16 #[.agg #[.int .i64 cl.first,.int .i64 cl.room],.slice A l.length c] w (RowsRes Passed.rep (pp.play cl l) w):=by
 by_cases h1:cl.first<0∨65535<cl.first∨cl.room<1∨4096<cl.room
 ·refine (ref_PipePlayed_range cl _ c A w h1).mono ?_
  rintro e w' ⟨rfl,hb⟩
  exact RowsRes.no (by unfold pp.play;rw [if_pos h1]) hb
 by_cases h:300<l.length
 ·refine (ref_PipePlayed_long cl _ c A w h1 h hlen).mono ?_
  rintro e w' ⟨rfl,hb⟩
  exact RowsRes.no (by unfold pp.play;rw [if_neg h1,if_pos h]) hb
 ·exact ref_PipePlayed_ok cl l A c w h1 hl (by omega) hd
end Go.Proofs.Ytdldfllllgogoaa
namespace Go.Proofs.Ytdldfllllgogoaa
open Go.RowKit
set_option linter.unusedSimpArgs false
set_option maxRecDepth 100000 in
set_option maxHeartbeats 2000000 in
theorem pipe_Play_ok (cl:Line) (l:List Hop) (A:Option Addr) (c:Nat) (w:World) (hc:¬ (cl.first<0∨65535<cl.first∨cl.room<1∨4096<cl.room)) (hl:SlRep Hop.rep w (· < w.heap.size) l A c) (hlen:l.length≤300) (hd:∀ a ∈ l,(IntOk a.id∧IntOk a.at_)∧IntOk a.count∧a.data.length≤140737488351232) :
  Calls Try.prog 15 #[.agg #[.int .i64 cl.first,.int .i64 cl.room],.slice A l.length c] w (RowsRes Passed.rep (pp.play cl l) w):=by
 have HL:=Lib.hid hl
 have HP:Hid (pp.play cl l=.ok (pp.afterAll cl l l.length).1):=Lib.hid (by unfold pp.play;rw [if_neg hc,if_neg (by omega)])
 have HD:Hid (∀ k,k<l.length→(IntOk (l.getD k pp.zh).id∧IntOk (l.getD k pp.zh).at_)∧IntOk (l.getD k pp.zh).count∧(l.getD k pp.zh).data.length≤140737488351232):=Lib.hid (fun k hk=>hd _ (by rw [List.getD_eq_getElem?_getD,List.getElem?_eq_getElem hk];exact List.getElem_mem hk))
 have HI:=Lib.hid (fun k=>pp.Inv.afterAll hc l k)
 have HNE:=Lib.hid (pipe_New cl)
 have HST:Hid ((pp.afterAll cl l 0)=([],pp.start cl)):=Lib.hid rfl
 obtain ⟨cf,cr⟩:=cl
 simp only at hc HNE
 have h0:¬ cf<0:=by omega
 have h1:¬ 65536≤cf:=by omega
 have h2:¬ cr<1:=by omega
 have h3:¬ 4096<cr:=by omega
 obtain ⟨w0,hw0⟩:∃ w0,w0=w.alloc (.cells #[.int .i64 cf,.int .i64 cr] 52):=⟨_,rfl⟩
 have hb0:Below w.heap.size w w0:=by rw [hw0];exact balloc (bself w) _
 have hz0:w0.heap.size=w.heap.size+1:=by rw [hw0];simp
 have HC0:Hid (BlkA w0 w.heap.size 52 #[.int .i64 cf,.int .i64 cr]):=Lib.hid (by rw [hw0];exact BlkA.new _ _ _)
 have cd:=HC0.out.get
 have lc:=HC0.out.lt
 have HB0:=Lib.hid hb0
 clear hl hd hc hb0
 go_enter Try.func15,Try.ntmps15
 go_upto_region 1 with (fail)
 rw [← hw0]
 clear hw0
 go_wp2_with (first
  | (go_at_call 28;((refine (HNE.out _).mono ?_);rintro e w1 ⟨W,a0,rfl,hN,hb1⟩;have HN:=Lib.hid hN;have HB1:=Lib.hid (bnext HB0.out hb1);clear hN hb1))
  | fail)
 clear h0 h1 h2 h3 cd lc HNE
 go_loopw [7,35] (fun out i wr=>∃ (k:Nat) (Ao:Option Addr) (co:Nat) (xs:List Value) (a:WAd),k≤l.length∧i=.int .i64 k∧out=.slice Ao k co∧Hid (WAt wr w0.heap.size W (pp.afterAll ⟨cf,cr⟩ l k).2 a∧Coll Passed.rep wr w.heap.size 58 6 Ao k co (WF W (pp.afterAll ⟨cf,cr⟩ l k).2 a) (pp.afterAll ⟨cf,cr⟩ l k).1 xs∧Below w.heap.size w wr)) (fun _ i _=>l.length - (intOf i).toNat)
 case atStart=>exact ⟨0,none,0,[],a0,by omega,rfl,rfl,Lib.hid ⟨HN.out,Coll.nil _ _ _ _ _,HB1.out⟩⟩
 case round=>
  obtain ⟨k,Ao,co,xs,a,hk,rfl,rfl,HR⟩:=hrel
  rename World=>wr
  obtain ⟨hH,hC,hB⟩:=HR.out
  by_cases hlt:k<l.length
  ·obtain ⟨b,o,rfl,hb,G,gc,e0,e1,e2,e3,e4,e5,hg⟩:=Hop.cells_at pp.zh (HL.out.below hB) hlt
   have hlt':(k:Int)<(l.length:Int):=by omega
   have hbr:b<wr.heap.size:=Nat.lt_of_lt_of_le hb hB.size
   have hdl:=HD.out k hlt
   have HAF:=Lib.hid (pp.afterAll_succ (c:=⟨cf,cr⟩) (l:=l) (k:=k) (a:=l.getD k pp.zh) (by rw [List.getD_eq_getElem?_getD,List.getElem?_eq_getElem hlt];rfl))
   have HGL:=Lib.hid hg
   have HH:=Lib.hid hH
   have HC:=Lib.hid hC
   have HB:=Lib.hid hB
   have HIk:=Lib.hid (HI.out k)
   have hsz:w.heap.size≤wr.heap.size:=hB.size
   clear hg hH hC hB HR HL HD HN HB1
   generalize l.getD k pp.zh=t at *
   generalize (pp.afterAll ⟨cf,cr⟩ l k).2=s at *
   generalize (pp.afterAll ⟨cf,cr⟩ l k).1=L at *
   go_wp2_with (first
    | (go_at_call 29;((refine (pipe_Do w0.heap.size W s a t G gc _ (HH.out.next (balloc (bself wr) _)) HIk.out (by omega) (HGL.out.keep fun q hq=>⟨by simp only [World.size_alloc];omega,Below.heap_alloc wr _ q (by omega)⟩) hdl.1.1 hdl.1.2 hdl.2.1 hdl.2.2).mono ?_);rintro e w5 ⟨cs,a5,rfl,g1,g2,g3,g4⟩;obtain ⟨Ad,cd,rfl,g5⟩:=Passed.rep_iff.1 g1;have HC5:=Lib.hid ((HC.out.next (balloc (bself wr) _)).stays g3 g4);have G1:=Lib.hid g1;have G2:=Lib.hid g2;have G3:=Lib.hid g3;have G4:=Lib.hid g4;have hs5:=g3.size;clear g1 g2 g3 g4 g5))
    | (at_builtin;refine wp_app _ rfl _ _ _ rfl elemPassed w.heap.size Ao k co xs rfl (HC5.out.own.alloc _) _ 1 1 [_,_,_,_,_,_] rfl rfl (Cells.newAt _ _ _ rfl) (by simp [Value.oneCell']) (by omega) (by unfold maxLen;omega) (by simp only [World.size_alloc] at *;omega) ?_;intro A6 c6 w6 hO6 hg6;have HO6:=Lib.hid hO6;have HG6:=Lib.hid hg6;clear hO6 hg6)
    | fail)
   go_roundw
   case rel=>
    have hs5':wr.heap.size+1≤w5.heap.size:=by simpa using hs5
    have hC6:=HC5.out.push (a:=(pp.step s t).1) (Passed.rep.mono G1.out (fun q hq=>⟨⟨by have:=hq.1;simp only [World.size_alloc] at this;omega,hq.2.1,fun e=>by have:=(HC.out.own.lt q e).2;have:=hq.1;simp only [World.size_alloc] at this;omega,hq.2.2⟩,rfl⟩)) (balloc (bself w5) _) HG6.out HO6.out (fun q hq=>(G2.out.lt hq).2)
    have hF6:=G2.out.stays ((Stays.of_below (balloc (bself w5) _) (fun j=>blkOf Ao=some j)).comp (Stays.grew HG6.out)) (fun j hj e=>HC5.out.far _ e hj)
    have hB6:Below w.heap.size w w6:=by
     have b1:Below w.heap.size w (wr.alloc (.cells #[.int .i64 t.kind,.slice G t.data.length gc,.int .i64 t.id,.int .i64 t.at_,.int .u8 t.by_.toNat,.int .i64 t.count] 89)):=balloc HB.out _
     have b2:=(HH.out.next (balloc (bself wr) _)).below (B0:=w.heap.size) G3.out (by omega) (by simp only [World.size_alloc];omega)
     exact (balloc (b1.trans b2) _).trans (HG6.out.below (by simp only [World.size_alloc];omega) (fun j hj=>(HC5.out.own.lt j hj).1))
    exact ⟨k+1,A6,c6,_,a5,by omega,by go_num,rfl,Lib.hid (by rw [HAF.out];exact ⟨hF6,hC6,hB6⟩)⟩
   case measure=>simp [intOf];omega
  ·obtain rfl:k=l.length:=by omega
   have HRS:Hid (RowsRes Passed.rep (pp.play ⟨cf,cr⟩ l) w (.returned (.tuple #[.slice Ao l.length co,.int .i64 0])) wr):=Lib.hid (by
    have h:=hC.rep rfl (by decide)
    exact RowsRes.yes (L:=(pp.afterAll ⟨cf,cr⟩ l l.length).1) HP.out h.1 h.2 hB)
   clear hH hC hB HR HL HD HN HB1 HI HP
   go_wp2
   go_ret2
   exact HRS.out
theorem pipe_Play_res (cl:Line) (l:List Hop) (A:Option Addr) (c:Nat) (w:World) (hl:SlRep Hop.rep w (· < w.heap.size) l A c) (hlen:l.length≤140737488351232) (hd:∀ a ∈ l,(IntOk a.id∧IntOk a.at_)∧IntOk a.count∧a.data.length≤140737488351232) :
  Calls Try.prog 15 #[.agg #[.int .i64 cl.first,.int .i64 cl.room],.slice A l.length c] w (RowsRes Passed.rep (pp.play cl l) w):=by
 by_cases h1:cl.first<0∨65535<cl.first∨cl.room<1∨4096<cl.room
 ·refine (pipe_Play_range cl _ c A w h1).mono ?_
  rintro e w' ⟨rfl,hb⟩
  exact RowsRes.no (by unfold pp.play;rw [if_pos h1]) hb
 by_cases h:300<l.length
 ·refine (pipe_Play_long cl _ c A w h1 h hlen).mono ?_
  rintro e w' ⟨rfl,hb⟩
  exact RowsRes.no (by unfold pp.play;rw [if_neg h1,if_pos h]) hb
 ·exact pipe_Play_ok cl l A c w h1 hl (by omega) hd
end Go.Proofs.Ytdldfllllgogoaa
namespace Go.Proofs.Ytdldfllllgogoaa
open Go.RowKit
set_option linter.unusedSimpArgs false
def pp.zp:Passed:=⟨0,false,0,[],false,0⟩
set_option maxRecDepth 100000 in
set_option maxHeartbeats 2000000 in
theorem lawPipePlays_walk {w:World} (cl:Line) (_:Line.ok cl) (l:List Hop) (A:Option Addr) (c:Nat) (hl:SlRep Hop.rep w (· < w.heap.size) l A c) (hok:AllOk 64 Hop.ok l) :
  Calls Try.prog 6 #[.agg #[.int .i64 cl.first,.int .i64 cl.room],.slice A l.length c] w fun e w'=>e=.returned (.bool true)∧Below w.heap.size w w':=by
 have hn:l.length≤140737488351232:=by have:=hok.2;omega
 have hd:∀ a ∈ l,(IntOk a.id∧IntOk a.at_)∧IntOk a.count∧a.data.length≤140737488351232:=fun a ha=>by
  obtain ⟨_,h1,h2,h3,h4⟩:=hok.1 a ha
  exact ⟨⟨h2,h3⟩,h4,by have:=h1.2;omega⟩
 have HL:=Lib.hid hl
 have HD:=Lib.hid hd
 clear hl hok hd
 go_enter Try.func6,Try.ntmps6
 go_wp2_with fail
 generalize hw0:World.alloc w _=w0
 have hb0:Below w.heap.size w w0:=by rw [← hw0];exact balloc (bself w) _
 have HC0:Hid (BlkA w0 w.heap.size 52 #[.int .i64 cl.first,.int .i64 cl.room]):=Lib.hid (by rw [← hw0];exact BlkA.new _ _ _)
 clear hw0
 refine (pipe_Play_res cl l A c w0 (HL.out.next hb0) hn HD.out).mono ?_
 rintro e w1 ⟨B1,d1,rfl,ho1,hb1⟩
 have HC1:=Lib.hid (HC0.out.next hb1)
 have cd1:=HC1.out.get
 have lc1:=HC1.out.lt
 have hb1:=bnext hb0 hb1
 have HO1:=Lib.hid ho1
 clear ho1
 go_wp2_with fail
 refine (ref_PipePlayed_res cl l A c w1 (HL.out.next hb1) hn HD.out).mono ?_
 rintro e w2 ⟨B2,d2,rfl,ho2,hb2⟩
 have R1:Hid (SlRep Passed.rep w2 (· < w2.heap.size) (exL (pp.play cl l)) B1 d1):=Lib.hid (HO1.out.keep fun q hq=>⟨Nat.lt_of_lt_of_le hq.2 hb2.size,hb2.block q hq.2⟩)
 have R2:Hid (SlRep Passed.rep w2 (· < w2.heap.size) (exL (pp.play cl l)) B2 d2):=Lib.hid (ho2.keep fun q hq=>⟨hq.2,rfl⟩)
 have hmo:(exL (pp.play cl l)).length≤9223372036854775807:=by have:=ho2.1;have:=ho2.2.1;unfold maxLen at this;omega
 have hB2:Below w.heap.size w w2:=bnext hb1 hb2
 clear ho2 HO1 hb1 hb2 HL HD
 generalize exL (pp.play cl l)=o at *
 generalize exC (pp.play cl l)=er at *
 go_wp2
 go_loopw [9] (fun i wr=>∃ k:Nat,k≤o.length∧i=.int .i64 k∧Below w2.heap.size w2 wr) (fun i _=>o.length - (intOf i).toNat)
 case atStart=>exact ⟨0,by omega,rfl,Below.refl _ _⟩
 case round=>
  obtain ⟨k,hk,rfl,hB⟩:=hrel
  rename World=>wr
  by_cases hlt:k<o.length
  ·obtain ⟨b1,o1,rfl,hb1,A1,c1,p0,p1,p2,p3,p4,p5,s1⟩:=Passed.cells_at pp.zp (R1.out.below hB) hlt
   obtain ⟨b2,o2,rfl,hb2,A2,c2,q0,q1,q2,q3,q4,q5,s2⟩:=Passed.cells_at pp.zp (R2.out.below hB) hlt
   have hlt':(k:Int)<(o.length:Int):=by omega
   have hz:=hB.size
   have hb1':b1<wr.heap.size:=by omega
   have hb2':b2<wr.heap.size:=by omega
   have hlen:(o.getD k pp.zp).data.length≤9223372036854775807:=by have:=s1.1;have:=s1.2.1;unfold maxLen at this;omega
   have S1:=Lib.hid s1
   have S2:=Lib.hid s2
   have HB:=Lib.hid hB
   clear s1 s2 hB
   generalize o.getD k pp.zp=x at *
   obtain ⟨xc,xp,xi,xd,xe,xl⟩:=x
   dsimp only at p0 p1 p2 p3 p4 p5 q0 q1 q2 q3 q4 q5 S1 S2 hlen
   have hbc:(xc != xc)=false:=by simp
   have hbp:(xp != xp)=false:=by simp
   have hbe:(xe != xe)=false:=by simp
   have hbi:(xi != xi)=false:=by simp
   have hbl:(xl != xl)=false:=by simp
   have HSB:=Lib.hid (fun wx (hb:Below w2.heap.size w2 wx)=>law_sameBytes xd A1 A2 c1 c2 (· < w2.heap.size) (· < w2.heap.size) wx (S1.out.keep fun q hq=>⟨hq,((hb.block q hq).trans (HB.out.block q hq).symm)⟩) (S2.out.keep fun q hq=>⟨hq,((hb.block q hq).trans (HB.out.block q hq).symm)⟩) hlen)
   go_wp2_with (first
    | (go_at_call 9;((refine (HSB.out _ (balloc (balloc HB.out _) _)).mono ?_);rintro e w6 ⟨rfl,hb6⟩;have HB7:Hid (Below w2.heap.size w2 w6):=Lib.hid ((balloc (balloc HB.out _) _).trans (hb6.mono (by simp only [World.size_alloc];omega)));clear hb6))
    | fail)
   go_roundw
   case rel=>exact ⟨k+1,by omega,by go_num,HB7.out⟩
   case measure=>simp [intOf];omega
  ·go_wp2
   go_ret
   exact ⟨rfl,bnext hB2 hB⟩
end Go.Proofs.Ytdldfllllgogoaa
