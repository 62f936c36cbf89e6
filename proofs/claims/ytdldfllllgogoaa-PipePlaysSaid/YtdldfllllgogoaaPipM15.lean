/- Texts in one: PipeR6, PipeR6a, PipeR6b. No condition. -/
import Derived.Test.YtdldfllllgogoaaPipM13
import Derived.Test.YtdldfllllgogoaaPipM14
namespace Go.Proofs.Ytdldfllllgogoaa
open Go.RowKit
set_option linter.unusedSimpArgs false
theorem RPas.lift {b0:Nat} {w w1 w2 w':World} {B W F m:Nat} {a:RAd} {r:Passed × pp.Wire} {e:Ending} (hb:Below w.heap.size w w1) (hF:w.heap.size≤F∧F<w1.heap.size) (hWL:∀ k,RF W a k→k<w.heap.size) (h:RPas w1.heap.size w1 B W a m r e w2) (hs:Stays w2 w' (fun k=>k=F)) (hb0:b0≤w.heap.size):RPas b0 w B W a m r e w':=by
 obtain ⟨cs,a1,he,h1,h2,h3,h4⟩:=h
 have hnF:¬ RF W a1 F:=fun e=>by
  rcases h4 F e with e | e
  ·have:=hWL F e;omega
  ·omega
 refine ⟨cs,a1,he,Passed.rep.mono h1 (fun k hk=>⟨⟨Nat.le_trans hb0 (Nat.le_trans hb.size hk.1),Nat.lt_of_lt_of_le hk.2.1 hs.size,hk.2.2⟩,hs.block k hk.2.1 (by have:=hk.1;omega)⟩),h2.stays hs (fun k hk e=>hnF (e ▸ hk)),((Stays.of_below hb _).comp h3).trans hs (fun k hk e=>by omega),fun k hk=>(h4 k hk).imp (fun e=>e) (fun e=>Nat.le_trans hb.size e)⟩
/-- in Return: the deed as far as it is made -/
structure RdMid (w5 wx:World) (U:Nat) (p wn:Int) (E:Option Addr) (k ec:Nat) (xs:List Value):Prop where
 stay:Below w5.heap.size w5 wx
 deed:BlkA wx U 82 #[.int .i64 2,.slice none 0 0,.int .i64 p,.int .i64 wn,.slice E k ec]
 own:Own wx w5.heap.size 78 2 E k ec xs
 new:w5.heap.size≤U
/-- in Return: a range, placed -/
structure RyMid (w3 wx:World) (V:Nat) (z0 z1:Int):Prop where
 stay:Below w3.heap.size w3 wx
 yb:BlkA wx V 78 #[.int .i64 z0,.int .i64 z1]
 new:w3.heap.size≤V
/-- in Return: behind the hearing -/
structure HrMid (w1 wx:World) (B W m X:Nat) (a:RAd) (r:Int × pp.Wire) (a2:RAd):Prop where
 at_:RAt wx B W r.2 a2 m
 stay:Stays w1 wx (RF W a)
 new:∀ k,RF W a2 k→RF W a k∨w1.heap.size≤k
 far:¬ RF W a2 X
 box:BlkA wx X 58 #[.int .i64 r.1,.bool false,.int .i64 0,.slice none 0 0,.bool false,.int .i64 0]
theorem HrMid.mk' {w1 wq wx:World} {B W m X:Nat} {a:RAd} {x:pp.Wire} {c:Int} (h1:RAt wx B W x a m) (hb:Below w1.heap.size w1 wq) (hs:Stays wq wx (fun k=>k=X)) (hX:w1.heap.size≤X) (hf:¬ RF W a X) (hx:BlkA wx X 58 #[.int .i64 c,.bool false,.int .i64 0,.slice none 0 0,.bool false,.int .i64 0]):HrMid w1 wx B W m X a (c,x) a:=
 ⟨h1,(Stays.of_below hb _).trans hs (fun k hk e=>by omega),fun k hk=>.inl hk,hf,hx⟩
theorem sent_field6 (v0 v1 v2 v3 v4 v5 v6:Value) (W:World):(Instr.field 49 (.agg #[v0,v1,v2,v3,v4,v5,v6]) 6).run Try.prog W=.ok v6 W:=by kernel_rfl
theorem sd.none_do (s:sd.St):sd.doIt s ⟨0,[],0,0,[]⟩=({ sd.coded 3 with left:=sd.leftOf s },s):=by
 unfold sd.doIt sd.step
 simp
theorem lt0_not (z:Int):decide (z<0) = !decide (0≤z):=by
 by_cases c:z<0
 ·rw [decide_eq_true c,decide_eq_false (by omega)];rfl
 ·rw [decide_eq_false c,decide_eq_true (by omega)];rfl
theorem BlkA.two_ {w:World} {F:Nat} {T:TypeId} {a0 a1:Value} (h:BlkA w F T #[a0,a1]) (v0 v1:Value):BlkA ((w.setCell ⟨F,0,none⟩ v0).setCell ⟨F,1,none⟩ v1) F T #[v0,v1]:=by
 have h:=(h.set 0 v0).set 1 v1
 simpa using h
set_option maxRecDepth 100000 in
set_option maxHeartbeats 4000000 in
theorem rpipe_Hop_1 (B W:Nat) (x:pp.Wire) (a:RAd) (m:Nat) (t:Hop) (X:Option Addr) (xc:Nat) (w:World) (h:RAt w B W x a m) {kk:Nat} (hi:pp.Inv x kk) (hk:kk≤1000) (hm:m≤1000) (hX:SlRep Rep.u8 w (· < w.heap.size) t.data X xc) (hid:IntOk t.id) (hat:IntOk t.at_) (hct:IntOk t.count) (hd:t.data.length≤140737488351232) (k1:t.kind=1) :
  Calls Try.prog 32 #[.pointer (some ⟨W,0,none⟩),.agg #[.int .i64 t.kind,.slice X t.data.length xc,.int .i64 t.id,.int .i64 t.at_,.int .u8 t.by_.toNat,.int .i64 t.count]] w (RPas w.heap.size w B W a (m+1) (pp.step x t)):=by
 obtain ⟨tk,td,ti,ta,tb,tc⟩:=t
 simp only at hX hid hat hct hd k1 ⊢
 subst k1
 have HI:=Lib.hid hi
 have hW:=h.blk.lt
 have HWL:=Lib.hid (fun k (hk:RF W a k)=>(h.lt hk).2)
 have hl:x.frames.length≤1000:=Nat.le_trans hi.few hk
 obtain ⟨w1,hw1⟩:∃ w1,w1=((w.alloc (.cells #[.pointer (some ⟨W,0,none⟩)] 92)).alloc (.cells #[.int .i64 1,.slice X td.length xc,.int .i64 ti,.int .i64 ta,.int .u8 tb.toNat,.int .i64 tc] 89)).alloc (.cells #[.int .i64 0,.bool false,.int .i64 0,.slice none 0 0,.bool false,.int .i64 0] 58):=⟨_,rfl⟩
 have hb1:Below w.heap.size w w1:=by rw [hw1];exact balloc (balloc (balloc (bself w) _) _) _
 have hz1:w1.heap.size=w.heap.size+1+1+1:=by rw [hw1];simp
 have HP1:Hid (BlkA w1 w.heap.size 92 #[.pointer (some ⟨W,0,none⟩)]):=Lib.hid (by rw [hw1];exact ((BlkA.new _ _ _).alloc _).alloc _)
 have HH1:Hid (BlkA w1 (w.heap.size+1) 89 #[.int .i64 1,.slice X td.length xc,.int .i64 ti,.int .i64 ta,.int .u8 tb.toNat,.int .i64 tc]):=Lib.hid (by
  rw [hw1]
  have h:=(BlkA.new (w.alloc (.cells #[.pointer (some ⟨W,0,none⟩)] 92)) 89 #[.int .i64 1,.slice X td.length xc,.int .i64 ti,.int .i64 ta,.int .u8 tb.toNat,.int .i64 tc]).alloc (.cells #[.int .i64 0,.bool false,.int .i64 0,.slice none 0 0,.bool false,.int .i64 0] 58)
  simpa using h)
 have HZ1:Hid (BlkA w1 (w.heap.size+1+1) 58 #[.int .i64 0,.bool false,.int .i64 0,.slice none 0 0,.bool false,.int .i64 0]):=Lib.hid (by
  rw [hw1]
  have h:=BlkA.new ((w.alloc (.cells #[.pointer (some ⟨W,0,none⟩)] 92)).alloc (.cells #[.int .i64 1,.slice X td.length xc,.int .i64 ti,.int .i64 ta,.int .u8 tb.toNat,.int .i64 tc] 89)) 58 #[.int .i64 0,.bool false,.int .i64 0,.slice none 0 0,.bool false,.int .i64 0]
  simpa using h)
 have H1:=Lib.hid (h.next hb1)
 have H1u:=Lib.hid ((h.next hb1).up (Nat.le_succ m))
 have HB1:=Lib.hid hb1
 have HX1:=Lib.hid (hX.next hb1)
 have HNZ:Hid (¬ RF W a (w.heap.size+1+1)):=Lib.hid (fun e=>by have:=HWL.out _ e;omega)
 have hd':=HH1.out.get
 have lh:=HH1.out.lt
 have pd:=HP1.out.get 0
 simp only [List.getElem?_toArray,List.getElem?_cons_zero] at pd
 have lp:=HP1.out.lt
 have zd:=HZ1.out.get
 have ze:=HZ1.out.frozen
 have lz:=HZ1.out.lt
 clear h hi hX hb1
 go_enter Try.func32,Try.ntmps32
 go_upto_region 1 with (fail)
 rw [← hw1]
 clear hw1
 have HST:Hid (pp.step x ⟨1,td,ti,ta,tb,tc⟩=pp.own x ⟨1,td,0,0,[]⟩):=Lib.hid (by unfold pp.step;rw [if_pos rfl])
 have HC:Hid (Calls Try.prog 62 #[.agg #[.int .i64 1,.slice X td.length xc,.int .i64 0,.int .i64 0,.slice none 0 0],.pointer (some ⟨w.heap.size,0,none⟩)] w1 (RPas w1.heap.size w1 B W a (m+1) (pp.own x ⟨1,td,0,0,[]⟩))):=Lib.hid (rpipe_own w1.heap.size B W w.heap.size x a (m+1) ⟨1,td,0,0,[]⟩ X xc none 0 w1 H1u.out HI.out.snd HX1.out (SlRep.nilW _ _ _) ok0 ok0 hd (Nat.zero_le _) HP1.out)
 have HFIN:Hid (∀ (w2 w':World) (e:Ending),RPas w1.heap.size w1 B W a (m+1) (pp.own x ⟨1,td,0,0,[]⟩) e w2→Stays w2 w' (fun q=>q=w.heap.size+1+1)→RPas w.heap.size w B W a (m+1) (pp.step x ⟨1,td,ti,ta,tb,tc⟩) e w'):=Lib.hid (fun w2 w' e hr hs=>by
  rw [HST.out]
  exact RPas.lift HB1.out (by omega) HWL.out hr hs (Nat.le_refl _))
 generalize pp.own x ⟨1,td,0,0,[]⟩=r at *
 obtain ⟨⟨pc,pu,pi,pd,pe,pl⟩,x2⟩:=r
 go_wp2_with (first
  | (go_at_call 62;((with_reducible refine HC.out.mono ?_);rintro e w2 hr;obtain ⟨cs,a2,rfl,r1,r2,r3,r4⟩:=id hr;obtain ⟨Y,yc,rfl,r5⟩:=Passed.rep_iff.1 r1;have HRS:=Lib.hid hr;have z2:=HZ1.out.stays r3 HNZ.out;have zd:=z2.get;have ze:=z2.frozen;have lz2:=z2.lt;clear hr r1 r2 r3 r4 r5 z2))
  | fail)
 refine bodyPost_ret (v:=.agg #[.int .i64 pc,.bool pu,.int .i64 pi,.slice Y pd.length yc,.bool pe,.int .i64 pl]) (by simp [results,Try.results32,go_sem, *]) rfl (HFIN.out _ _ _ HRS.out ?_)
 exact Stays.sixP _ _ _ _ _ _ _ _
set_option maxRecDepth 100000 in
set_option maxHeartbeats 4000000 in
theorem rpipe_Hop_2 (B W:Nat) (x:pp.Wire) (a:RAd) (m:Nat) (t:Hop) (X:Option Addr) (xc:Nat) (w:World) (h:RAt w B W x a m) {kk:Nat} (hi:pp.Inv x kk) (hk:kk≤1000) (hm:m≤1000) (hX:SlRep Rep.u8 w (· < w.heap.size) t.data X xc) (hid:IntOk t.id) (hat:IntOk t.at_) (hct:IntOk t.count) (hd:t.data.length≤140737488351232) (k2:t.kind=2) :
  Calls Try.prog 32 #[.pointer (some ⟨W,0,none⟩),.agg #[.int .i64 t.kind,.slice X t.data.length xc,.int .i64 t.id,.int .i64 t.at_,.int .u8 t.by_.toNat,.int .i64 t.count]] w (RPas w.heap.size w B W a (m+1) (pp.step x t)):=by
 obtain ⟨tk,td,ti,ta,tb,tc⟩:=t
 simp only at hX hid hat hct hd k2 ⊢
 subst k2
 have HI:=Lib.hid hi
 have hW:=h.blk.lt
 have HWL:=Lib.hid (fun k (hk:RF W a k)=>(h.lt hk).2)
 have hl:x.frames.length≤1000:=Nat.le_trans hi.few hk
 obtain ⟨w1,hw1⟩:∃ w1,w1=((w.alloc (.cells #[.pointer (some ⟨W,0,none⟩)] 92)).alloc (.cells #[.int .i64 2,.slice X td.length xc,.int .i64 ti,.int .i64 ta,.int .u8 tb.toNat,.int .i64 tc] 89)).alloc (.cells #[.int .i64 0,.bool false,.int .i64 0,.slice none 0 0,.bool false,.int .i64 0] 58):=⟨_,rfl⟩
 have hb1:Below w.heap.size w w1:=by rw [hw1];exact balloc (balloc (balloc (bself w) _) _) _
 have hz1:w1.heap.size=w.heap.size+1+1+1:=by rw [hw1];simp
 have HP1:Hid (BlkA w1 w.heap.size 92 #[.pointer (some ⟨W,0,none⟩)]):=Lib.hid (by rw [hw1];exact ((BlkA.new _ _ _).alloc _).alloc _)
 have HH1:Hid (BlkA w1 (w.heap.size+1) 89 #[.int .i64 2,.slice X td.length xc,.int .i64 ti,.int .i64 ta,.int .u8 tb.toNat,.int .i64 tc]):=Lib.hid (by
  rw [hw1]
  have h:=(BlkA.new (w.alloc (.cells #[.pointer (some ⟨W,0,none⟩)] 92)) 89 #[.int .i64 2,.slice X td.length xc,.int .i64 ti,.int .i64 ta,.int .u8 tb.toNat,.int .i64 tc]).alloc (.cells #[.int .i64 0,.bool false,.int .i64 0,.slice none 0 0,.bool false,.int .i64 0] 58)
  simpa using h)
 have HZ1:Hid (BlkA w1 (w.heap.size+1+1) 58 #[.int .i64 0,.bool false,.int .i64 0,.slice none 0 0,.bool false,.int .i64 0]):=Lib.hid (by
  rw [hw1]
  have h:=BlkA.new ((w.alloc (.cells #[.pointer (some ⟨W,0,none⟩)] 92)).alloc (.cells #[.int .i64 2,.slice X td.length xc,.int .i64 ti,.int .i64 ta,.int .u8 tb.toNat,.int .i64 tc] 89)) 58 #[.int .i64 0,.bool false,.int .i64 0,.slice none 0 0,.bool false,.int .i64 0]
  simpa using h)
 have H1:=Lib.hid (h.next hb1)
 have H1u:=Lib.hid ((h.next hb1).up (Nat.le_succ m))
 have HB1:=Lib.hid hb1
 have HX1:=Lib.hid (hX.next hb1)
 have HNZ:Hid (¬ RF W a (w.heap.size+1+1)):=Lib.hid (fun e=>by have:=HWL.out _ e;omega)
 have hd':=HH1.out.get
 have lh:=HH1.out.lt
 have pd:=HP1.out.get 0
 simp only [List.getElem?_toArray,List.getElem?_cons_zero] at pd
 have lp:=HP1.out.lt
 have zd:=HZ1.out.get
 have ze:=HZ1.out.frozen
 have lz:=HZ1.out.lt
 clear h hi hX hb1
 go_enter Try.func32,Try.ntmps32
 go_upto_region 1 with (fail)
 rw [← hw1]
 clear hw1
 have HST:Hid (pp.step x ⟨2,td,ti,ta,tb,tc⟩=pp.own x ⟨5,[],0,0,[]⟩):=Lib.hid (by unfold pp.step;rw [if_neg (by simp),if_pos rfl])
 have HC:Hid (Calls Try.prog 62 #[.agg #[.int .i64 5,.slice none 0 0,.int .i64 0,.int .i64 0,.slice none 0 0],.pointer (some ⟨w.heap.size,0,none⟩)] w1 (RPas w1.heap.size w1 B W a (m+1) (pp.own x ⟨5,[],0,0,[]⟩))):=Lib.hid (rpipe_own w1.heap.size B W w.heap.size x a (m+1) ⟨5,[],0,0,[]⟩ none 0 none 0 w1 H1u.out HI.out.snd (SlRep.nilW _ _ _) (SlRep.nilW _ _ _) ok0 ok0 (Nat.zero_le _) (Nat.zero_le _) HP1.out)
 have HFIN:Hid (∀ (w2 w':World) (e:Ending),RPas w1.heap.size w1 B W a (m+1) (pp.own x ⟨5,[],0,0,[]⟩) e w2→Stays w2 w' (fun q=>q=w.heap.size+1+1)→RPas w.heap.size w B W a (m+1) (pp.step x ⟨2,td,ti,ta,tb,tc⟩) e w'):=Lib.hid (fun w2 w' e hr hs=>by
  rw [HST.out]
  exact RPas.lift HB1.out (by omega) HWL.out hr hs (Nat.le_refl _))
 generalize pp.own x ⟨5,[],0,0,[]⟩=r at *
 obtain ⟨⟨pc,pu,pi,pd,pe,pl⟩,x2⟩:=r
 go_wp2_with (first
  | (go_at_call 62;((with_reducible refine HC.out.mono ?_);rintro e w2 hr;obtain ⟨cs,a2,rfl,r1,r2,r3,r4⟩:=id hr;obtain ⟨Y,yc,rfl,r5⟩:=Passed.rep_iff.1 r1;have HRS:=Lib.hid hr;have z2:=HZ1.out.stays r3 HNZ.out;have zd:=z2.get;have ze:=z2.frozen;have lz2:=z2.lt;clear hr r1 r2 r3 r4 r5 z2))
  | fail)
 refine bodyPost_ret (v:=.agg #[.int .i64 pc,.bool pu,.int .i64 pi,.slice Y pd.length yc,.bool pe,.int .i64 pl]) (by simp [results,Try.results32,go_sem, *]) rfl (HFIN.out _ _ _ HRS.out ?_)
 exact Stays.sixP _ _ _ _ _ _ _ _
set_option maxRecDepth 100000 in
set_option maxHeartbeats 4000000 in
theorem rpipe_Hop_7 (B W:Nat) (x:pp.Wire) (a:RAd) (m:Nat) (t:Hop) (X:Option Addr) (xc:Nat) (w:World) (h:RAt w B W x a m) {kk:Nat} (hi:pp.Inv x kk) (hk:kk≤1000) (hm:m≤1000) (hX:SlRep Rep.u8 w (· < w.heap.size) t.data X xc) (hid:IntOk t.id) (hat:IntOk t.at_) (hct:IntOk t.count) (hd:t.data.length≤140737488351232) (k7:t.kind=7) :
  Calls Try.prog 32 #[.pointer (some ⟨W,0,none⟩),.agg #[.int .i64 t.kind,.slice X t.data.length xc,.int .i64 t.id,.int .i64 t.at_,.int .u8 t.by_.toNat,.int .i64 t.count]] w (RPas w.heap.size w B W a (m+1) (pp.step x t)):=by
 obtain ⟨tk,td,ti,ta,tb,tc⟩:=t
 simp only at hX hid hat hct hd k7 ⊢
 subst k7
 have HI:=Lib.hid hi
 have hW:=h.blk.lt
 have HWL:=Lib.hid (fun k (hk:RF W a k)=>(h.lt hk).2)
 have hl:x.frames.length≤1000:=Nat.le_trans hi.few hk
 obtain ⟨w1,hw1⟩:∃ w1,w1=((w.alloc (.cells #[.pointer (some ⟨W,0,none⟩)] 92)).alloc (.cells #[.int .i64 7,.slice X td.length xc,.int .i64 ti,.int .i64 ta,.int .u8 tb.toNat,.int .i64 tc] 89)).alloc (.cells #[.int .i64 0,.bool false,.int .i64 0,.slice none 0 0,.bool false,.int .i64 0] 58):=⟨_,rfl⟩
 have hb1:Below w.heap.size w w1:=by rw [hw1];exact balloc (balloc (balloc (bself w) _) _) _
 have hz1:w1.heap.size=w.heap.size+1+1+1:=by rw [hw1];simp
 have HP1:Hid (BlkA w1 w.heap.size 92 #[.pointer (some ⟨W,0,none⟩)]):=Lib.hid (by rw [hw1];exact ((BlkA.new _ _ _).alloc _).alloc _)
 have HH1:Hid (BlkA w1 (w.heap.size+1) 89 #[.int .i64 7,.slice X td.length xc,.int .i64 ti,.int .i64 ta,.int .u8 tb.toNat,.int .i64 tc]):=Lib.hid (by
  rw [hw1]
  have h:=(BlkA.new (w.alloc (.cells #[.pointer (some ⟨W,0,none⟩)] 92)) 89 #[.int .i64 7,.slice X td.length xc,.int .i64 ti,.int .i64 ta,.int .u8 tb.toNat,.int .i64 tc]).alloc (.cells #[.int .i64 0,.bool false,.int .i64 0,.slice none 0 0,.bool false,.int .i64 0] 58)
  simpa using h)
 have HZ1:Hid (BlkA w1 (w.heap.size+1+1) 58 #[.int .i64 0,.bool false,.int .i64 0,.slice none 0 0,.bool false,.int .i64 0]):=Lib.hid (by
  rw [hw1]
  have h:=BlkA.new ((w.alloc (.cells #[.pointer (some ⟨W,0,none⟩)] 92)).alloc (.cells #[.int .i64 7,.slice X td.length xc,.int .i64 ti,.int .i64 ta,.int .u8 tb.toNat,.int .i64 tc] 89)) 58 #[.int .i64 0,.bool false,.int .i64 0,.slice none 0 0,.bool false,.int .i64 0]
  simpa using h)
 have H1:=Lib.hid (h.next hb1)
 have H1u:=Lib.hid ((h.next hb1).up (Nat.le_succ m))
 have HB1:=Lib.hid hb1
 have HX1:=Lib.hid (hX.next hb1)
 have HNZ:Hid (¬ RF W a (w.heap.size+1+1)):=Lib.hid (fun e=>by have:=HWL.out _ e;omega)
 have hd':=HH1.out.get
 have lh:=HH1.out.lt
 have pd:=HP1.out.get 0
 simp only [List.getElem?_toArray,List.getElem?_cons_zero] at pd
 have lp:=HP1.out.lt
 have zd:=HZ1.out.get
 have ze:=HZ1.out.frozen
 have lz:=HZ1.out.lt
 clear h hi hX hb1
 go_enter Try.func32,Try.ntmps32
 go_upto_region 1 with (fail)
 rw [← hw1]
 clear hw1
 have HST:Hid (pp.step x ⟨7,td,ti,ta,tb,tc⟩=pp.own x ⟨4,[],0,0,[]⟩):=Lib.hid (by unfold pp.step;rw [if_neg (by simp),if_neg (by simp),if_pos rfl])
 have HC:Hid (Calls Try.prog 62 #[.agg #[.int .i64 4,.slice none 0 0,.int .i64 0,.int .i64 0,.slice none 0 0],.pointer (some ⟨w.heap.size,0,none⟩)] w1 (RPas w1.heap.size w1 B W a (m+1) (pp.own x ⟨4,[],0,0,[]⟩))):=Lib.hid (rpipe_own w1.heap.size B W w.heap.size x a (m+1) ⟨4,[],0,0,[]⟩ none 0 none 0 w1 H1u.out HI.out.snd (SlRep.nilW _ _ _) (SlRep.nilW _ _ _) ok0 ok0 (Nat.zero_le _) (Nat.zero_le _) HP1.out)
 have HFIN:Hid (∀ (w2 w':World) (e:Ending),RPas w1.heap.size w1 B W a (m+1) (pp.own x ⟨4,[],0,0,[]⟩) e w2→Stays w2 w' (fun q=>q=w.heap.size+1+1)→RPas w.heap.size w B W a (m+1) (pp.step x ⟨7,td,ti,ta,tb,tc⟩) e w'):=Lib.hid (fun w2 w' e hr hs=>by
  rw [HST.out]
  exact RPas.lift HB1.out (by omega) HWL.out hr hs (Nat.le_refl _))
 generalize pp.own x ⟨4,[],0,0,[]⟩=r at *
 obtain ⟨⟨pc,pu,pi,pd,pe,pl⟩,x2⟩:=r
 go_wp2_with (first
  | (go_at_call 62;((with_reducible refine HC.out.mono ?_);rintro e w2 hr;obtain ⟨cs,a2,rfl,r1,r2,r3,r4⟩:=id hr;obtain ⟨Y,yc,rfl,r5⟩:=Passed.rep_iff.1 r1;have HRS:=Lib.hid hr;have z2:=HZ1.out.stays r3 HNZ.out;have zd:=z2.get;have ze:=z2.frozen;have lz2:=z2.lt;clear hr r1 r2 r3 r4 r5 z2))
  | fail)
 refine bodyPost_ret (v:=.agg #[.int .i64 pc,.bool pu,.int .i64 pi,.slice Y pd.length yc,.bool pe,.int .i64 pl]) (by simp [results,Try.results32,go_sem, *]) rfl (HFIN.out _ _ _ HRS.out ?_)
 exact Stays.sixP _ _ _ _ _ _ _ _
set_option maxRecDepth 100000 in
set_option maxHeartbeats 4000000 in
theorem rpipe_Hop_3 (B W:Nat) (x:pp.Wire) (a:RAd) (m:Nat) (t:Hop) (X:Option Addr) (xc:Nat) (w:World) (h:RAt w B W x a m) {kk:Nat} (hi:pp.Inv x kk) (hk:kk≤1000) (hm:m≤1000) (hX:SlRep Rep.u8 w (· < w.heap.size) t.data X xc) (hid:IntOk t.id) (hat:IntOk t.at_) (hct:IntOk t.count) (hd:t.data.length≤140737488351232) (k3:t.kind=3) :
  Calls Try.prog 32 #[.pointer (some ⟨W,0,none⟩),.agg #[.int .i64 t.kind,.slice X t.data.length xc,.int .i64 t.id,.int .i64 t.at_,.int .u8 t.by_.toNat,.int .i64 t.count]] w (RPas w.heap.size w B W a (m+1) (pp.step x t)):=by
 obtain ⟨tk,td,ti,ta,tb,tc⟩:=t
 simp only at hX hid hat hct hd k3 ⊢
 subst k3
 have HI:=Lib.hid hi
 have hW:=h.blk.lt
 have HWL:=Lib.hid (fun k (hk:RF W a k)=>(h.lt hk).2)
 have hl:x.frames.length≤1000:=Nat.le_trans hi.few hk
 obtain ⟨w1,hw1⟩:∃ w1,w1=((w.alloc (.cells #[.pointer (some ⟨W,0,none⟩)] 92)).alloc (.cells #[.int .i64 3,.slice X td.length xc,.int .i64 ti,.int .i64 ta,.int .u8 tb.toNat,.int .i64 tc] 89)).alloc (.cells #[.int .i64 0,.bool false,.int .i64 0,.slice none 0 0,.bool false,.int .i64 0] 58):=⟨_,rfl⟩
 have hb1:Below w.heap.size w w1:=by rw [hw1];exact balloc (balloc (balloc (bself w) _) _) _
 have hz1:w1.heap.size=w.heap.size+1+1+1:=by rw [hw1];simp
 have HP1:Hid (BlkA w1 w.heap.size 92 #[.pointer (some ⟨W,0,none⟩)]):=Lib.hid (by rw [hw1];exact ((BlkA.new _ _ _).alloc _).alloc _)
 have HH1:Hid (BlkA w1 (w.heap.size+1) 89 #[.int .i64 3,.slice X td.length xc,.int .i64 ti,.int .i64 ta,.int .u8 tb.toNat,.int .i64 tc]):=Lib.hid (by
  rw [hw1]
  have h:=(BlkA.new (w.alloc (.cells #[.pointer (some ⟨W,0,none⟩)] 92)) 89 #[.int .i64 3,.slice X td.length xc,.int .i64 ti,.int .i64 ta,.int .u8 tb.toNat,.int .i64 tc]).alloc (.cells #[.int .i64 0,.bool false,.int .i64 0,.slice none 0 0,.bool false,.int .i64 0] 58)
  simpa using h)
 have HZ1:Hid (BlkA w1 (w.heap.size+1+1) 58 #[.int .i64 0,.bool false,.int .i64 0,.slice none 0 0,.bool false,.int .i64 0]):=Lib.hid (by
  rw [hw1]
  have h:=BlkA.new ((w.alloc (.cells #[.pointer (some ⟨W,0,none⟩)] 92)).alloc (.cells #[.int .i64 3,.slice X td.length xc,.int .i64 ti,.int .i64 ta,.int .u8 tb.toNat,.int .i64 tc] 89)) 58 #[.int .i64 0,.bool false,.int .i64 0,.slice none 0 0,.bool false,.int .i64 0]
  simpa using h)
 have H1:=Lib.hid (h.next hb1)
 have H1u:=Lib.hid ((h.next hb1).up (Nat.le_succ m))
 have HB1:=Lib.hid hb1
 have HX1:=Lib.hid (hX.next hb1)
 have HNZ:Hid (¬ RF W a (w.heap.size+1+1)):=Lib.hid (fun e=>by have:=HWL.out _ e;omega)
 have hd':=HH1.out.get
 have lh:=HH1.out.lt
 have pd:=HP1.out.get 0
 simp only [List.getElem?_toArray,List.getElem?_cons_zero] at pd
 have lp:=HP1.out.lt
 have zd:=HZ1.out.get
 have ze:=HZ1.out.frozen
 have lz:=HZ1.out.lt
 clear h hi hX hb1
 go_enter Try.func32,Try.ntmps32
 go_upto_region 1 with (fail)
 rw [← hw1]
 clear hw1
 have HST:Hid (pp.step x ⟨3,td,ti,ta,tb,tc⟩=pp.send x):=Lib.hid (by unfold pp.step;rw [if_neg (by simp),if_neg (by simp),if_neg (by simp),if_pos rfl])
 have HDO:Hid (Calls Try.prog 27 #[.pointer (some ⟨a.G,0,none⟩),.agg #[.int .i64 3,.slice none 0 0,.int .i64 0,.int .i64 0,.slice none 0 0]] w1 (DeedRes w1 B a.G (sd.doIt x.snd pp.pollD) a.D a.K)):=Lib.hid (ref_Deed B a.G x.snd a.kl a.td a.D a.dc a.K a.kc pp.pollD none 0 none 0 w1 H1.out.snd HI.out.snd (SlRep.nilW _ _ _) (SlRep.nilW _ _ _) ok0 ok0 (Nat.zero_le _) (Nat.zero_le _))
 have hfrom:=sd.poll_from HI.out.snd
 have hdat:=sd.poll_data x.snd
 have HIS:=Lib.hid (HI.out.doSnd pp.pollD)
 have HSE:Hid (pp.send x=if (sd.doIt x.snd pp.pollD).1.idle=true then (pp.no 7,{ x with snd:=(sd.doIt x.snd pp.pollD).2 }) else ({ pp.none_ with put:=true,id:=x.frames.length,left:=(sd.doIt x.snd pp.pollD).1.left },pp.putIn { x with snd:=(sd.doIt x.snd pp.pollD).2 } (pp.sendSeg x (sd.doIt x.snd pp.pollD).1) false)):=Lib.hid rfl
 have hfirst:=HI.out.first
 generalize sd.doIt x.snd pp.pollD=r at *
 obtain ⟨⟨rc,rf,rd,rn,ra,ri,rl⟩,s'⟩:=r
 simp only at hfrom hdat HSE HIS HDO
 have p1:=H1.out.ptrS
 have hW1:=H1.out.blk.lt
 go_upto_region 11 with (first
  | (go_at_call 27;((with_reducible refine HDO.out.mono ?_);rintro e w2 ⟨cs,kl1,td1,D1,dc1,K1,kc1,rfl,g1,g2,g3,g4⟩;obtain ⟨Ad,cd,rfl,g5⟩:=Sent.rep_iff.1 g1;have G2:=Lib.hid (H1u.out.putSnd (g3.mono fun _ _ e=>.inl e) g2 g4);have G3:Hid (Stays w1 w2 (RF W a)):=Lib.hid (g3.mono fun _ _ e=>.inr (.inl (.inl e)));have G5:=Lib.hid g5;clear g1 g2 g3 g4 g5))
  | fail)
 generalize hw3:World.alloc w2 _=w3
 generalize hT:w2.heap.size=T
 have hb23:Below w2.heap.size w2 w3:=by rw [← hw3];exact balloc (bself w2) _
 have hbt:BlkA w3 T 49 #[.int .i64 rc,.int .i64 rf,.slice Ad rd.length cd,.bool rn,.bool ra,.bool ri,.int .i64 rl]:=by rw [← hw3,← hT];exact BlkA.new _ _ _
 have hs12:=G3.out.size
 have hsz2:w.heap.size+1+1+1≤w2.heap.size:=by omega
 obtain ⟨x1,hx1⟩:∃ x1,x1={ x with snd:=s' }:=⟨_,rfl⟩
 obtain ⟨a1,ha1⟩:∃ a1,a1={ a with kl:=kl1,td:=td1,D:=D1,dc:=dc1,K:=K1,kc:=kc1 }:=⟨_,rfl⟩
 rw [← hx1,← ha1] at G2
 rw [← hx1] at HSE HIS
 have HX1x:=Lib.hid hx1
 have H3:=Lib.hid (G2.out.1.next hb23)
 have HT:=Lib.hid hT
 have HBT:=Lib.hid hbt
 have HB23:=Lib.hid hb23
 have HNW:Hid (∀ k,RF W a1 k→(k≠w.heap.size∧k≠w.heap.size+1+1)∧k≠T):=Lib.hid (fun k hk=>by
  have h5:=(G2.out.1.lt hk).2
  rcases G2.out.2 k hk with e | e
  ·have:=HWL.out _ e
   omega
  ·omega)
 have HST2:Hid (Stays w w2 (RF W a)):=Lib.hid ((Stays.of_below HB1.out _).trans G3.out (fun k hk e=>e))
 have HZ3:=Lib.hid ((HZ1.out.stays G3.out HNZ.out).next hb23)
 have HP3:=Lib.hid ((HP1.out.stays G3.out (fun e=>by have:=HWL.out _ e;omega)).next hb23)
 have HG4:Hid (∀ k,RF W a1 k→RF W a k∨w.heap.size≤k):=Lib.hid (fun k hk=>(G2.out.2 k hk).imp id (fun e=>by omega))
 have sd_:=HBT.out.get
 have lT:=HBT.out.lt
 have zd:=HZ3.out.get
 have ze:=HZ3.out.frozen
 have lz:=HZ3.out.lt
 have lp3:=HP3.out.lt
 clear hw3 hb23 hbt hs12 hx1 ha1 hT hd' pd
 cases ri with
 | true=>
  have HSE2:Hid (pp.send x=(pp.no 7,x1)):=Lib.hid (by rw [HSE.out,if_pos rfl])
  have HFIN:Hid (∀ w',Stays w3 w' (fun k=>k=w.heap.size+1+1)→RPas w.heap.size w B W a (m+1) (pp.step x ⟨3,td,ti,ta,tb,tc⟩) (.returned (.agg #[.int .i64 7,.bool false,.int .i64 0,.slice none 0 0,.bool false,.int .i64 0])) w'):=Lib.hid (fun w' hs=>by
   rw [HST.out,HSE2.out]
   exact RPas.plain (r:=(pp.no 7,x1)) (a1:=a1) rfl H3.out (HST2.out.comp (Stays.of_below HB23.out _)) HG4.out (hs.mono fun k hk e=>⟨by omega,fun e2=>(HNW.out k e2).1.2 e⟩))
  go_wp2
  refine bodyPost_ret (v:=.agg #[.int .i64 7,.bool false,.int .i64 0,.slice none 0 0,.bool false,.int .i64 0]) (by simp [results,Try.results32,go_sem, *]) rfl (HFIN.out _ ?_)
  exact Stays.sixP _ _ _ _ _ _ _ _
 | false=>
  have HSE2:Hid (pp.send x=({ pp.none_ with put:=true,id:=x.frames.length,left:=rl },pp.putIn x1 (pp.sendSeg x ⟨rc,rf,rd,rn,ra,false,rl⟩) false)):=Lib.hid (by rw [HSE.out,if_neg (by simp)])
  have hmk:=pp.mark_bd x rf
  have HMK:Hid (∀ wx,Below w3.heap.size w3 wx→Calls Try.prog 64 #[.pointer (some ⟨W,0,none⟩),.int .i64 rf] wx fun e w'=>e=.returned (.int .i64 (pp.mark x rf))∧wx=w'):=Lib.hid (fun wx hb=>by
   have h5:=rpipe_tell B W x1 a1 (m+1) rf wx (H3.out.next hb) (by rw [HX1x.out];exact hfirst) (by omega)
   rw [HX1x.out] at h5
   exact h5)
  have HPU:Hid (∀ wx,Below w3.heap.size w3 wx→Calls Try.prog 63 #[.pointer (some ⟨W,0,none⟩),.agg #[.int .i64 (pp.mark x rf),.int .i64 0,.int .i64 0,.bool false,.bool rn,.bool false,.bool false,.slice none 0 0,.slice Ad rd.length cd],.bool false] wx (RRes wx B W x1 a1 (m+1) (.int .i64 (x.frames.length:Int)) (pp.putIn x1 (pp.sendSeg x ⟨rc,rf,rd,rn,ra,false,rl⟩) false))):=Lib.hid (fun wx hb=>by
   have h5:=rpipe_put B W x1 a1 (m+1) (pp.sendSeg x ⟨rc,rf,rd,rn,ra,false,rl⟩) false none 0 Ad cd wx (H3.out.next hb) (SlRep.nilW _ _ _) (G5.out.keep fun k hk=>⟨by have:=hk.2.1;have:=HB23.out.size;have:=hb.size;omega,by rw [hb.block k (by have:=hk.2.1;have:=HB23.out.size;omega),HB23.out.block k hk.2.1]⟩) (Nat.zero_le _) (Nat.le_trans hdat (by decide)) (by rw [show x1.frames=x.frames from by rw [HX1x.out]];exact hl)
   have e5:x1.frames=x.frames:=by rw [HX1x.out]
   rw [e5] at h5
   exact h5)
  generalize pp.mark x rf=mk at *
  have HSS:Hid (∀ wx,Stays w3 wx (RF W a1)→wx.cell? ⟨T,1,none⟩=some (.int .i64 rf)∧wx.cell? ⟨T,2,none⟩=some (.slice Ad rd.length cd)∧wx.cell? ⟨T,3,none⟩=some (.bool rn)∧wx.cell? ⟨T,6,none⟩=some (.int .i64 rl)∧wx.cell? ⟨w.heap.size,0,none⟩=some (.pointer (some ⟨W,0,none⟩))):=Lib.hid (fun wx hs=>by
   have h5:=HBT.out.stays hs (fun e=>(HNW.out _ e).2 rfl)
   exact ⟨h5.get 1,h5.get 2,h5.get 3,h5.get 6,(HP3.out.stays hs (fun e=>(HNW.out _ e).1.1 rfl)).get 0⟩)
  clear zd ze
  go_upto_region 13 with (fail)
  refine wp_region_tail [14] (fun wx=>wx.cell? ⟨T,1,none⟩=some (.int .i64 rf)∧wx.cell? ⟨T,2,none⟩=some (.slice Ad rd.length cd)∧wx.cell? ⟨T,3,none⟩=some (.bool rn)∧wx.cell? ⟨T,6,none⟩=some (.int .i64 rl)∧wx.cell? ⟨w.heap.size,0,none⟩=some (.pointer (some ⟨W,0,none⟩))) (by kernel_rfl) (HSS.out w3 (Stays.refl _ _)) ?_
  intro hHeld
  refine zP 2 (v:=?_) ?_ (fun _=>hHeld) ?_
  rotate_left
  ·intro w9;go_simp;try with_reducible rfl
  try simp only [Act.put,zA,zB,zC,zD,zE,zF]
  refine zP 5 (v:=?_) ?_ (fun _=>hHeld) ?_
  rotate_left
  ·intro w9;go_simp;try with_reducible rfl
  try simp only [Act.put,zA,zB,zC,zD,zE,zF]
  refine zP 7 (v:=?_) ?_ (fun _=>hHeld) ?_
  rotate_left
  ·intro w9;go_simp;try with_reducible rfl
  try simp only [Act.put,zA,zB,zC,zD,zE,zF]
  refine zP 11 (v:=?_) ?_ (fun _=>hHeld) ?_
  rotate_left
  ·intro w9;go_simp;try with_reducible rfl
  try simp only [Act.put,zA,zB,zC,zD,zE,zF]
  refine zT 0 [10,13,14] (v:=?_) ?_ hHeld ?_
  rotate_left
  ·intro w9 hS9;(try dsimp only at hS9);obtain ⟨q1,q2,q3,q4,q5⟩:=hS9;go_simp;try with_reducible rfl
  try simp only [Act.put,zA,zB,zC,zD,zE,zF]
  refine zT 1 [4,9,10,13,14] (v:=?_) ?_ hHeld ?_
  rotate_left
  ·intro w9 hS9;(try dsimp only at hS9);obtain ⟨q1,q2,q3,q4,q5⟩:=hS9;go_simp;try with_reducible rfl
  try simp only [Act.put,zA,zB,zC,zD,zE,zF]
  refine zT 3 [4,9,10,13,14] (v:=?_) ?_ hHeld ?_
  rotate_left
  ·intro w9 hS9;(try dsimp only at hS9);obtain ⟨q1,q2,q3,q4,q5⟩:=hS9;go_simp;try with_reducible rfl
  try simp only [Act.put,zA,zB,zC,zD,zE,zF]
  refine zT 6 [9,10,13,14] (v:=?_) ?_ hHeld ?_
  rotate_left
  ·intro w9 hS9;(try dsimp only at hS9);obtain ⟨q1,q2,q3,q4,q5⟩:=hS9;go_simp;try with_reducible rfl
  try simp only [Act.put,zA,zB,zC,zD,zE,zF]
  refine zT 8 [9,10,13,14] (v:=?_) ?_ hHeld ?_
  rotate_left
  ·intro w9 hS9;(try dsimp only at hS9);obtain ⟨q1,q2,q3,q4,q5⟩:=hS9;go_simp;try with_reducible rfl
  try simp only [Act.put,zA,zB,zC,zD,zE,zF]
  refine zT 12 [13,14] (v:=?_) ?_ hHeld ?_
  rotate_left
  ·intro w9 hS9;(try dsimp only at hS9);obtain ⟨q1,q2,q3,q4,q5⟩:=hS9;go_simp;try with_reducible rfl
  try simp only [Act.put,zA,zB,zC,zD,zE,zF]
  refine wpAnyT_next (i:=4) (by kernel_rfl) rfl ?_
  intro K hK
  go_simp
  go_at_call 64
  refine (HMK.out _ (by exact Below.drew (bself w3))).mono ?_
  rintro e _ ⟨rfl,rfl⟩
  go_simp
  have hHeld2:=hHeld
  refine hK.out _ _ (fun _=>hHeld2) ?_
  clear hK K hHeld
  have hHeld:=hHeld2
  clear hHeld2
  try simp only [Act.put,zA,zB,zC,zD,zE,zF]
  refine zP 9 (v:=?_) ?_ (fun _=>hHeld) ?_
  rotate_left
  ·intro w9;go_simp;try with_reducible rfl
  try simp only [Act.put,zA,zB,zC,zD,zE,zF]
  refine wpAnyT_next (i:=10) (by kernel_rfl) rfl ?_
  intro K hK
  go_simp
  go_at_call 63
  refine (HPU.out _ (by exact Below.drew (bself w3))).mono ?_
  rintro e w4 ⟨rfl,a2,q1,q2,q3⟩
  have Q1:=Lib.hid q1
  have Q2:Hid (Stays w3 w4 (RF W a1)):=Lib.hid ((Stays.of_below (Below.drew (bself w3)) _).comp q2)
  have Q3:=Lib.hid q3
  have hs4:=HSS.out w4 Q2.out
  have z4:=HZ3.out.stays Q2.out (fun e=>(HNW.out _ e).1.2 rfl)
  have zd:=z4.get
  have ze:=z4.frozen
  have lz4:=z4.lt
  have HZ4:=Lib.hid z4
  clear q1 q2 q3 z4
  go_simp
  have hHeld2:=hs4
  refine hK.out _ _ (fun _=>hHeld2) ?_
  clear hK K hHeld
  have hHeld:=hHeld2
  clear hHeld2
  try simp only [Act.put,zA,zB,zC,zD,zE,zF]
  refine zP 13 (v:=?_) ?_ (fun _=>hHeld) ?_
  rotate_left
  ·intro w9;go_simp;try with_reducible rfl
  try simp only [Act.put,zA,zB,zC,zD,zE,zF]
  refine wpAnyT_next (i:=14) (by kernel_rfl) rfl ?_
  intro K hK
  go_simp
  refine hK.out _ _ (zN (by kernel_rfl)) ?_
  clear hK K
  refine wpAnyT_done (by kernel_rfl) ?_ _
  have hs3:w.heap.size+1+1<w3.heap.size:=by have:=HB23.out.size;omega
  have HFIN:Hid (∀ w',Stays w4 w' (fun k=>k=w.heap.size+1+1)→RPas w.heap.size w B W a (m+1) (pp.step x ⟨3,td,ti,ta,tb,tc⟩) (.returned (.agg #[.int .i64 0,.bool true,.int .i64 (x.frames.length:Int),.slice none 0 0,.bool false,.int .i64 rl])) w'):=Lib.hid (fun w' hs=>by
   rw [HST.out,HSE2.out]
   refine RPas.plain (r:=({ pp.none_ with put:=true,id:=x.frames.length,left:=rl },pp.putIn x1 (pp.sendSeg x ⟨rc,rf,rd,rn,ra,false,rl⟩) false)) (a1:=a2) rfl Q1.out ((HST2.out.comp (Stays.of_below HB23.out _)).trans Q2.out (fun k hk e=>?_)) (fun k hk=>?_) (hs.mono fun k hk e=>⟨by omega,fun e2=>?_⟩)
   ·rcases HG4.out k e with e2 | e2
    ·exact e2
    ·omega
   ·rcases Q3.out k hk with e | e
    ·exact HG4.out k e
    ·have e':w3.heap.size≤k:=e
     exact .inr (by omega)
   ·rcases Q3.out k e2 with e3 | e3
    ·exact (HNW.out k e3).1.2 e
    ·have e':w3.heap.size≤k:=e3
     omega)
  clear HPU HMK HSS hs4 sd_
  go_wp2
  refine bodyPost_ret (v:=.agg #[.int .i64 0,.bool true,.int .i64 (x.frames.length:Int),.slice none 0 0,.bool false,.int .i64 rl]) (by simp [results,Try.results32,go_sem, *]) rfl (HFIN.out _ ?_)
  exact Stays.sixP _ _ _ _ _ _ _ _
set_option maxRecDepth 100000 in
set_option maxHeartbeats 4000000 in
theorem rpipe_Hop_8 (B W:Nat) (x:pp.Wire) (a:RAd) (m:Nat) (t:Hop) (X:Option Addr) (xc:Nat) (w:World) (h:RAt w B W x a m) {kk:Nat} (hi:pp.Inv x kk) (hk:kk≤1000) (hm:m≤1000) (hX:SlRep Rep.u8 w (· < w.heap.size) t.data X xc) (hid:IntOk t.id) (hat:IntOk t.at_) (hct:IntOk t.count) (hd:t.data.length≤140737488351232) (k8:t.kind=8) :
  Calls Try.prog 32 #[.pointer (some ⟨W,0,none⟩),.agg #[.int .i64 t.kind,.slice X t.data.length xc,.int .i64 t.id,.int .i64 t.at_,.int .u8 t.by_.toNat,.int .i64 t.count]] w (RPas w.heap.size w B W a (m+1) (pp.step x t)):=by
 obtain ⟨tk,td,ti,ta,tb,tc⟩:=t
 simp only at hX hid hat hct hd k8 ⊢
 subst k8
 have HI:=Lib.hid hi
 have hW:=h.blk.lt
 have HWL:=Lib.hid (fun k (hk:RF W a k)=>(h.lt hk).2)
 have hl:x.frames.length≤1000:=Nat.le_trans hi.few hk
 obtain ⟨w1,hw1⟩:∃ w1,w1=((w.alloc (.cells #[.pointer (some ⟨W,0,none⟩)] 92)).alloc (.cells #[.int .i64 8,.slice X td.length xc,.int .i64 ti,.int .i64 ta,.int .u8 tb.toNat,.int .i64 tc] 89)).alloc (.cells #[.int .i64 0,.bool false,.int .i64 0,.slice none 0 0,.bool false,.int .i64 0] 58):=⟨_,rfl⟩
 have hb1:Below w.heap.size w w1:=by rw [hw1];exact balloc (balloc (balloc (bself w) _) _) _
 have hz1:w1.heap.size=w.heap.size+1+1+1:=by rw [hw1];simp
 have HP1:Hid (BlkA w1 w.heap.size 92 #[.pointer (some ⟨W,0,none⟩)]):=Lib.hid (by rw [hw1];exact ((BlkA.new _ _ _).alloc _).alloc _)
 have HH1:Hid (BlkA w1 (w.heap.size+1) 89 #[.int .i64 8,.slice X td.length xc,.int .i64 ti,.int .i64 ta,.int .u8 tb.toNat,.int .i64 tc]):=Lib.hid (by
  rw [hw1]
  have h:=(BlkA.new (w.alloc (.cells #[.pointer (some ⟨W,0,none⟩)] 92)) 89 #[.int .i64 8,.slice X td.length xc,.int .i64 ti,.int .i64 ta,.int .u8 tb.toNat,.int .i64 tc]).alloc (.cells #[.int .i64 0,.bool false,.int .i64 0,.slice none 0 0,.bool false,.int .i64 0] 58)
  simpa using h)
 have HZ1:Hid (BlkA w1 (w.heap.size+1+1) 58 #[.int .i64 0,.bool false,.int .i64 0,.slice none 0 0,.bool false,.int .i64 0]):=Lib.hid (by
  rw [hw1]
  have h:=BlkA.new ((w.alloc (.cells #[.pointer (some ⟨W,0,none⟩)] 92)).alloc (.cells #[.int .i64 8,.slice X td.length xc,.int .i64 ti,.int .i64 ta,.int .u8 tb.toNat,.int .i64 tc] 89)) 58 #[.int .i64 0,.bool false,.int .i64 0,.slice none 0 0,.bool false,.int .i64 0]
  simpa using h)
 have H1:=Lib.hid (h.next hb1)
 have H1u:=Lib.hid ((h.next hb1).up (Nat.le_succ m))
 have HB1:=Lib.hid hb1
 have HX1:=Lib.hid (hX.next hb1)
 have HNZ:Hid (¬ RF W a (w.heap.size+1+1)):=Lib.hid (fun e=>by have:=HWL.out _ e;omega)
 have hd':=HH1.out.get
 have lh:=HH1.out.lt
 have pd:=HP1.out.get 0
 simp only [List.getElem?_toArray,List.getElem?_cons_zero] at pd
 have lp:=HP1.out.lt
 have zd:=HZ1.out.get
 have ze:=HZ1.out.frozen
 have lz:=HZ1.out.lt
 clear h hi hX hb1
 go_enter Try.func32,Try.ntmps32
 go_upto_region 1 with (fail)
 rw [← hw1]
 clear hw1
 have HST:Hid (pp.step x ⟨8,td,ti,ta,tb,tc⟩=pp.comes x ⟨2,0,[],false,tc⟩):=Lib.hid (by unfold pp.step;rw [if_neg (by simp),if_neg (by simp),if_neg (by simp),if_neg (by simp),if_neg (by simp),if_neg (by simp),if_neg (by simp),if_pos rfl])
 have hcn:=H1.out.cnt
 have HD0:=Lib.hid (fun wx (hb:Below w1.heap.size w1 wx)=>ref_Arrival a.I a.Mb a.n x.room x.rcv ⟨2,0,[],false,tc⟩ none 0 (fun _=>False) wx (H1.out.next hb).rcv HI.out.rcv HI.out.room (SlRep.nilW _ _ _) (fun q hq=>hq.elim) ok0 (Nat.zero_le _) (by omega))
 have htb:=rv.told_bd HI.out.rcv HI.out.room ⟨2,0,[],false,tc⟩
 have HCM:Hid (pp.comes x ⟨2,0,[],false,tc⟩=pp.reply { x with rcv:=(rv.doIt x.room x.rcv ⟨2,0,[],false,tc⟩).2 } (rv.doIt x.room x.rcv ⟨2,0,[],false,tc⟩).1):=Lib.hid rfl
 generalize rv.doIt x.room x.rcv ⟨2,0,[],false,tc⟩=rr at *
 obtain ⟨⟨oc,oa,ow,os,od,oe⟩,s'⟩:=rr
 simp only at htb HCM HD0
 have HDO:Hid (∀ wx,Below w1.heap.size w1 wx→Calls Try.prog 23 #[.pointer (some ⟨a.I,0,none⟩),.agg #[.int .i64 2,.int .i64 0,.slice none 0 0,.bool false,.int .i64 tc]] wx (TellRf wx a.I a.Mb a.n x.room (⟨oc,oa,ow,os,od,oe⟩,s'))):=Lib.hid (fun wx hb=>HD0.out wx hb)
 have HAN:Hid (∀ (wq w5:World) (n5:Nat) (X5:Option Addr) (xc5:Nat) (Y5:Option Addr) (yc5:Nat),Below w1.heap.size w1 wq→n5≤a.n+64→SlRep Rng.rep w5 (fun k=>wq.heap.size≤k∧k<w5.heap.size) os X5 xc5→SlRep Rep.u8 w5 (fun k=>wq.heap.size≤k∧k<w5.heap.size) od Y5 yc5→IS w5 a.I a.Mb n5 x.room s'→Stays wq w5 (GM a.I a.Mb)→Calls Try.prog 67 #[.pointer (some ⟨W,0,none⟩),.agg #[.int .i64 oc,.int .i64 oa,.int .i64 ow,.slice X5 os.length xc5,.slice Y5 od.length yc5,.bool oe]] w5 (RPas w1.heap.size w1 B W a (m+1) (pp.reply { x with rcv:=s' } ⟨oc,oa,ow,os,od,oe⟩))):=Lib.hid (fun wq w5 n5 X5 xc5 Y5 yc5 hb g0 g5 g6 g3 g2=>by
  have hq:=H1.out.next hb
  have h8:=hq.putRcv (g2.mono fun _ _ e=>e) g3 g0
  have hs:Stays w1 w5 (RF W a):=(Stays.of_below hb _).trans g2 (fun k hk e=>.inr (.inr (.inl e)))
  have h5:=rpipe_answer w1.heap.size B W { x with rcv:=s' } { a with n:=n5 } (m+1) ⟨oc,oa,ow,os,od,oe⟩ X5 xc5 Y5 yc5 _ w5 h8 HI.out.first hl g5 g6 (fun k hk=>⟨Nat.le_trans hb.size hk.1,hk.2,fun e=>by have e2:RF W a k:=e;have:=(hq.lt e2).2;have:=hk.1;omega⟩) hs.size htb.1 htb.2.1 htb.2.2.1 (Nat.le_trans htb.2.2.2 (by decide))
  refine h5.mono ?_
  rintro e w6 ⟨cs,a2,he,r1,r2,r3,r4⟩
  exact ⟨cs,a2,he,r1,r2,hs.comp r3,fun k hk=>(r4 k hk).imp (fun e=>e) (fun e=>Nat.le_trans hs.size e)⟩)
 have HFIN:Hid (∀ (w2 w':World) (e:Ending),RPas w1.heap.size w1 B W a (m+1) (pp.reply { x with rcv:=s' } ⟨oc,oa,ow,os,od,oe⟩) e w2→Stays w2 w' (fun q=>q=w.heap.size+1+1)→RPas w.heap.size w B W a (m+1) (pp.step x ⟨8,td,ti,ta,tb,tc⟩) e w'):=Lib.hid (fun w2 w' e hr hs=>by
  rw [HST.out,HCM.out]
  exact RPas.lift HB1.out (by omega) HWL.out hr hs (Nat.le_refl _))
 have HSS:Hid (∀ wx,Stays w1 wx (GM a.I a.Mb)→wx.cell? ⟨w.heap.size,0,none⟩=some (.pointer (some ⟨W,0,none⟩))∧wx.cell? ⟨W,2,none⟩=some (.pointer (some ⟨a.I,0,none⟩))∧wx.cell? ⟨w.heap.size+1,5,none⟩=some (.int .i64 tc)):=Lib.hid (fun wx hs=>⟨(HP1.out.stays hs (fun e=>by have:=HWL.out _ (.inr (.inr (.inl e)));omega)).get 0,(H1.out.blk.stays hs (fun e=>H1.out.dW _ (.inr (.inl e)) rfl)).get 2,(HH1.out.stays hs (fun e=>by have:=HWL.out _ (.inr (.inr (.inl e)));omega)).get 5⟩)
 have lW:=H1.out.blk.lt
 generalize pp.reply { x with rcv:=s' } ⟨oc,oa,ow,os,od,oe⟩=r at *
 obtain ⟨⟨pc,pu,pi,pd',pe,pl⟩,x2⟩:=r
 clear HD0
 go_upto_region 34 with (fail)
 refine wp_region_tail [9,10] (fun wx=>wx.cell? ⟨w.heap.size,0,none⟩=some (.pointer (some ⟨W,0,none⟩))∧wx.cell? ⟨W,2,none⟩=some (.pointer (some ⟨a.I,0,none⟩))∧wx.cell? ⟨w.heap.size+1,5,none⟩=some (.int .i64 tc)) (by kernel_rfl) (HSS.out w1 (Stays.refl _ _)) ?_
 intro hHeld
 refine zP 5 (v:=?_) ?_ (fun _=>hHeld) ?_
 rotate_left
 ·intro w9;go_simp;try with_reducible rfl
 try simp only [Act.put,zA,zB,zC,zD,zE,zF]
 refine zT 0 [9,10] (v:=?_) ?_ hHeld ?_
 rotate_left
 ·intro w9 hS9;(try dsimp only at hS9);obtain ⟨q1,q2,q3⟩:=hS9;go_simp;try with_reducible rfl
 try simp only [Act.put,zA,zB,zC,zD,zE,zF]
 refine zT 1 [2,3,4,8,9,10] (v:=?_) ?_ hHeld ?_
 rotate_left
 ·intro w9 hS9;(try dsimp only at hS9);obtain ⟨q1,q2,q3⟩:=hS9;go_simp;try with_reducible rfl
 try simp only [Act.put,zA,zB,zC,zD,zE,zF]
 refine zP 2 (v:=?_) ?_ (fun _=>hHeld) ?_
 rotate_left
 ·intro w9;go_simp;try with_reducible rfl
 try simp only [Act.put,zA,zB,zC,zD,zE,zF]
 refine zP 3 (v:=?_) ?_ (fun _=>hHeld) ?_
 rotate_left
 ·intro w9;go_simp;try with_reducible rfl
 try simp only [Act.put,zA,zB,zC,zD,zE,zF]
 refine zT 4 [8,9,10] (v:=?_) ?_ hHeld ?_
 rotate_left
 ·intro w9 hS9;(try dsimp only at hS9);obtain ⟨q1,q2,q3⟩:=hS9;go_simp;try with_reducible rfl
 try simp only [Act.put,zA,zB,zC,zD,zE,zF]
 refine zT 6 [7,8,9,10] (v:=?_) ?_ hHeld ?_
 rotate_left
 ·intro w9 hS9;(try dsimp only at hS9);obtain ⟨q1,q2,q3⟩:=hS9;go_simp;try with_reducible rfl
 try simp only [Act.put,zA,zB,zC,zD,zE,zF]
 refine zP 7 (v:=?_) ?_ (fun _=>hHeld) ?_
 rotate_left
 ·intro w9;go_simp;try with_reducible rfl
 try simp only [Act.put,zA,zB,zC,zD,zE,zF]
 refine wpAnyT_next (i:=8) (by kernel_rfl) rfl ?_
 intro K hK
 go_simp
 go_at_call 23
 refine (HDO.out _ (by exact (by repeat (first | (with_reducible first | exact Below.refl _ _ | assumption | refine bset ?_ ?_ _ | refine balloc ?_ _ | refine Below.drew ?_ | refine bdrewN ?_ _ | refine bnext ?_ (by with_reducible assumption)) | exact Nat.le_refl _ | (simp;done) | omega | (simp;omega))))).mono ?_
 rintro e w5 ⟨cs,n5,rfl,g0,g1,g3,g2⟩
 obtain ⟨X5,xc5,Y5,yc5,rfl,g5,g6⟩:=Told.rep_iff.1 g1
 have HC:=Lib.hid (HAN.out _ _ _ _ _ _ _ (by exact (by repeat (first | (with_reducible first | exact Below.refl _ _ | assumption | refine bset ?_ ?_ _ | refine balloc ?_ _ | refine Below.drew ?_ | refine bdrewN ?_ _ | refine bnext ?_ (by with_reducible assumption)) | exact Nat.le_refl _ | (simp;done) | omega | (simp;omega)))) g0 g5 g6 g3 g2)
 have hs5:=HSS.out w5 ((Stays.of_below (by exact (by repeat (first | (with_reducible first | exact Below.refl _ _ | assumption | refine bset ?_ ?_ _ | refine balloc ?_ _ | refine Below.drew ?_ | refine bdrewN ?_ _ | refine bnext ?_ (by with_reducible assumption)) | exact Nat.le_refl _ | (simp;done) | omega | (simp;omega)))) _).comp g2)
 clear g0 g1 g2 g3 g5 g6
 go_simp
 have hHeld2:=hs5
 refine hK.out _ _ (fun _=>hHeld2) ?_
 clear hK K hHeld
 have hHeld:=hHeld2
 clear hHeld2
 try simp only [Act.put,zA,zB,zC,zD,zE,zF]
 refine wpAnyT_next (i:=9) (by kernel_rfl) rfl ?_
 intro K hK
 go_simp
 go_at_call 67
 refine HC.out.mono ?_
 rintro e w6 hr
 obtain ⟨cs,a2,rfl,r1,r2,r3,r4⟩:=id hr
 obtain ⟨Y,yc,rfl,r5⟩:=Passed.rep_iff.1 r1
 have HRS:=Lib.hid hr
 have z2:=HZ1.out.stays r3 HNZ.out
 have zd:=z2.get
 have ze:=z2.frozen
 have lz2:=z2.lt
 clear hr r1 r2 r3 r4 r5 z2
 go_simp
 refine hK.out _ _ (zN (by kernel_rfl)) ?_
 clear hK K
 try simp only [Act.put,zA,zB,zC,zD,zE,zF]
 refine wpAnyT_next (i:=10) (by kernel_rfl) rfl ?_
 intro K hK
 go_simp
 refine hK.out _ _ (zN (by kernel_rfl)) ?_
 clear hK K
 refine wpAnyT_done (by kernel_rfl) ?_ _
 go_wp2
 refine bodyPost_ret (v:=.agg #[.int .i64 pc,.bool pu,.int .i64 pi,.slice Y pd'.length yc,.bool pe,.int .i64 pl]) (by simp [results,Try.results32,go_sem, *]) rfl (HFIN.out _ _ _ HRS.out ?_)
 exact Stays.sixP _ _ _ _ _ _ _ _
set_option maxRecDepth 100000 in
set_option maxHeartbeats 4000000 in
theorem rpipe_Hop_0 (B W:Nat) (x:pp.Wire) (a:RAd) (m:Nat) (t:Hop) (X:Option Addr) (xc:Nat) (w:World) (h:RAt w B W x a m) {kk:Nat} (hi:pp.Inv x kk) (hk:kk≤1000) (hm:m≤1000) (hX:SlRep Rep.u8 w (· < w.heap.size) t.data X xc) (hid:IntOk t.id) (hat:IntOk t.at_) (hct:IntOk t.count) (hd:t.data.length≤140737488351232) (k1:¬ t.kind=1) (k2:¬ t.kind=2) (k7:¬ t.kind=7) (k3:¬ t.kind=3) (k4:¬ t.kind=4) (k5:¬ t.kind=5) (k8:¬ t.kind=8) (k6:¬ t.kind=6) :
  Calls Try.prog 32 #[.pointer (some ⟨W,0,none⟩),.agg #[.int .i64 t.kind,.slice X t.data.length xc,.int .i64 t.id,.int .i64 t.at_,.int .u8 t.by_.toNat,.int .i64 t.count]] w (RPas w.heap.size w B W a (m+1) (pp.step x t)):=by
 obtain ⟨tk,td,ti,ta,tb,tc⟩:=t
 simp only at hX hid hat hct hd k1 k2 k7 k3 k4 k5 k8 k6 ⊢
 have HI:=Lib.hid hi
 have hW:=h.blk.lt
 have HWL:=Lib.hid (fun k (hk:RF W a k)=>(h.lt hk).2)
 have hl:x.frames.length≤1000:=Nat.le_trans hi.few hk
 obtain ⟨w1,hw1⟩:∃ w1,w1=((w.alloc (.cells #[.pointer (some ⟨W,0,none⟩)] 92)).alloc (.cells #[.int .i64 tk,.slice X td.length xc,.int .i64 ti,.int .i64 ta,.int .u8 tb.toNat,.int .i64 tc] 89)).alloc (.cells #[.int .i64 0,.bool false,.int .i64 0,.slice none 0 0,.bool false,.int .i64 0] 58):=⟨_,rfl⟩
 have hb1:Below w.heap.size w w1:=by rw [hw1];exact balloc (balloc (balloc (bself w) _) _) _
 have hz1:w1.heap.size=w.heap.size+1+1+1:=by rw [hw1];simp
 have HP1:Hid (BlkA w1 w.heap.size 92 #[.pointer (some ⟨W,0,none⟩)]):=Lib.hid (by rw [hw1];exact ((BlkA.new _ _ _).alloc _).alloc _)
 have HH1:Hid (BlkA w1 (w.heap.size+1) 89 #[.int .i64 tk,.slice X td.length xc,.int .i64 ti,.int .i64 ta,.int .u8 tb.toNat,.int .i64 tc]):=Lib.hid (by
  rw [hw1]
  have h:=(BlkA.new (w.alloc (.cells #[.pointer (some ⟨W,0,none⟩)] 92)) 89 #[.int .i64 tk,.slice X td.length xc,.int .i64 ti,.int .i64 ta,.int .u8 tb.toNat,.int .i64 tc]).alloc (.cells #[.int .i64 0,.bool false,.int .i64 0,.slice none 0 0,.bool false,.int .i64 0] 58)
  simpa using h)
 have HZ1:Hid (BlkA w1 (w.heap.size+1+1) 58 #[.int .i64 0,.bool false,.int .i64 0,.slice none 0 0,.bool false,.int .i64 0]):=Lib.hid (by
  rw [hw1]
  have h:=BlkA.new ((w.alloc (.cells #[.pointer (some ⟨W,0,none⟩)] 92)).alloc (.cells #[.int .i64 tk,.slice X td.length xc,.int .i64 ti,.int .i64 ta,.int .u8 tb.toNat,.int .i64 tc] 89)) 58 #[.int .i64 0,.bool false,.int .i64 0,.slice none 0 0,.bool false,.int .i64 0]
  simpa using h)
 have H1:=Lib.hid (h.next hb1)
 have H1u:=Lib.hid ((h.next hb1).up (Nat.le_succ m))
 have HB1:=Lib.hid hb1
 have HX1:=Lib.hid (hX.next hb1)
 have HNZ:Hid (¬ RF W a (w.heap.size+1+1)):=Lib.hid (fun e=>by have:=HWL.out _ e;omega)
 have hd':=HH1.out.get
 have lh:=HH1.out.lt
 have pd:=HP1.out.get 0
 simp only [List.getElem?_toArray,List.getElem?_cons_zero] at pd
 have lp:=HP1.out.lt
 have zd:=HZ1.out.get
 have ze:=HZ1.out.frozen
 have lz:=HZ1.out.lt
 clear h hi hX hb1
 go_enter Try.func32,Try.ntmps32
 go_upto_region 1 with (fail)
 rw [← hw1]
 clear hw1
 have e1:(tk == 1)=false:=by simpa using k1
 have e2:(tk == 2)=false:=by simpa using k2
 have e7:(tk == 7)=false:=by simpa using k7
 have e3:(tk == 3)=false:=by simpa using k3
 have e4:(tk == 4)=false:=by simpa using k4
 have e5:(tk == 5)=false:=by simpa using k5
 have e8:(tk == 8)=false:=by simpa using k8
 have e6:(tk == 6)=false:=by simpa using k6
 have HST:Hid (pp.step x ⟨tk,td,ti,ta,tb,tc⟩=(pp.no 3,x)):=Lib.hid (by unfold pp.step;rw [if_neg k1,if_neg k2,if_neg k7,if_neg k3,if_neg k4,if_neg k5,if_neg k6,if_neg k8])
 have HFIN:Hid (∀ w',Stays w1 w' (fun q=>q=w.heap.size+1+1)→RPas w.heap.size w B W a (m+1) (pp.step x ⟨tk,td,ti,ta,tb,tc⟩) (.returned (.agg #[.int .i64 3,.bool false,.int .i64 0,.slice none 0 0,.bool false,.int .i64 0])) w'):=Lib.hid (fun w' hs=>by
  rw [HST.out]
  exact RPas.plain (r:=(pp.no 3,x)) (a1:=a) rfl H1u.out (Stays.of_below HB1.out _) (fun k hk=>.inl hk) (hs.mono fun q hq e=>⟨by omega,fun e2=>HNZ.out (e ▸ e2)⟩))
 go_wp2
 refine bodyPost_ret (v:=.agg #[.int .i64 3,.bool false,.int .i64 0,.slice none 0 0,.bool false,.int .i64 0]) (by simp [results,Try.results32,go_sem, *]) rfl (HFIN.out _ ?_)
 exact Stays.sixP _ _ _ _ _ _ _ _
end Go.Proofs.Ytdldfllllgogoaa
namespace Go.Proofs.Ytdldfllllgogoaa
open Go.RowKit
set_option linter.unusedSimpArgs false
set_option maxRecDepth 100000 in
set_option maxHeartbeats 4000000 in
theorem rpipe_Hop_4 (B W:Nat) (x:pp.Wire) (a:RAd) (m:Nat) (t:Hop) (X:Option Addr) (xc:Nat) (w:World) (h:RAt w B W x a m) {kk:Nat} (hi:pp.Inv x kk) (hk:kk≤1000) (hm:m≤1000) (hX:SlRep Rep.u8 w (· < w.heap.size) t.data X xc) (hid:IntOk t.id) (hat:IntOk t.at_) (hct:IntOk t.count) (hd:t.data.length≤140737488351232) (k4:t.kind=4) :
  Calls Try.prog 32 #[.pointer (some ⟨W,0,none⟩),.agg #[.int .i64 t.kind,.slice X t.data.length xc,.int .i64 t.id,.int .i64 t.at_,.int .u8 t.by_.toNat,.int .i64 t.count]] w (RPas w.heap.size w B W a (m+1) (pp.step x t)):=by
 obtain ⟨tk,td,ti,ta,tb,tc⟩:=t
 simp only at hX hid hat hct hd k4 ⊢
 subst k4
 have HI:=Lib.hid hi
 have hW:=h.blk.lt
 have HWL:=Lib.hid (fun k (hk:RF W a k)=>(h.lt hk).2)
 have hl:x.frames.length≤1000:=Nat.le_trans hi.few hk
 obtain ⟨w1,hw1⟩:∃ w1,w1=((w.alloc (.cells #[.pointer (some ⟨W,0,none⟩)] 92)).alloc (.cells #[.int .i64 4,.slice X td.length xc,.int .i64 ti,.int .i64 ta,.int .u8 tb.toNat,.int .i64 tc] 89)).alloc (.cells #[.int .i64 0,.bool false,.int .i64 0,.slice none 0 0,.bool false,.int .i64 0] 58):=⟨_,rfl⟩
 have hb1:Below w.heap.size w w1:=by rw [hw1];exact balloc (balloc (balloc (bself w) _) _) _
 have hz1:w1.heap.size=w.heap.size+1+1+1:=by rw [hw1];simp
 have HP1:Hid (BlkA w1 w.heap.size 92 #[.pointer (some ⟨W,0,none⟩)]):=Lib.hid (by rw [hw1];exact ((BlkA.new _ _ _).alloc _).alloc _)
 have HH1:Hid (BlkA w1 (w.heap.size+1) 89 #[.int .i64 4,.slice X td.length xc,.int .i64 ti,.int .i64 ta,.int .u8 tb.toNat,.int .i64 tc]):=Lib.hid (by
  rw [hw1]
  have h:=(BlkA.new (w.alloc (.cells #[.pointer (some ⟨W,0,none⟩)] 92)) 89 #[.int .i64 4,.slice X td.length xc,.int .i64 ti,.int .i64 ta,.int .u8 tb.toNat,.int .i64 tc]).alloc (.cells #[.int .i64 0,.bool false,.int .i64 0,.slice none 0 0,.bool false,.int .i64 0] 58)
  simpa using h)
 have HZ1:Hid (BlkA w1 (w.heap.size+1+1) 58 #[.int .i64 0,.bool false,.int .i64 0,.slice none 0 0,.bool false,.int .i64 0]):=Lib.hid (by
  rw [hw1]
  have h:=BlkA.new ((w.alloc (.cells #[.pointer (some ⟨W,0,none⟩)] 92)).alloc (.cells #[.int .i64 4,.slice X td.length xc,.int .i64 ti,.int .i64 ta,.int .u8 tb.toNat,.int .i64 tc] 89)) 58 #[.int .i64 0,.bool false,.int .i64 0,.slice none 0 0,.bool false,.int .i64 0]
  simpa using h)
 have H1:=Lib.hid (h.next hb1)
 have H1u:=Lib.hid ((h.next hb1).up (Nat.le_succ m))
 have HB1:=Lib.hid hb1
 have HX1:=Lib.hid (hX.next hb1)
 have HNZ:Hid (¬ RF W a (w.heap.size+1+1)):=Lib.hid (fun e=>by have:=HWL.out _ e;omega)
 have hd':=HH1.out.get
 have lh:=HH1.out.lt
 have pd:=HP1.out.get 0
 simp only [List.getElem?_toArray,List.getElem?_cons_zero] at pd
 have lp:=HP1.out.lt
 have zd:=HZ1.out.get
 have ze:=HZ1.out.frozen
 have lz:=HZ1.out.lt
 clear h hi hX hb1
 go_enter Try.func32,Try.ntmps32
 go_upto_region 1 with (fail)
 rw [← hw1]
 clear hw1
 have HST:Hid (pp.step x ⟨4,td,ti,ta,tb,tc⟩=(pp.no (pp.hit x ⟨4,td,ti,ta,tb,tc⟩).1,(pp.hit x ⟨4,td,ti,ta,tb,tc⟩).2)):=Lib.hid (by unfold pp.step;rw [if_neg (by simp),if_neg (by simp),if_neg (by simp),if_neg (by simp),if_pos rfl])
 unfold IntOk at hid hat
 have hlen:=H1.out.len
 have hW1:=H1.out.blk.lt
 have p3:=H1.out.ptrF
 rw [hlen] at hl
 have HNO:Hid (∀ (c:Int) wx w',pp.hit x ⟨4,td,ti,ta,tb,tc⟩=(c,x)→Below w1.heap.size w1 wx→Stays wx w' (fun q=>q=w.heap.size+1+1)→RPas w.heap.size w B W a (m+1) (pp.step x ⟨4,td,ti,ta,tb,tc⟩) (.returned (.agg #[.int .i64 c,.bool false,.int .i64 0,.slice none 0 0,.bool false,.int .i64 0])) w'):=Lib.hid (fun c wx w' hc hb hs=>by
  rw [HST.out,hc]
  exact RPas.plain (r:=(pp.no c,x)) (a1:=a) rfl (H1u.out.next hb) (Stays.of_below (bnext HB1.out hb) _) (fun k hk=>.inl hk) (hs.mono fun q hq e=>⟨by omega,fun e2=>HNZ.out (e ▸ e2)⟩))
 by_cases j1:ti<0
 ·have HE:Hid (pp.hit x ⟨4,td,ti,ta,tb,tc⟩=(7,x)):=Lib.hid (by unfold pp.hit;rw [if_pos (.inl j1)])
  have q1:decide (ti<0)=true:=by simpa using j1
  go_upto_region 15 with (fail)
  go_quiet (fail)
  go_wp2
  refine bodyPost_ret (v:=.agg #[.int .i64 7,.bool false,.int .i64 0,.slice none 0 0,.bool false,.int .i64 0]) (by simp [results,Try.results32,go_sem, *]) rfl (HNO.out 7 _ _ HE.out ?_ (Stays.sixP _ _ _ _ _ _ _ _))
  exact bdrewN (bself _) _
 have q1:decide (ti<0)=false:=by simpa using j1
 by_cases j2:(a.fa.length:Int)≤ti
 ·have HE:Hid (pp.hit x ⟨4,td,ti,ta,tb,tc⟩=(7,x)):=Lib.hid (by unfold pp.hit;rw [if_pos (.inr (by simp only;omega))])
  have q2:decide ((a.fa.length:Int)≤ti)=true:=by simpa using j2
  go_upto_region 15 with (fail)
  go_quiet (fail)
  go_wp2
  refine bodyPost_ret (v:=.agg #[.int .i64 7,.bool false,.int .i64 0,.slice none 0 0,.bool false,.int .i64 0]) (by simp [results,Try.results32,go_sem, *]) rfl (HNO.out 7 _ _ HE.out ?_ (Stays.sixP _ _ _ _ _ _ _ _))
  exact bdrewN (bself _) _
 have q2:decide ((a.fa.length:Int)≤ti)=false:=by simpa using j2
 obtain ⟨i,rfl⟩:∃ i:Nat,ti=i:=⟨ti.toNat,by omega⟩
 have hi2:i<a.fa.length:=by omega
 obtain ⟨g,hg,hgB,hgl,d0,d1,d2⟩:=H1.out.frs.at_ hi2
 have hgD:=H1.out.getD i
 have HROW:=Lib.hid (H1.out.frs.row hi2)
 have hsz1:(a.fa.getD i FrA.z).fr.bytes.length≤86:=by rw [← hgD];exact HI.out.size _ (pp.getD_mem (by omega))
 obtain ⟨f,hf⟩:∃ f,f=a.fa.getD i FrA.z:=⟨_,rfl⟩
 rw [← hf] at d0 d1 d2 hgD HROW hsz1
 have HHIT:Hid (pp.hit x ⟨4,td,i,ta,tb,tc⟩=if ta<0∨(f.fr.bytes.length:Int)≤ta then (2,x) else if f.fr.hit=true then (8,x) else (0,{ x with frames:=x.frames.set i (pp.hitAt f.fr ta.toNat tb) })):=Lib.hid (by
  unfold pp.hit
  rw [if_neg (by simp only;omega)]
  simp only [Int.toNat_natCast]
  rw [hgD])
 have HF:=Lib.hid hf
 have hi':(i:Int)<(a.fa.length:Int):=by omega
 clear hgD hf j1 j2
 rw [hg] at p3
 have HG:=Lib.hid hg
 clear hg
 by_cases j3:ta<0
 ·have HE:Hid (pp.hit x ⟨4,td,i,ta,tb,tc⟩=(2,x)):=Lib.hid (by rw [HHIT.out,if_pos (.inl j3)])
  have q3:decide (ta<0)=true:=by simpa using j3
  go_upto_region 15 with (fail)
  go_quiet (fail)
  go_wp2
  go_quiet (fail)
  go_wp2
  go_quiet (fail)
  go_wp2
  refine bodyPost_ret (v:=.agg #[.int .i64 2,.bool false,.int .i64 0,.slice none 0 0,.bool false,.int .i64 0]) (by simp [results,Try.results32,go_sem, *]) rfl (HNO.out 2 _ _ HE.out ?_ (Stays.sixP _ _ _ _ _ _ _ _))
  exact (by repeat (first | (with_reducible first | exact Below.refl _ _ | assumption | refine bset ?_ ?_ _ | refine balloc ?_ _ | refine Below.drew ?_ | refine bdrewN ?_ _ | refine bnext ?_ (by with_reducible assumption)) | exact Nat.le_refl _ | (simp;done) | omega | (simp;omega)))
 have q3:decide (ta<0)=false:=by simpa using j3
 by_cases j4:(f.fr.bytes.length:Int)≤ta
 ·have HE:Hid (pp.hit x ⟨4,td,i,ta,tb,tc⟩=(2,x)):=Lib.hid (by rw [HHIT.out,if_pos (.inr j4)])
  have q4:decide ((f.fr.bytes.length:Int)≤ta)=true:=by simpa using j4
  go_upto_region 15 with (fail)
  go_quiet (fail)
  go_wp2
  go_quiet (fail)
  go_wp2
  go_quiet (fail)
  go_wp2
  refine bodyPost_ret (v:=.agg #[.int .i64 2,.bool false,.int .i64 0,.slice none 0 0,.bool false,.int .i64 0]) (by simp [results,Try.results32,go_sem, *]) rfl (HNO.out 2 _ _ HE.out ?_ (Stays.sixP _ _ _ _ _ _ _ _))
  exact (by repeat (first | (with_reducible first | exact Below.refl _ _ | assumption | refine bset ?_ ?_ _ | refine balloc ?_ _ | refine Below.drew ?_ | refine bdrewN ?_ _ | refine bnext ?_ (by with_reducible assumption)) | exact Nat.le_refl _ | (simp;done) | omega | (simp;omega)))
 have q4:decide ((f.fr.bytes.length:Int)≤ta)=false:=by simpa using j4
 cases hh:f.fr.hit with
 | true=>
  have HE:Hid (pp.hit x ⟨4,td,i,ta,tb,tc⟩=(8,x)):=Lib.hid (by rw [HHIT.out,if_neg (by omega),if_pos hh])
  rw [hh] at d2
  clear hh
  go_upto_region 15 with (fail)
  go_quiet (fail)
  go_wp2
  go_quiet (fail)
  go_wp2
  go_quiet (fail)
  go_wp2
  refine bodyPost_ret (v:=.agg #[.int .i64 8,.bool false,.int .i64 0,.slice none 0 0,.bool false,.int .i64 0]) (by simp [results,Try.results32,go_sem, *]) rfl (HNO.out 8 _ _ HE.out ?_ (Stays.sixP _ _ _ _ _ _ _ _))
  exact (by repeat (first | (with_reducible first | exact Below.refl _ _ | assumption | refine bset ?_ ?_ _ | refine balloc ?_ _ | refine Below.drew ?_ | refine bdrewN ?_ _ | refine bnext ?_ (by with_reducible assumption)) | exact Nat.le_refl _ | (simp;done) | omega | (simp;omega)))
 | false=>
  obtain ⟨n,rfl⟩:∃ n:Nat,ta=n:=⟨ta.toNat,by omega⟩
  have hn:n<f.fr.bytes.length:=by omega
  have HE:Hid (pp.hit x ⟨4,td,i,n,tb,tc⟩=(0,{ x with frames:=x.frames.set i (pp.hitAt f.fr n tb) })):=Lib.hid (by
   rw [HHIT.out,if_neg (by omega),if_neg (by rw [hh];decide)]
   rfl)
  rw [hh] at d2
  obtain ⟨fb,hfb,_,lfb,yd⟩:=HROW.out.cell (j:=n) (u:=.int .u8 ((f.fr.bytes.getD n 0).toNat:Int)) (by rw [List.getElem?_map,List.getElem?_eq_getElem hn,List.getD_eq_getElem?_getD,List.getElem?_eq_getElem hn];rfl)
  have hn':(n:Int)<(f.fr.bytes.length:Int):=by omega
  have q4':decide (f.fr.bytes.length≤n)=false:=by simpa using hn
  rw [hfb] at d0
  have HFB:=Lib.hid hfb
  obtain ⟨y,hy⟩:∃ y,f.fr.bytes.getD n 0=y:=⟨_,rfl⟩
  rw [hy] at yd
  have HY:=Lib.hid hy
  have hxor:=xor_u8 y tb
  have x3:=hd' 3
  have x4:=hd' 4
  simp only [List.getElem?_toArray,List.getElem?_cons_succ,List.getElem?_cons_zero] at x3 x4
  have ffr:=HROW.out
  rw [hfb] at ffr
  have ff:=ffr.frozenAt n
  have hgfb:g≠fb:=fun e=>by
   have h5:=H1.out.frs.rowApart u8NePost (List.mem_of_getElem? (getD_some hi2)) (k:=fb) (by rw [← HF.out,hfb];rfl)
   rw [HG.out] at h5
   exact h5 (by rw [e];rfl)
  have hgo:=H1.out.frs.own
  rw [HG.out] at hgo
  have fg:=hgo.frozenAt (i * 3+2)
  clear hfb hy hh ffr hgo j3 j4
  go_upto_region 15 with (fail)
  go_quiet (fail)
  go_wp2
  go_quiet (fail)
  go_wp2
  go_quiet (fail)
  go_upto_region 22 with (fail)
  generalize hw2:World.drewN w1 _=w2
  have hb2:Below w1.heap.size w1 w2:=by rw [← hw2];exact bdrewN (bself _) _
  have H2:=Lib.hid (H1u.out.next hb2)
  have x3:=(hb2.cell (p:=⟨w.heap.size+1,3,none⟩) lh).trans x3
  have x4:=(hb2.cell (p:=⟨w.heap.size+1,4,none⟩) lh).trans x4
  have d0:=(hb2.cell (p:=⟨g,i * 3,none⟩) hgl).trans d0
  have d2:=(hb2.cell (p:=⟨g,i * 3+2,none⟩) hgl).trans d2
  have yd:=(hb2.cell (p:=⟨fb,n,none⟩) lfb).trans yd
  have ff:=(hb2.frozen (p:=⟨fb,n,none⟩) lfb).trans ff
  have fg:=(hb2.frozen (p:=⟨g,i * 3+2,none⟩) hgl).trans fg
  have hg2:g<w2.heap.size:=Nat.lt_of_lt_of_le hgl hb2.size
  have hfb2:fb<w2.heap.size:=Nat.lt_of_lt_of_le lfb hb2.size
  have HZ2:=Lib.hid (HZ1.out.next hb2)
  have HB2:=Lib.hid (bnext HB1.out hb2)
  have hfbg:fb≠g:=fun e=>hgfb e.symm
  have hgB1:=HWL.out g (.inr (.inr (.inr (.inl (by rw [HG.out];rfl)))))
  have hfbB1:=HWL.out fb (.inr (.inr (.inr (.inr ⟨f,by rw [HF.out];exact List.mem_of_getElem? (getD_some hi2),by rw [HFB.out];rfl⟩))))
  have HFIN:Hid (∀ w5 w',w5=((w2.setCell ⟨g,i * 3+2,none⟩ (.bool true)).setCell ⟨fb,n,none⟩ (.int .u8 ((y ^^^ tb).toNat:Int))).drew→Stays w5 w' (fun k=>k=w.heap.size+1+1)→RPas w.heap.size w B W a (m+1) (pp.step x ⟨4,td,i,n,tb,tc⟩) (.returned (.agg #[.int .i64 0,.bool false,.int .i64 0,.slice none 0 0,.bool false,.int .i64 0])) w'):=Lib.hid (fun w5 w' hw5 hs5=>by
   rw [HST.out,HE.out]
   have hm:=List.mem_of_getElem? (getD_some hi2)
   have e2:=H2.out.frs.setHit u8NePost hi2 HG.out true
   have hgd:(a.fa.set i ⟨{ (a.fa.getD i FrA.z).fr with hit:=true },(a.fa.getD i FrA.z).A,(a.fa.getD i FrA.z).c⟩).getD i FrA.z=⟨{ (a.fa.getD i FrA.z).fr with hit:=true },(a.fa.getD i FrA.z).A,(a.fa.getD i FrA.z).c⟩:=by
    rw [List.getD_eq_getElem?_getD,List.getElem?_set_self hi2]
    rfl
   have e3:=e2.setByte u8NePost (i:=i) (by rw [List.length_set];exact hi2) (g:=fb) (by rw [hgd,← HF.out];exact HFB.out) n (y ^^^ tb)
   rw [hgd,List.set_set] at e3
   have e3:=e3.next (Below.drew (bself _))
   have st:Stays w2 w5 a.fF:=by
    rw [hw5]
    refine (((Stays.set _ _ _ _).mono fun k _ e=>?_).comp ((Stays.set _ _ _ _).mono fun k _ e=>?_)).comp (Stays.of_below (Below.drew (bself _)) _)
    ·exact .inl (by rw [HG.out,e];rfl)
    ·exact .inr ⟨_,hm,by rw [← HF.out,HFB.out,e];rfl⟩
   obtain ⟨h8,h9⟩:=H2.out.setFrs (fs:=x.frames.set i (pp.hitAt f.fr n tb)) st (by rw [hw5];exact e3) (by rw [List.length_set]) (fun k=>FrF.set hi2) (by
    rw [H2.out.same,List.map_set,← HF.out]
    show _=List.set _ i (pp.Fr.mk (f.fr.bytes.set n (y ^^^ tb)) f.fr.back true)
    unfold pp.hitAt
    rw [HY.out])
   exact RPas.plain (r:=(pp.no 0,{ x with frames:=x.frames.set i (pp.hitAt f.fr n tb) })) rfl h8 ((Stays.of_below HB2.out _).trans st (fun k hk e=>.inr (.inr (.inr e)))) (fun k hk=>(h9 k hk).imp id (fun e=>Nat.le_trans HB2.out.size e)) (hs5.mono fun q hq e=>⟨by omega,fun e2=>by
    subst e
    rcases h9 _ e2 with e3 | e3
    ·exact HNZ.out e3
    ·have:=HZ2.out.lt;omega⟩))
  clear hb2 hgl lfb hw2
  go_upto_region 23 with (fail)
  generalize hw3:World.setCell w2 _ _=w3
  have x3:w3.cell? ⟨w.heap.size+1,3,none⟩=some (.int .i64 (n:Int)):=by rw [← hw3];exact (World.cell?_setCell_far _ _ _ _ (by simp only;omega)).trans x3
  have x4:w3.cell? ⟨w.heap.size+1,4,none⟩=some (.int .u8 tb.toNat):=by rw [← hw3];exact (World.cell?_setCell_far _ _ _ _ (by simp only;omega)).trans x4
  have d0:w3.cell? ⟨g,i * 3,none⟩=some (.slice (some ⟨fb,0,none⟩) f.fr.bytes.length f.c):=by rw [← hw3];exact (World.cell?_setCell_other _ _ _ _ (by simp)).trans d0
  have yd:w3.cell? ⟨fb,n,none⟩=some (.int .u8 (y.toNat:Int)):=by rw [← hw3];exact (World.cell?_setCell_far _ _ _ _ (by simp only;exact hgfb)).trans yd
  have ff:w3.frozen? ⟨fb,n,none⟩=false:=by rw [← hw3,World.frozen?_setCell];exact ff
  have hfb3:fb<w3.heap.size:=by rw [← hw3];simpa [World.setCell] using hfb2
  have hg3:g<w3.heap.size:=by rw [← hw3];simpa [World.setCell] using hg2
  have HW3:=Lib.hid hw3
  clear hw3 d2 fg
  refine wp_region_tail [12] (fun wx=>wx.cell? ⟨g,i * 3,none⟩=some (.slice (some ⟨fb,0,none⟩) f.fr.bytes.length f.c)∧wx.cell? ⟨w.heap.size+1,3,none⟩=some (.int .i64 (n:Int))∧wx.cell? ⟨w.heap.size+1,4,none⟩=some (.int .u8 tb.toNat)∧wx.cell? ⟨fb,n,none⟩=some (.int .u8 (y.toNat:Int))) (by kernel_rfl) (⟨d0,x3,x4,yd⟩) ?_
  intro hHeld
  refine zP 0 (v:=?_) ?_ (fun _=>hHeld) ?_
  rotate_left
  ·intro w9;go_simp;try with_reducible rfl
  try simp only [Act.put,zA,zB,zC,zD,zE,zF]
  refine zP 1 (v:=?_) ?_ (fun _=>hHeld) ?_
  rotate_left
  ·intro w9;go_simp;try with_reducible rfl
  try simp only [Act.put,zA,zB,zC,zD,zE,zF]
  refine zP 2 (v:=?_) ?_ (fun _=>hHeld) ?_
  rotate_left
  ·intro w9;go_simp;try with_reducible rfl
  try simp only [Act.put,zA,zB,zC,zD,zE,zF]
  refine zP 4 (v:=?_) ?_ (fun _=>hHeld) ?_
  rotate_left
  ·intro w9;go_simp;try with_reducible rfl
  try simp only [Act.put,zA,zB,zC,zD,zE,zF]
  refine zP 8 (v:=?_) ?_ (fun _=>hHeld) ?_
  rotate_left
  ·intro w9;go_simp;try with_reducible rfl
  try simp only [Act.put,zA,zB,zC,zD,zE,zF]
  refine zT 3 [6,7,10,11,12] (v:=?_) ?_ hHeld ?_
  rotate_left
  ·intro w9 hS9;(try dsimp only at hS9);obtain ⟨q1,q2,q3,q4⟩:=hS9;go_simp;try with_reducible rfl
  try simp only [Act.put,zA,zB,zC,zD,zE,zF]
  refine zT 5 [6,7,10,11,12] (v:=?_) ?_ hHeld ?_
  rotate_left
  ·intro w9 hS9;(try dsimp only at hS9);obtain ⟨q1,q2,q3,q4⟩:=hS9;go_simp;try with_reducible rfl
  try simp only [Act.put,zA,zB,zC,zD,zE,zF]
  refine zP 6 (v:=?_) ?_ (fun _=>hHeld) ?_
  rotate_left
  ·intro w9;go_simp;try with_reducible rfl
  try simp only [Act.put,zA,zB,zC,zD,zE,zF]
  refine zT 7 [10,11,12] (v:=?_) ?_ hHeld ?_
  rotate_left
  ·intro w9 hS9;(try dsimp only at hS9);obtain ⟨q1,q2,q3,q4⟩:=hS9;go_simp;try with_reducible rfl
  try simp only [Act.put,zA,zB,zC,zD,zE,zF]
  refine zT 9 [10,11,12] (v:=?_) ?_ hHeld ?_
  rotate_left
  ·intro w9 hS9;(try dsimp only at hS9);obtain ⟨q1,q2,q3,q4⟩:=hS9;go_simp;try with_reducible rfl
  try simp only [Act.put,zA,zB,zC,zD,zE,zF]
  refine zP 10 (v:=?_) ?_ (fun _=>hHeld) ?_
  rotate_left
  ·intro w9;go_simp;try with_reducible rfl
  try simp only [Act.put,zA,zB,zC,zD,zE,zF]
  refine zP 11 (v:=?_) ?_ (fun _=>hHeld) ?_
  rotate_left
  ·intro w9;go_simp;try with_reducible rfl
  try simp only [Act.put,zA,zB,zC,zD,zE,zF]
  refine wpAnyT_next (i:=12) (by kernel_rfl) rfl ?_
  intro K hK
  go_simp
  refine hK.out _ _ (zN (by kernel_rfl)) ?_
  clear hK K
  refine wpAnyT_done (by kernel_rfl) ?_ _
  generalize hw5:World.drew (World.setCell w3 _ _)=w5
  have HZ5:Hid (BlkA w5 (w.heap.size+1+1) 58 #[.int .i64 0,.bool false,.int .i64 0,.slice none 0 0,.bool false,.int .i64 0]):=Lib.hid (by
   rw [← hw5,← HW3.out]
   exact ((HZ2.out.setCell (p:=⟨g,i * 3+2,none⟩) (by simp only;omega) _).setCell (p:=⟨fb,n,none⟩) (by simp only;omega) _).drew)
  have zd:=HZ5.out.get
  have ze:=HZ5.out.frozen
  have lz5:=HZ5.out.lt
  have HW5:Hid (w5=((w2.setCell ⟨g,i * 3+2,none⟩ (.bool true)).setCell ⟨fb,n,none⟩ (.int .u8 ((y ^^^ tb).toNat:Int))).drew):=Lib.hid (by rw [← hw5,← HW3.out,UInt8.toNat_xor])
  clear hw5
  go_wp2
  refine bodyPost_ret (v:=.agg #[.int .i64 0,.bool false,.int .i64 0,.slice none 0 0,.bool false,.int .i64 0]) (by simp [results,Try.results32,go_sem, *]) rfl (HFIN.out _ _ HW5.out ?_)
  exact Stays.sixP _ _ _ _ _ _ _ _
end Go.Proofs.Ytdldfllllgogoaa
namespace Go.Proofs.Ytdldfllllgogoaa
open Go.RowKit
set_option linter.unusedSimpArgs false
set_option maxRecDepth 100000 in
set_option maxHeartbeats 4000000 in
theorem rpipe_Hop_5 (B W:Nat) (x:pp.Wire) (a:RAd) (m:Nat) (t:Hop) (X:Option Addr) (xc:Nat) (w:World) (h:RAt w B W x a m) {kk:Nat} (hi:pp.Inv x kk) (hk:kk≤1000) (hm:m≤1000) (hX:SlRep Rep.u8 w (· < w.heap.size) t.data X xc) (hid:IntOk t.id) (hat:IntOk t.at_) (hct:IntOk t.count) (hd:t.data.length≤140737488351232) (k5:t.kind=5) :
  Calls Try.prog 32 #[.pointer (some ⟨W,0,none⟩),.agg #[.int .i64 t.kind,.slice X t.data.length xc,.int .i64 t.id,.int .i64 t.at_,.int .u8 t.by_.toNat,.int .i64 t.count]] w (RPas w.heap.size w B W a (m+1) (pp.step x t)):=by
 obtain ⟨tk,td,ti,ta,tb,tc⟩:=t
 simp only at hX hid hat hct hd k5 ⊢
 subst k5
 have HI:=Lib.hid hi
 have hW:=h.blk.lt
 have HWL:=Lib.hid (fun k (hk:RF W a k)=>(h.lt hk).2)
 have hl:x.frames.length≤1000:=Nat.le_trans hi.few hk
 obtain ⟨w1,hw1⟩:∃ w1,w1=((w.alloc (.cells #[.pointer (some ⟨W,0,none⟩)] 92)).alloc (.cells #[.int .i64 5,.slice X td.length xc,.int .i64 ti,.int .i64 ta,.int .u8 tb.toNat,.int .i64 tc] 89)).alloc (.cells #[.int .i64 0,.bool false,.int .i64 0,.slice none 0 0,.bool false,.int .i64 0] 58):=⟨_,rfl⟩
 have hb1:Below w.heap.size w w1:=by rw [hw1];exact balloc (balloc (balloc (bself w) _) _) _
 have hz1:w1.heap.size=w.heap.size+1+1+1:=by rw [hw1];simp
 have HP1:Hid (BlkA w1 w.heap.size 92 #[.pointer (some ⟨W,0,none⟩)]):=Lib.hid (by rw [hw1];exact ((BlkA.new _ _ _).alloc _).alloc _)
 have HH1:Hid (BlkA w1 (w.heap.size+1) 89 #[.int .i64 5,.slice X td.length xc,.int .i64 ti,.int .i64 ta,.int .u8 tb.toNat,.int .i64 tc]):=Lib.hid (by
  rw [hw1]
  have h:=(BlkA.new (w.alloc (.cells #[.pointer (some ⟨W,0,none⟩)] 92)) 89 #[.int .i64 5,.slice X td.length xc,.int .i64 ti,.int .i64 ta,.int .u8 tb.toNat,.int .i64 tc]).alloc (.cells #[.int .i64 0,.bool false,.int .i64 0,.slice none 0 0,.bool false,.int .i64 0] 58)
  simpa using h)
 have HZ1:Hid (BlkA w1 (w.heap.size+1+1) 58 #[.int .i64 0,.bool false,.int .i64 0,.slice none 0 0,.bool false,.int .i64 0]):=Lib.hid (by
  rw [hw1]
  have h:=BlkA.new ((w.alloc (.cells #[.pointer (some ⟨W,0,none⟩)] 92)).alloc (.cells #[.int .i64 5,.slice X td.length xc,.int .i64 ti,.int .i64 ta,.int .u8 tb.toNat,.int .i64 tc] 89)) 58 #[.int .i64 0,.bool false,.int .i64 0,.slice none 0 0,.bool false,.int .i64 0]
  simpa using h)
 have H1:=Lib.hid (h.next hb1)
 have H1u:=Lib.hid ((h.next hb1).up (Nat.le_succ m))
 have HB1:=Lib.hid hb1
 have HX1:=Lib.hid (hX.next hb1)
 have HNZ:Hid (¬ RF W a (w.heap.size+1+1)):=Lib.hid (fun e=>by have:=HWL.out _ e;omega)
 have hd':=HH1.out.get
 have lh:=HH1.out.lt
 have pd:=HP1.out.get 0
 simp only [List.getElem?_toArray,List.getElem?_cons_zero] at pd
 have lp:=HP1.out.lt
 have zd:=HZ1.out.get
 have ze:=HZ1.out.frozen
 have lz:=HZ1.out.lt
 clear h hi hX hb1
 go_enter Try.func32,Try.ntmps32
 go_upto_region 1 with (fail)
 rw [← hw1]
 clear hw1
 have HST:Hid (pp.step x ⟨5,td,ti,ta,tb,tc⟩=pp.carryOf x (pp.taken x ti false)):=Lib.hid (by unfold pp.step;rw [if_neg (by simp),if_neg (by simp),if_neg (by simp),if_neg (by simp),if_neg (by simp),if_pos rfl];rfl)
 have hcn:=H1.out.cnt
 have HNO:Hid (∀ (c:Int) wx w',pp.step x ⟨5,td,ti,ta,tb,tc⟩=(pp.no c,x)→Below w1.heap.size w1 wx→Stays wx w' (fun q=>q=w.heap.size+1+1)→RPas w.heap.size w B W a (m+1) (pp.step x ⟨5,td,ti,ta,tb,tc⟩) (.returned (.agg #[.int .i64 c,.bool false,.int .i64 0,.slice none 0 0,.bool false,.int .i64 0])) w'):=Lib.hid (fun c wx w' hc hb hs=>by
  rw [hc]
  exact RPas.plain (r:=(pp.no c,x)) (a1:=a) rfl (H1u.out.next hb) (Stays.of_below (bnext HB1.out hb) _) (fun k hk=>.inl hk) (hs.mono fun q hq e=>⟨by omega,fun e2=>HNZ.out (e ▸ e2)⟩))
 have HTK:=Lib.hid (rpipe_open B W x a m ti false w1 H1.out hl hid HI.out.size)
 have HER:=Lib.hid (fun c=>pp.taken_err (x:=x) (id:=ti) (b:=false) (c:=c))
 have HOK:=Lib.hid (fun s=>pp.taken_ok (x:=x) (id:=ti) (b:=false) (s:=s))
 generalize pp.taken x ti false=r at *
 have lW:=H1.out.blk.lt
 go_upto_region 27 with (first
  | (go_at_call 65;((with_reducible refine HTK.out.mono ?_);rintro e w2 hres;obtain ⟨sq,ak,wn,sy,fi,rs,as_,sk,dt,A0,c0,A1,c1,hseg,rfl,r0,r1,hb2⟩:=SegRes.open hres;have HSG:=Lib.hid hseg;have R1:=Lib.hid r1;have HB2:=Lib.hid hb2;clear hres hseg r0 r1 hb2))
  | fail)
 generalize hw3:World.alloc w2 _=w3
 generalize hT:w2.heap.size=T
 have hb23:Below w2.heap.size w2 w3:=by rw [← hw3];exact balloc (bself w2) _
 have HBT:Hid (BlkA w3 T 134 #[.int .i64 sq,.int .i64 ak,.int .i64 wn,.bool sy,.bool fi,.bool rs,.bool as_,.slice A0 sk.length c0,.slice A1 dt.length c1]):=Lib.hid (by rw [← hw3,← hT];exact BlkA.new _ _ _)
 have hs2:=HB2.out.size
 have hT1:w1.heap.size≤T:=by omega
 have hb13:Below w1.heap.size w1 w3:=bnext HB2.out hb23
 have HB13:=Lib.hid hb13
 have H3:=Lib.hid (H1.out.next hb13)
 have HZ3:=Lib.hid (HZ1.out.next hb13)
 have HP3:=Lib.hid (HP1.out.next hb13)
 have zd:=HZ3.out.get
 have ze:=HZ3.out.frozen
 have lz3:=HZ3.out.lt
 have R1:Hid (SlRep Rep.u8 w3 (fun k=>w1.heap.size≤k∧k<w3.heap.size) dt A1 c1):=Lib.hid (R1.out.keep fun q hq=>⟨⟨hq.1,Nat.lt_of_lt_of_le hq.2 hb23.size⟩,hb23.block q hq.2⟩)
 clear hw3 hT hb23 hb13 hs2 HB2
 cases r with
 | error c=>
  have hc:=HER.out c rfl
  have q1:(c != 0)=true:=by simpa using hc
  have q2:(c == 0)=false:=by simpa using hc
  have HE:Hid (pp.step x ⟨5,td,ti,ta,tb,tc⟩=(pp.no c,x)):=Lib.hid (by rw [HST.out];rfl)
  simp only [exC]
  clear hc
  go_wp2
  refine bodyPost_ret (v:=.agg #[.int .i64 c,.bool false,.int .i64 0,.slice none 0 0,.bool false,.int .i64 0]) (by simp [results,Try.results32,go_sem, *]) rfl (HNO.out c _ _ HE.out HB13.out ?_)
  exact Stays.sixP _ _ _ _ _ _ _ _
 | ok s=>
  have hfa:=sg.may_ok (HOK.out s rfl)
  have hseg:s=⟨sq,ak,wn,sy,fi,rs,as_,sk,dt⟩:=HSG.out
  subst hseg
  simp only at hfa
  obtain ⟨hsq,_,_,_,hdt,_⟩:=hfa
  have hlo:0≤x.rcv.taken∧x.rcv.taken≤x.rcv.done∧x.rcv.done≤1048576:=by have:=HI.out.rcv.lo;have:=HI.out.rcv.top;omega
  have hdn:0≤x.rcv.done∧x.rcv.done≤1048576:=by omega
  have HSS:Hid (∀ wx,Below w3.heap.size w3 wx→wx.cell? ⟨w.heap.size,0,none⟩=some (.pointer (some ⟨W,0,none⟩))∧wx.cell? ⟨T,0,none⟩=some (.int .i64 sq)∧wx.cell? ⟨W,2,none⟩=some (.pointer (some ⟨a.I,0,none⟩))):=Lib.hid (fun wx hb=>⟨(HP3.out.next hb).get 0,(HBT.out.next hb).get 0,(H3.out.next hb).ptrH⟩)
  have HLO:Hid (∀ wx,Below w3.heap.size w3 wx→Calls Try.prog 43 #[.pointer (some ⟨a.I,0,none⟩)] wx fun e w'=>e=.returned (.int .i64 x.rcv.done)∧Below wx.heap.size wx w'):=Lib.hid (fun wx hb=>ref_Low a.I a.Mb a.n x.room x.rcv.taken (rv.endOf x.rcv) x.rcv.done (rv.knownOf x.rcv) (rv.mapF x.rcv) wx (H3.out.next hb).rcv hlo.1 hlo.2.1 (by omega) (fun k h1 h2=>rv.mapF_came.2 (.inl ⟨by omega,h2⟩)) (rv.mapF_none.2 (rv.low_not HI.out.rcv)))
  have HFD:Hid (∀ wx,Below w3.heap.size w3 wx→Calls Try.prog 66 #[.pointer (some ⟨W,0,none⟩),.int .i64 sq,.int .i64 x.rcv.done] wx fun e w'=>e=.returned (.int .i64 (pp.place x sq x.rcv.done))∧wx=w'):=Lib.hid (fun wx hb=>rpipe_find B W x a m sq x.rcv.done wx (H3.out.next hb) HI.out.first hsq hdn)
  have hpb:=pp.place_bd x (s:=sq) hdn
  have HST2:Hid (pp.step x ⟨5,td,ti,ta,tb,tc⟩=if pp.place x sq x.rcv.done<0 then (pp.no 2,x) else pp.comes x ⟨1,pp.place x sq x.rcv.done,dt,fi,0⟩):=Lib.hid (by rw [HST.out];rfl)
  generalize pp.place x sq x.rcv.done=fr at *
  have lT:=HBT.out.lt
  have hW3:=H3.out.blk.lt
  have lp3:=HP3.out.lt
  simp only [exC]
  go_upto_region 29 with (fail)
  refine wp_region_tail [] (fun wx=>wx.cell? ⟨w.heap.size,0,none⟩=some (.pointer (some ⟨W,0,none⟩))∧wx.cell? ⟨T,0,none⟩=some (.int .i64 sq)∧wx.cell? ⟨W,2,none⟩=some (.pointer (some ⟨a.I,0,none⟩))) (by kernel_rfl) (HSS.out w3 (bself _)) ?_
  intro hHeld
  refine zP 1 (v:=?_) ?_ (fun _=>hHeld) ?_
  rotate_left
  ·intro w9;go_simp;try with_reducible rfl
  try simp only [Act.put,zA,zB,zC,zD,zE,zF]
  refine zT 0 [] (v:=?_) ?_ hHeld ?_
  rotate_left
  ·intro w9 hS9;(try dsimp only at hS9);obtain ⟨q1,q2,q3⟩:=hS9;go_simp;try with_reducible rfl
  try simp only [Act.put,zA,zB,zC,zD,zE,zF]
  refine zT 2 [] (v:=?_) ?_ hHeld ?_
  rotate_left
  ·intro w9 hS9;(try dsimp only at hS9);obtain ⟨q1,q2,q3⟩:=hS9;go_simp;try with_reducible rfl
  try simp only [Act.put,zA,zB,zC,zD,zE,zF]
  refine zT 3 [] (v:=?_) ?_ hHeld ?_
  rotate_left
  ·intro w9 hS9;(try dsimp only at hS9);obtain ⟨q1,q2,q3⟩:=hS9;go_simp;try with_reducible rfl
  try simp only [Act.put,zA,zB,zC,zD,zE,zF]
  refine zP 4 (v:=?_) ?_ (fun _=>hHeld) ?_
  rotate_left
  ·intro w9;go_simp;try with_reducible rfl
  try simp only [Act.put,zA,zB,zC,zD,zE,zF]
  refine zP 5 (v:=?_) ?_ (fun _=>hHeld) ?_
  rotate_left
  ·intro w9;go_simp;try with_reducible rfl
  try simp only [Act.put,zA,zB,zC,zD,zE,zF]
  refine zT 6 [] (v:=?_) ?_ hHeld ?_
  rotate_left
  ·intro w9 hS9;(try dsimp only at hS9);obtain ⟨q1,q2,q3⟩:=hS9;go_simp;try with_reducible rfl
  try simp only [Act.put,zA,zB,zC,zD,zE,zF]
  refine wpAnyT_next (i:=7) (by kernel_rfl) rfl ?_
  intro K hK
  go_simp
  go_at_call 43
  refine (HLO.out _ (by exact Below.drew (bself w3))).mono ?_
  rintro e w4 ⟨rfl,hb4⟩
  have hb34:Below w3.heap.size w3 w4:=(Below.drew (bself w3)).trans hb4
  have HB34:=Lib.hid hb34
  have hs4:=HSS.out w4 hb34
  clear hb4 hb34
  go_simp
  have hHeld2:=hs4
  refine hK.out _ _ (fun _=>hHeld2) ?_
  clear hK K hHeld
  have hHeld:=hHeld2
  clear hHeld2
  try simp only [Act.put,zA,zB,zC,zD,zE,zF]
  refine wpAnyT_next (i:=8) (by kernel_rfl) rfl ?_
  intro K hK
  go_simp
  go_at_call 66
  refine (HFD.out _ HB34.out).mono ?_
  rintro e _ ⟨rfl,rfl⟩
  go_simp
  have hHeld2:=hHeld
  refine hK.out _ _ (fun _=>hHeld2) ?_
  clear hK K hHeld
  have hHeld:=hHeld2
  clear hHeld2
  try simp only [Act.put,zA,zB,zC,zD,zE,zF]
  refine zP 9 (v:=?_) ?_ (fun _=>hHeld) ?_
  rotate_left
  ·intro w9;go_simp;try with_reducible rfl
  try simp only [Act.put,zA,zB,zC,zD,zE,zF]
  refine wpAnyT_done (by kernel_rfl) ?_ _
  have H4:=Lib.hid (H3.out.next HB34.out)
  have HB14:Hid (Below w1.heap.size w1 w4):=Lib.hid (bnext HB13.out HB34.out)
  have HZ4:=Lib.hid (HZ3.out.next HB34.out)
  have HP4:=Lib.hid (HP3.out.next HB34.out)
  have HT4:=Lib.hid (HBT.out.next HB34.out)
  have zd:=HZ4.out.get
  have ze:=HZ4.out.frozen
  have lz4:=HZ4.out.lt
  by_cases k9:fr<0
  ·have q9:decide (fr<0)=true:=by simpa using k9
   have HE:Hid (pp.step x ⟨5,td,ti,ta,tb,tc⟩=(pp.no 2,x)):=Lib.hid (by rw [HST2.out,if_pos k9])
   go_wp2
   refine bodyPost_ret (v:=.agg #[.int .i64 2,.bool false,.int .i64 0,.slice none 0 0,.bool false,.int .i64 0]) (by simp [results,Try.results32,go_sem, *]) rfl (HNO.out 2 w4 _ HE.out HB14.out ?_)
   exact Stays.sixP _ _ _ _ _ _ _ _
  have q9:decide (fr<0)=false:=by simpa using k9
  have HST3:Hid (pp.step x ⟨5,td,ti,ta,tb,tc⟩=pp.comes x ⟨1,fr,dt,fi,0⟩):=Lib.hid (by rw [HST2.out,if_neg k9])
  have HD0:Hid (∀ wx,Below w4.heap.size w4 wx→Calls Try.prog 23 #[.pointer (some ⟨a.I,0,none⟩),.agg #[.int .i64 1,.int .i64 fr,.slice A1 dt.length c1,.bool fi,.int .i64 0]] wx (TellRf wx a.I a.Mb a.n x.room (rv.doIt x.room x.rcv ⟨1,fr,dt,fi,0⟩))):=Lib.hid (fun wx hb=>ref_Arrival a.I a.Mb a.n x.room x.rcv ⟨1,fr,dt,fi,0⟩ A1 c1 (fun k=>w1.heap.size≤k∧k<w3.heap.size) wx (H4.out.next hb).rcv HI.out.rcv HI.out.room (R1.out.keep fun q hq=>⟨hq,(bnext HB34.out hb).block q hq.2⟩) (fun q hq=>⟨Nat.lt_of_lt_of_le hq.2 (bnext HB34.out hb).size,fun e=>by have:=HWL.out q (.inr (.inr (.inl e)));omega⟩) (by unfold IntOk;simp only;omega) (Nat.le_trans hdt (by decide)) (by omega))
  have htb:=rv.told_bd HI.out.rcv HI.out.room ⟨1,fr,dt,fi,0⟩
  have HCM:Hid (pp.comes x ⟨1,fr,dt,fi,0⟩=pp.reply { x with rcv:=(rv.doIt x.room x.rcv ⟨1,fr,dt,fi,0⟩).2 } (rv.doIt x.room x.rcv ⟨1,fr,dt,fi,0⟩).1):=Lib.hid rfl
  generalize rv.doIt x.room x.rcv ⟨1,fr,dt,fi,0⟩=rr at *
  obtain ⟨⟨oc,oa,ow,os,od,oe⟩,s'⟩:=rr
  simp only at htb HCM HD0
  have HAN:Hid (∀ (wq w5:World) (n5:Nat) (X5:Option Addr) (xc5:Nat) (Y5:Option Addr) (yc5:Nat),Below w1.heap.size w1 wq→n5≤a.n+64→SlRep Rng.rep w5 (fun k=>wq.heap.size≤k∧k<w5.heap.size) os X5 xc5→SlRep Rep.u8 w5 (fun k=>wq.heap.size≤k∧k<w5.heap.size) od Y5 yc5→IS w5 a.I a.Mb n5 x.room s'→Stays wq w5 (GM a.I a.Mb)→Calls Try.prog 67 #[.pointer (some ⟨W,0,none⟩),.agg #[.int .i64 oc,.int .i64 oa,.int .i64 ow,.slice X5 os.length xc5,.slice Y5 od.length yc5,.bool oe]] w5 (RPas w1.heap.size w1 B W a (m+1) (pp.reply { x with rcv:=s' } ⟨oc,oa,ow,os,od,oe⟩))):=Lib.hid (fun wq w5 n5 X5 xc5 Y5 yc5 hb g0 g5 g6 g3 g2=>by
   have hq:=H1.out.next hb
   have h8:=hq.putRcv (g2.mono fun _ _ e=>e) g3 g0
   have hs:Stays w1 w5 (RF W a):=(Stays.of_below hb _).trans g2 (fun k hk e=>.inr (.inr (.inl e)))
   have h5:=rpipe_answer w1.heap.size B W { x with rcv:=s' } { a with n:=n5 } (m+1) ⟨oc,oa,ow,os,od,oe⟩ X5 xc5 Y5 yc5 _ w5 h8 HI.out.first hl g5 g6 (fun k hk=>⟨Nat.le_trans hb.size hk.1,hk.2,fun e=>by have e2:RF W a k:=e;have:=(hq.lt e2).2;have:=hk.1;omega⟩) hs.size htb.1 htb.2.1 htb.2.2.1 (Nat.le_trans htb.2.2.2 (by decide))
   refine h5.mono ?_
   rintro e w6 ⟨cs,a2,he,r1,r2,r3,r4⟩
   exact ⟨cs,a2,he,r1,r2,hs.comp r3,fun k hk=>(r4 k hk).imp (fun e=>e) (fun e=>Nat.le_trans hs.size e)⟩)
  have HFIN:Hid (∀ (w2 w':World) (e:Ending),RPas w1.heap.size w1 B W a (m+1) (pp.reply { x with rcv:=s' } ⟨oc,oa,ow,os,od,oe⟩) e w2→Stays w2 w' (fun q=>q=w.heap.size+1+1)→RPas w.heap.size w B W a (m+1) (pp.step x ⟨5,td,ti,ta,tb,tc⟩) e w'):=Lib.hid (fun w2 w' e hr hs=>by
   rw [HST3.out,HCM.out]
   exact RPas.lift HB1.out (by omega) HWL.out hr hs (Nat.le_refl _))
  have hT0:w.heap.size<T:=by omega
  have HSS7:Hid (∀ wx,Stays w4 wx (GM a.I a.Mb)→wx.cell? ⟨w.heap.size,0,none⟩=some (.pointer (some ⟨W,0,none⟩))∧wx.cell? ⟨W,2,none⟩=some (.pointer (some ⟨a.I,0,none⟩))∧wx.cell? ⟨T,8,none⟩=some (.slice A1 dt.length c1)∧wx.cell? ⟨T,4,none⟩=some (.bool fi)):=Lib.hid (fun wx hs=>by
   have h5:=HT4.out.stays hs (fun e=>by have:=HWL.out _ (.inr (.inr (.inl e)));omega)
   exact ⟨(HP4.out.stays hs (fun e=>by have:=HWL.out _ (.inr (.inr (.inl e)));omega)).get 0,(H4.out.blk.stays hs (fun e=>H4.out.dW _ (.inr (.inl e)) rfl)).get 2,h5.get 8,h5.get 4⟩)
  have lT4:=HT4.out.lt
  have lW4:=H4.out.blk.lt
  have lp4:=HP4.out.lt
  generalize pp.reply { x with rcv:=s' } ⟨oc,oa,ow,os,od,oe⟩=r at *
  obtain ⟨⟨pc,pu,pi,pd',pe,pl⟩,x2⟩:=r
  clear HSS HLO HFD hs4 HST HST2 HST3
  go_upto_region 32 with (fail)
  refine wp_region_tail [12,13] (fun wx=>wx.cell? ⟨w.heap.size,0,none⟩=some (.pointer (some ⟨W,0,none⟩))∧wx.cell? ⟨W,2,none⟩=some (.pointer (some ⟨a.I,0,none⟩))∧wx.cell? ⟨T,8,none⟩=some (.slice A1 dt.length c1)∧wx.cell? ⟨T,4,none⟩=some (.bool fi)) (by kernel_rfl) (HSS7.out w4 (Stays.refl _ _)) ?_
  intro hHeld
  refine zP 5 (v:=?_) ?_ (fun _=>hHeld) ?_
  rotate_left
  ·intro w9;go_simp;try with_reducible rfl
  try simp only [Act.put,zA,zB,zC,zD,zE,zF]
  refine zP 6 (v:=?_) ?_ (fun _=>hHeld) ?_
  rotate_left
  ·intro w9;go_simp;try with_reducible rfl
  try simp only [Act.put,zA,zB,zC,zD,zE,zF]
  refine zP 8 (v:=?_) ?_ (fun _=>hHeld) ?_
  rotate_left
  ·intro w9;go_simp;try with_reducible rfl
  try simp only [Act.put,zA,zB,zC,zD,zE,zF]
  refine zT 0 [12,13] (v:=?_) ?_ hHeld ?_
  rotate_left
  ·intro w9 hS9;(try dsimp only at hS9);obtain ⟨q1,q2,q3,q4⟩:=hS9;go_simp;try with_reducible rfl
  try simp only [Act.put,zA,zB,zC,zD,zE,zF]
  refine zT 1 [2,3,4,11,12,13] (v:=?_) ?_ hHeld ?_
  rotate_left
  ·intro w9 hS9;(try dsimp only at hS9);obtain ⟨q1,q2,q3,q4⟩:=hS9;go_simp;try with_reducible rfl
  try simp only [Act.put,zA,zB,zC,zD,zE,zF]
  refine zP 2 (v:=?_) ?_ (fun _=>hHeld) ?_
  rotate_left
  ·intro w9;go_simp;try with_reducible rfl
  try simp only [Act.put,zA,zB,zC,zD,zE,zF]
  refine zP 3 (v:=?_) ?_ (fun _=>hHeld) ?_
  rotate_left
  ·intro w9;go_simp;try with_reducible rfl
  try simp only [Act.put,zA,zB,zC,zD,zE,zF]
  refine zT 4 [11,12,13] (v:=?_) ?_ hHeld ?_
  rotate_left
  ·intro w9 hS9;(try dsimp only at hS9);obtain ⟨q1,q2,q3,q4⟩:=hS9;go_simp;try with_reducible rfl
  try simp only [Act.put,zA,zB,zC,zD,zE,zF]
  refine zT 7 [10,11,12,13] (v:=?_) ?_ hHeld ?_
  rotate_left
  ·intro w9 hS9;(try dsimp only at hS9);obtain ⟨q1,q2,q3,q4⟩:=hS9;go_simp;try with_reducible rfl
  try simp only [Act.put,zA,zB,zC,zD,zE,zF]
  refine zT 9 [10,11,12,13] (v:=?_) ?_ hHeld ?_
  rotate_left
  ·intro w9 hS9;(try dsimp only at hS9);obtain ⟨q1,q2,q3,q4⟩:=hS9;go_simp;try with_reducible rfl
  try simp only [Act.put,zA,zB,zC,zD,zE,zF]
  refine zP 10 (v:=?_) ?_ (fun _=>hHeld) ?_
  rotate_left
  ·intro w9;go_simp;try with_reducible rfl
  try simp only [Act.put,zA,zB,zC,zD,zE,zF]
  refine wpAnyT_next (i:=11) (by kernel_rfl) rfl ?_
  intro K hK
  go_simp
  go_at_call 23
  refine (HD0.out _ (by exact (by repeat (first | (with_reducible first | exact Below.refl _ _ | assumption | refine bset ?_ ?_ _ | refine balloc ?_ _ | refine Below.drew ?_ | refine bdrewN ?_ _ | refine bnext ?_ (by with_reducible assumption)) | exact Nat.le_refl _ | (simp;done) | omega | (simp;omega))))).mono ?_
  rintro e w5 ⟨cs,n5,rfl,g0,g1,g3,g2⟩
  obtain ⟨X5,xc5,Y5,yc5,rfl,g5,g6⟩:=Told.rep_iff.1 g1
  have HC:=Lib.hid (HAN.out _ _ _ _ _ _ _ (bnext HB14.out (by exact (by repeat (first | (with_reducible first | exact Below.refl _ _ | assumption | refine bset ?_ ?_ _ | refine balloc ?_ _ | refine Below.drew ?_ | refine bdrewN ?_ _ | refine bnext ?_ (by with_reducible assumption)) | exact Nat.le_refl _ | (simp;done) | omega | (simp;omega))))) g0 g5 g6 g3 g2)
  have hs5:=HSS7.out w5 ((Stays.of_below (by exact (by repeat (first | (with_reducible first | exact Below.refl _ _ | assumption | refine bset ?_ ?_ _ | refine balloc ?_ _ | refine Below.drew ?_ | refine bdrewN ?_ _ | refine bnext ?_ (by with_reducible assumption)) | exact Nat.le_refl _ | (simp;done) | omega | (simp;omega)))) _).comp g2)
  clear g0 g1 g2 g3 g5 g6
  go_simp
  have hHeld2:=hs5
  refine hK.out _ _ (fun _=>hHeld2) ?_
  clear hK K hHeld
  have hHeld:=hHeld2
  clear hHeld2
  try simp only [Act.put,zA,zB,zC,zD,zE,zF]
  refine wpAnyT_next (i:=12) (by kernel_rfl) rfl ?_
  intro K hK
  go_simp
  go_at_call 67
  refine HC.out.mono ?_
  rintro e w6 hr
  obtain ⟨cs,a2,rfl,r1,r2,r3,r4⟩:=id hr
  obtain ⟨Y,yc,rfl,r5⟩:=Passed.rep_iff.1 r1
  have HRS:=Lib.hid hr
  have z2:=HZ1.out.stays r3 HNZ.out
  have zd:=z2.get
  have ze:=z2.frozen
  have lz2:=z2.lt
  clear hr r1 r2 r3 r4 r5 z2
  go_simp
  refine hK.out _ _ (zN (by kernel_rfl)) ?_
  clear hK K
  try simp only [Act.put,zA,zB,zC,zD,zE,zF]
  refine wpAnyT_next (i:=13) (by kernel_rfl) rfl ?_
  intro K hK
  go_simp
  refine hK.out _ _ (zN (by kernel_rfl)) ?_
  clear hK K
  refine wpAnyT_done (by kernel_rfl) ?_ _
  go_wp2
  refine bodyPost_ret (v:=.agg #[.int .i64 pc,.bool pu,.int .i64 pi,.slice Y pd'.length yc,.bool pe,.int .i64 pl]) (by simp [results,Try.results32,go_sem, *]) rfl (HFIN.out _ _ _ HRS.out ?_)
  exact Stays.sixP _ _ _ _ _ _ _ _
end Go.Proofs.Ytdldfllllgogoaa
