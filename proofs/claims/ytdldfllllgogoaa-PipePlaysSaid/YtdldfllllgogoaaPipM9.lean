/- Texts in one: Recv6, RecvR7, PipeR1. No condition. -/
import Derived.Test.YtdldfllllgogoaaPipM8
import Derived.Test.YtdldfllllgogoaaPipM4
import Derived.Test.YtdldfllllgogoaaPipM7
import Derived.Test.YtdldfllllgogoaaPipM3
namespace Go.Proofs.Ytdldfllllgogoaa
open Go.RowKit
set_option linter.unusedSimpArgs false
def TellRes (w:World) (B F:Nat) (room:Int) (l:List Rng) (r:Told × rv.St) (D M:Option Addr) (e:Ending) (w':World):Prop:=
 ∃ cs D1 dc1 M1 mc1,e=.returned (.agg cs.toArray)∧Told.rep.rep w' (fun k=>w.heap.size≤k∧k<w'.heap.size∧¬ HF F D1 M1 r.2.more k) r.1 cs∧HAt w' B F room r.2 D1 dc1 M1 mc1∧Stays w w' (HF F D M l)∧∀ k,HF F D1 M1 r.2.more k→HF F D M l k∨w.heap.size≤k
/-- behind the switch of Do -/
structure DoMid (w wx:World) (B F:Nat) (room:Int) (l:List Rng) (D M:Option Addr) (dt:List UInt8) (s':rv.St) (D1:Option Addr) (dc1:Nat) (M1:Option Addr) (mc1:Nat) (E:Option Addr) (ec:Nat) (bx:Array Value):Prop where
 lt:∀ k,HF F D M l k→k<w.heap.size
 at_:HAt wx B F room s' D1 dc1 M1 mc1
 box:BlkA wx (w.heap.size+1+1) 41 bx
 res:BlkA wx (w.heap.size+1) 41 #[.int .i64 0,.int .i64 0,.int .i64 0,.slice none 0 0,.slice none 0 0,.bool false]
 own:Own wx (w.heap.size+1+1+1) 5 1 E dt.length ec (dt.map rv.u8v)
 far:∀ k,blkOf E=some k→¬ HF F D1 M1 s'.more k
 stay:Stays w wx (HF F D M l)
 nm:∀ k,HF F D1 M1 s'.more k→HF F D M l k∨w.heap.size+1+1+1≤k
theorem DoMid.nohf {w wx:World} {B F:Nat} {room:Int} {l:List Rng} {D M:Option Addr} {dt:List UInt8} {s':rv.St} {D1:Option Addr} {dc1:Nat} {M1:Option Addr} {mc1:Nat} {E:Option Addr} {ec:Nat} {bx:Array Value} (h:DoMid w wx B F room l D M dt s' D1 dc1 M1 mc1 E ec bx) {k:Nat} (hk:HF F D1 M1 s'.more k):k≠w.heap.size+1+1∧k≠w.heap.size+1:=by
 rcases h.nm k hk with e | e
 ·have:=h.lt k e;omega
 ·omega
theorem DoMid.touch {w wx wy:World} {B F:Nat} {room:Int} {l:List Rng} {D M:Option Addr} {dt:List UInt8} {s':rv.St} {D1:Option Addr} {dc1:Nat} {M1:Option Addr} {mc1:Nat} {E:Option Addr} {ec:Nat} {bx bx':Array Value} (h:DoMid w wx B F room l D M dt s' D1 dc1 M1 mc1 E ec bx) (hs:Stays wx wy (fun k=>k=w.heap.size+1+1)) (hb:BlkA wy (w.heap.size+1+1) 41 bx'):DoMid w wy B F room l D M dt s' D1 dc1 M1 mc1 E ec bx':=
 ⟨h.lt,h.at_.stays hs (fun k hk e=>(h.nohf hk).1 e),hb,h.res.stays hs (fun e=>by omega),h.own.stays hs (fun k hk e=>by have:=(h.own.lt k hk).1;omega),h.far,h.stay.trans hs (fun k hk e=>by omega),h.nm⟩
section
variable (B F:Nat) (room:Int) (s:rv.St) (D:Option Addr) (dc:Nat) (M:Option Addr) (mc:Nat) (a:Arrival) (G:Option Addr) (gc:Nat) (S:Nat→Prop) (w:World)
set_option maxRecDepth 100000 in
set_option maxHeartbeats 2000000 in
theorem recv_Do (h:HAt w B F room s D dc M mc) (hi:rv.Inv room s) (hr:1≤room∧room≤4096) (hG:SlRep Rep.u8 w S a.data G gc) (hS:∀ k,S k→k<w.heap.size∧¬ HF F D M s.more k) (ha:IntOk a.from_) (hd:a.data.length≤140737488351232) :
  Calls Try.prog 21 #[.pointer (some ⟨F,0,none⟩),.agg #[.int .i64 a.kind,.int .i64 a.from_,.slice G a.data.length gc,.bool a.fin,.int .i64 a.count]] w (TellRes w B F room s.more (rv.doIt room s a) D M):=by
 obtain ⟨ak,af,ad,an,ac⟩:=a
 simp only at hG ha hd ⊢
 have H:=Lib.hid h
 have HI:=Lib.hid hi
 have hFl:=h.blk.lt
 have HLT:=Lib.hid (fun k=>h.hf_lt (k:=k))
 obtain ⟨ca,hca⟩:∃ ca:Array Value,ca = #[.int .i64 ak,.int .i64 af,.slice G ad.length gc,.bool an,.int .i64 ac]:=⟨_,rfl⟩
 obtain ⟨zt,hzt⟩:∃ zt:Array Value,zt = #[.int .i64 0,.int .i64 0,.int .i64 0,.slice none 0 0,.slice none 0 0,.bool false]:=⟨_,rfl⟩
 obtain ⟨w3,hw3⟩:∃ w3,w3=((w.alloc (.cells ca 73)).alloc (.cells zt 41)).alloc (.cells zt 41):=⟨_,rfl⟩
 have hb3:Below w.heap.size w w3:=by rw [hw3];exact balloc (balloc (balloc (bself w) _) _) _
 have hs3:w3.heap.size=w.heap.size+1+1+1:=by rw [hw3];simp
 have hA3:BlkA w3 w.heap.size 73 ca:=by rw [hw3];exact ((BlkA.new w 73 _).alloc _).alloc _
 have hR3:BlkA w3 (w.heap.size+1) 41 zt:=by
  rw [hw3]
  have h:=(BlkA.new (w.alloc (.cells ca 73)) 41 zt).alloc (.cells zt 41)
  simpa using h
 have hT3:BlkA w3 (w.heap.size+1+1) 41 zt:=by
  rw [hw3]
  have h:=BlkA.new ((w.alloc (.cells ca 73)).alloc (.cells zt 41)) 41 zt
  simpa using h
 have h3:=h.next hb3
 have HARR:=Lib.hid (recv_arrive B F room s D dc M mc ⟨ak,af,ad,an,ac⟩ G gc S w3 h3 hi hr (hG.keep fun k hk=>⟨hk,hb3.block k (hS k hk).1⟩) (fun k hk=>⟨Nat.lt_of_lt_of_le (hS k hk).1 hb3.size,(hS k hk).2⟩) ha hd)
 have HNO:=Lib.hid (fun hc=>recv_take_no B F room s D dc M mc ac w3 h3 hc)
 have HOK:=Lib.hid (fun hc=>recv_take_ok B F room s D dc M mc ac w3 h3 hi hc)
 subst hca hzt
 have HB3:=Lib.hid hb3
 have HS3:=Lib.hid hs3
 have HA3:=Lib.hid hA3
 have HR3:=Lib.hid hR3
 have HT3:=Lib.hid hT3
 have H3:=Lib.hid h3
 have HIN:=Lib.hid (hi.step ⟨ak,af,ad,an,ac⟩)
 simp only at HARR
 have y0:=hA3.get 0
 have y1:=hA3.get 1
 have y2:=hA3.get 2
 have y3:=hA3.get 3
 have y4:=hA3.get 4
 simp only [List.getElem?_toArray,List.getElem?_cons_succ,List.getElem?_cons_zero] at y0 y1 y2 y3 y4
 clear h hi hG hS hA3 hR3 hT3 h3 hb3
 go_enter Try.func21,Try.ntmps21
 go_upto_region 3 with (fail)
 rw [← hw3]
 clear hw3
 go_upto_block 0 with (fail)
 go_cut [6] (fun s6 wx=>∃ c dt b s' D1 dc1 M1 mc1 E ec,s6=.int .i64 (rv.lastOf ⟨ak,af,ad,an,ac⟩)∧Hid (rv.step room s ⟨ak,af,ad,an,ac⟩=(⟨c,0,0,[],dt,b⟩,s'))∧Hid (DoMid w wx B F room s.more D M dt s' D1 dc1 M1 mc1 E ec #[.int .i64 c,.int .i64 0,.int .i64 0,.slice none 0 0,.slice E (List.length dt) ec,.bool b]))
 case first=>
  by_cases k1:ak=1
  ·subst k1
   go_wp2_with (first
    | (go_at_call 39;((with_reducible refine HARR.out.mono ?_);rintro e w4 ⟨D1,dc1,M1,mc1,rfl,q1,q2,q3⟩;have Q1:=Lib.hid q1;have Q2:=Lib.hid q2;have Q3:=Lib.hid q3;have z1:=HA3.out.stays q2 (fun e=>absurd (HLT.out _ e).2 (Nat.lt_irrefl _));have z2:=HT3.out.stays q2 (fun e=>absurd (HLT.out _ e).2 (by omega));have zc:=z1.get;have zd:=z2.get;have ze:=z2.frozen;clear q1 q2 q3))
    | fail)
   go_meet
   refine ⟨(rv.arrive room s ⟨1,af,ad,an,ac⟩).1,[],false,(rv.arrive room s ⟨1,af,ad,an,ac⟩).2,D1,dc1,M1,mc1,none,0,rfl,Lib.hid (by unfold rv.step;rw [if_pos rfl]),Lib.hid ?_⟩
   have hno:¬ HF F D1 M1 (rv.arrive room s ⟨1,af,ad,an,ac⟩).2.more (w.heap.size+1+1):=fun e=>by
    rcases Q3.out _ e with e | e
    ·have:=(HLT.out _ e).2;omega
    ·have:=HS3.out;omega
   refine ⟨fun k hk=>(HLT.out k hk).2,Q1.out.stays (Stays.set _ _ _ _) (fun k hk e=>hno (e ▸ hk)),by simpa using z2.set 0 (.int .i64 (rv.arrive room s ⟨1,af,ad,an,ac⟩).1),((HR3.out.stays Q2.out (fun e=>absurd (HLT.out _ e).2 (by omega))).setCell (by simp) _),Own.nil _ _ _ _,(fun k hk=>by cases hk),((Stays.of_below HB3.out _).trans Q2.out (fun k hk e=>e)).trans (Stays.set _ _ _ _) (fun k hk e=>by omega),fun k hk=>(Q3.out k hk).imp id (fun e=>by have:=HS3.out;omega)⟩
  ·by_cases k2:ak=2
   ·subst k2
    obtain ⟨c,dt,b,s',hst,hmo,hca⟩:∃ c dt b s',rv.step room s ⟨2,af,ad,an,ac⟩=(⟨c,0,0,[],dt,b⟩,s')∧s'.more=s.more∧Calls Try.prog 40 #[.pointer (some ⟨F,0,none⟩),.int .i64 ac] w3 (TakeRes w3 B F room s c dt b s' D dc M mc):=by
     by_cases hc:ac<0∨4096<ac
     ·exact ⟨2,[],false,s,by unfold rv.step;rw [if_neg (by simp),if_pos rfl,if_pos hc],rfl,HNO.out hc⟩
     ·exact ⟨0,_,_,{ s with taken:=s.taken+rv.takeOf s ac },by unfold rv.step;rw [if_neg (by simp),if_pos rfl,if_neg hc],rfl,HOK.out (by omega)⟩
    have HCA:=Lib.hid hca
    have HST:=Lib.hid hst
    have HMO:=Lib.hid hmo
    clear hst hmo hca HARR HOK HNO
    go_wp2_with (first
     | (go_at_call 40;((with_reducible refine HCA.out.mono ?_);rintro e w4 ⟨E,ec,rfl,q0,q1,q2⟩;have Q0:=Lib.hid q0;have Q1:=Lib.hid q1;have Q2:=Lib.hid q2;have z2:=HT3.out.stays q2 (fun e=>by omega);have zd:=z2.get;have ze:=z2.frozen;clear q0 q1 q2))
     | fail)
    go_meet
    have hlt1:=Q0.out.lt
    have hhf:∀ k,HF F D M s'.more k→k<w.heap.size:=fun k hk=>(HLT.out k (by rw [HMO.out] at hk;exact hk)).2
    refine ⟨c,dt,b,s',D,dc,M,mc,E,ec,rfl,HST,Lib.hid ⟨fun k hk=>(HLT.out k hk).2,Q1.out.stays (Stays.six _ _ _ _ _ _ _ _) (fun k hk e=>by have:=hhf k hk;omega),z2.six _ _ _ _ _ _,(HR3.out.stays Q2.out (fun e=>by omega)).stays (Stays.six _ _ _ _ _ _ _ _) (fun e=>by omega),?_,(fun k hk e=>by have:=hhf k e;have:=(hlt1 k hk).1;have:=HS3.out;omega),?_,fun k hk=>.inl (by rw [HMO.out] at hk;exact hk)⟩⟩
    ·have h:=Q0.out.stays (Stays.six w4 (w.heap.size+1+1) (.int .i64 c) (.int .i64 0) (.int .i64 0) (.slice none 0 0) (.slice E dt.length ec) (.bool b)) (fun k hk e=>by have:=(hlt1 k hk).1;have:=HS3.out;omega)
     rw [HS3.out] at h
     exact h
    ·exact (((Stays.of_below HB3.out _).trans (Q2.out.mono fun k _ e=>.inl e) (fun k hk e=>e))).trans (Stays.six _ _ _ _ _ _ _ _) (fun k hk e=>by omega)
   ·have k1':(ak == 1)=false:=by simpa using k1
    have k2':(ak == 2)=false:=by simpa using k2
    have hl:rv.lastOf ⟨ak,af,ad,an,ac⟩ = -1:=if_neg k1
    have HLA:=Lib.hid hl
    have HST:Hid (rv.step room s ⟨ak,af,ad,an,ac⟩=(⟨3,0,0,[],[],false⟩,s)):=Lib.hid (by unfold rv.step;rw [if_neg k1,if_neg k2])
    have zd:=HT3.out.get
    have ze:=HT3.out.frozen
    clear hl HARR HOK HNO
    go_wp2
    go_meet
    refine ⟨3,[],false,s,D,dc,M,mc,none,0,by rw [HLA.out],HST,Lib.hid ⟨fun k hk=>(HLT.out k hk).2,H3.out.stays (Stays.set _ _ _ _) (fun k hk e=>by have:=(HLT.out k hk).2;omega),by simpa using HT3.out.set 0 (.int .i64 3),HR3.out.setCell (by simp) _,Own.nil _ _ _ _,(fun k hk=>by cases hk),(Stays.of_below HB3.out _).trans (Stays.set _ _ _ _) (fun k hk e=>by omega),fun k hk=>.inl hk⟩⟩
 case rest=>
  obtain ⟨c,dt,b,s',D1,dc1,M1,mc1,E,ec,rfl,HST,HM⟩:=hcut
  rename World=>w5
  have hI2:=HIN.out
  rw [HST.out] at hI2
  simp only at hI2
  have HI2:=Lib.hid hI2
  have hlo:=hI2.lo
  have htop:=hI2.top
  clear HIN HARR HOK HNO hI2 y0 y1 y2 y3 y4
  have r0:=HM.out.at_.blk.get 0
  have r2:=HM.out.at_.blk.get 2
  have r3:=HM.out.at_.blk.get 3
  have r4:=HM.out.at_.blk.get 4
  have r5:=HM.out.at_.blk.get 5
  simp only [List.getElem?_toArray,List.getElem?_cons_succ,List.getElem?_cons_zero] at r0 r2 r3 r4 r5
  have hF5:=HM.out.at_.blk.lt
  have hT5:=HM.out.box.lt
  have hR5:=HM.out.res.lt
  have tc:=HM.out.box.get
  have tf:=HM.out.box.frozen
  have n1:F≠w.heap.size+1+1:=by omega
  have n2:w.heap.size+1+1≠F:=by omega
  obtain ⟨dn,hdn⟩:∃ dn,s'.done=dn:=⟨_,rfl⟩
  obtain ⟨tk,htk⟩:∃ tk,s'.taken=tk:=⟨_,rfl⟩
  obtain ⟨en,hen⟩:∃ en,s'.end_=en:=⟨_,rfl⟩
  rw [hdn] at hlo htop r2
  rw [htk] at hlo r4
  rw [hen] at r5
  have HDN:=Lib.hid hdn
  have HTK:=Lib.hid htk
  have HEN:=Lib.hid hen
  clear hdn htk hen
  have e1:IntKind.i64.wrap (tk+room)=tk+room:=IntWalk.i64_in _ (by omega)
  have e2:IntKind.i64.wrap (tk+room - dn)=tk+room - dn:=IntWalk.i64_in _ (by omega)
  go_upto_region 10 with (fail)
  go_cut [] (fun wx=>Hid (DoMid w wx B F room s.more D M dt s' D1 dc1 M1 mc1 E ec #[.int .i64 c,.int .i64 dn,.int .i64 (tk+room - dn),.slice none 0 0,.slice E (List.length dt) ec,.bool b]))
  case first=>
   go_region_held3 (fun w'=>w'.cell? ⟨F,0,none⟩=some (.int .i64 room)∧w'.cell? ⟨F,2,none⟩=some (.int .i64 dn)∧w'.cell? ⟨F,4,none⟩=some (.int .i64 tk)) ((first | (go_keep;done) | (refine ⟨?_,?_,?_⟩ <;> (simp [go_sem, *];done)) | fail)) (fail)
   all_goals
    (try go_wp2)
    go_meet
    exact Lib.hid (HM.out.touch (((Stays.set _ _ _ _).comp (Stays.set _ _ _ _)).comp (Stays.of_below (Below.drew (bself _)) _)) (by simpa using ((HM.out.box.set 1 (.int .i64 dn)).set 2 (.int .i64 (tk+room - dn))).drew))
  case rest=>
   rename World=>w6
   have HM6:=hcut
   clear hcut r0 r2 r3 r4 r5 tc tf hF5 hT5 hR5 e1 e2 HM
   obtain ⟨wd,hwd⟩:∃ wd,wd=tk+room - dn:=⟨_,rfl⟩
   rw [← hwd] at HM6
   have HWD:=Lib.hid hwd
   clear hwd
   obtain ⟨ack,HAK⟩:∃ ack,Hid (ack=if dn=en then dn+1 else dn):=⟨_,Lib.hid rfl⟩
   have r2:=HM6.out.at_.blk.get 2
   have r5:=HM6.out.at_.blk.get 5
   simp only [List.getElem?_toArray,List.getElem?_cons_succ,List.getElem?_cons_zero] at r2 r5
   rw [HDN.out] at r2
   rw [HEN.out] at r5
   have hF5:=HM6.out.at_.blk.lt
   have hT5:=HM6.out.box.lt
   have hR5:=HM6.out.res.lt
   have tc:=HM6.out.box.get
   have tf:=HM6.out.box.frozen
   go_wp2
   go_quiet (fail)
   go_upto_if 52 with (fail)
   go_cut [] (fun wx=>Hid (DoMid w wx B F room s.more D M dt s' D1 dc1 M1 mc1 E ec #[.int .i64 c,.int .i64 ack,.int .i64 wd,.slice none 0 0,.slice E (List.length dt) ec,.bool b]))
   case first=>
    by_cases he:dn=en
    ·have hak:ack=dn+1:=by rw [HAK.out,if_pos he]
     have he':(dn == en)=true:=by simpa using he
     have HAK2:=Lib.hid hak
     clear hak he
     go_wp2
     go_meet
     rw [HAK2.out]
     exact Lib.hid (HM6.out.touch ((Stays.of_below (bdrewN (bself _) _) _).comp (Stays.set _ _ _ _)) (by simpa using (HM6.out.box.drewN _).set 1 (.int .i64 (dn+1))))
    ·have hak:ack=dn:=by rw [HAK.out,if_neg he]
     have he':(dn == en)=false:=by simpa using he
     have HAK2:=Lib.hid hak
     clear hak he
     go_wp2
     go_meet
     rw [HAK2.out]
     exact Lib.hid (HM6.out.touch (Stays.of_below (bdrewN (bself _) _) _) (HM6.out.box.drewN _))
   case rest=>
    rename World=>w7
    have HM7:=hcut
    clear hcut r2 r5 tc tf hF5 hT5 hR5 HM6
    have r2:=HM7.out.at_.blk.get 2
    have r3:=HM7.out.at_.blk.get 3
    simp only [List.getElem?_toArray,List.getElem?_cons_succ,List.getElem?_cons_zero] at r2 r3
    rw [HDN.out] at r2
    have hF7:=HM7.out.at_.blk.lt
    have hT7:=HM7.out.box.lt
    have hR7:=HM7.out.res.lt
    have HSK:=Lib.hid (fun wz (hb:Below w7.heap.size w7 wz)=>show Calls Try.prog 41 #[.int .i64 dn,.slice M1 s'.more.length mc1,.int .i64 (rv.lastOf ⟨ak,af,ad,an,ac⟩),.int .i64 3] wz (fun e w'=>∃ A c,e=.returned (.tuple #[.slice A (sacks (rv.lastOf ⟨ak,af,ad,an,ac⟩) 3 s'.more).length c,.int .i64 0])∧SlRep Rng.rep w' (fun k=>wz.heap.size≤k∧k<w'.heap.size) (sacks (rv.lastOf ⟨ak,af,ad,an,ac⟩) 3 s'.more) A c∧Below wz.heap.size wz w') from by
     have h:=hole_Sacks_res s'.done s'.more (rv.lastOf ⟨ak,af,ad,an,ac⟩) 3 M1 mc1 wz ((HM7.out.at_.next hb).moreLt) (by have:=HI2.out.few;omega)
     rw [rv.sack_of HI2.out,HDN.out] at h
     exact h)
    have HFIN:Hid (∀ A cA wx w8,Below w7.heap.size w7 w8→SlRep Rng.rep w8 (fun k=>w7.heap.size≤k∧k<w8.heap.size) (sacks (rv.lastOf ⟨ak,af,ad,an,ac⟩) 3 s'.more) A cA→Stays w8 wx (fun k=>k=w.heap.size+1+1∨k=w.heap.size+1)→TellRes w B F room s.more (rv.doIt room s ⟨ak,af,ad,an,ac⟩) D M (.returned (.agg #[.int .i64 c,.int .i64 ack,.int .i64 wd,.slice A (sacks (rv.lastOf ⟨ak,af,ad,an,ac⟩) 3 s'.more).length cA,.slice E dt.length ec,.bool b])) wx):=Lib.hid (fun A cA wx w8 hb8 hA hs=>by
     unfold rv.doIt
     rw [HST.out]
     simp only
     rw [HDN.out,HTK.out,HEN.out,← HAK.out,← HWD.out]
     have hlt:=HM7.out.own.lt
     refine ⟨[.int .i64 c,.int .i64 ack,.int .i64 wd,.slice A (sacks (rv.lastOf ⟨ak,af,ad,an,ac⟩) 3 s'.more).length cA,.slice E dt.length ec,.bool b],D1,dc1,M1,mc1,rfl,Told.rep_iff.2 ⟨A,cA,E,ec,rfl,?_,?_⟩,(HM7.out.at_.next hb8).stays hs (fun k hk e=>?_),?_,fun k hk=>(HM7.out.nm k hk).imp id (fun e=>by omega)⟩
     ·refine hA.keep fun k hk=>⟨⟨by omega,Nat.lt_of_lt_of_le hk.2 hs.size,fun e=>?_⟩,hs.block k hk.2 (fun e=>by omega)⟩
      have:=(HM7.out.at_.hf_lt e).2
      omega
     ·have hd:=((HM7.out.own.next hb8).stays hs (fun k hk e=>by have:=(hlt k hk).1;omega))
      refine ((Own.u8 hd).2.tight flat_u8).keep fun k hk=>⟨⟨by have:=(hlt k hk).1;omega,(hd.lt k hk).2,HM7.out.far k hk⟩,rfl⟩
     ·have h2:=HM7.out.nohf hk
      rcases e with e | e
      ·exact h2.1 e
      ·exact h2.2 e
     ·exact (HM7.out.stay.comp (Stays.of_below hb8 _)).trans hs (fun k hk e=>by omega))
    go_wp2_with fail
    go_region_held3 (fun w'=>w'.cell? ⟨F,2,none⟩=some (.int .i64 dn)∧w'.cell? ⟨F,3,none⟩=some (.slice M1 s'.more.length mc1)) ((first | (go_keep;done) | (refine ⟨?_,?_⟩ <;> (simp [go_sem, *];done)) | fail))
     (first
      | (go_at_call 41;refine (HSK.out _ (by exact (by repeat (first | (with_reducible first | exact Below.refl _ _ | assumption | refine bset ?_ ?_ _ | refine balloc ?_ _ | refine Below.drew ?_ | refine bdrewN ?_ _ | refine bnext ?_ (by with_reducible assumption)) | exact Nat.le_refl _ | (simp;done) | omega | (simp;omega))))).mono ?_;rintro e w8 ⟨A8,c8,rfl,hA8,hb8⟩;have B8:Below w7.heap.size w7 w8:=(by repeat (first | (with_reducible first | exact Below.refl _ _ | assumption | refine bset ?_ ?_ _ | refine balloc ?_ _ | refine Below.drew ?_ | refine bdrewN ?_ _ | refine bnext ?_ (by with_reducible assumption)) | exact Nat.le_refl _ | (simp;done) | omega | (simp;omega)));have x2:=(B8.cell (p:=⟨F,2,none⟩) hF7).trans r2;have x3:=(B8.cell (p:=⟨F,3,none⟩) hF7).trans r3;have b8:=HM7.out.box.next B8;have tc:=b8.get;have tf:=b8.frozen;have b9:=HM7.out.res.next B8;have uc:=b9.get;have uf:=b9.frozen;have S8:=Lib.hid hA8;clear hA8 hb8 b8 b9)
      | fail)
    all_goals
     go_wp2
     refine bodyPost_ret (v:=.agg #[.int .i64 c,.int .i64 ack,.int .i64 wd,.slice A8 (sacks (rv.lastOf ⟨ak,af,ad,an,ac⟩) 3 s'.more).length c8,.slice E dt.length ec,.bool b]) (by simp [results,Try.results21,go_sem, *]) rfl (HFIN.out _ _ _ w8 B8 (S8.out.within fun k hk=>⟨Nat.le_trans (by first | exact Nat.le_refl _ | (simp;done) | (simp;omega)) hk.1,hk.2⟩) ?_)
     exact ((Stays.set _ _ _ _).mono fun k _ hk=>.inl hk).comp ((Stays.six _ _ _ _ _ _ _ _).mono fun k _ hk=>.inr hk)
end
end Go.Proofs.Ytdldfllllgogoaa
namespace Go.Proofs.Ytdldfllllgogoaa
open Go.RowKit Go.Maps Go.WideShapes Go.ChangeMaps Go.MapKept
set_option linter.unusedSimpArgs false
def TellRf (w:World) (G Mb n:Nat) (room:Int) (r:Told × rv.St) (e:Ending) (w':World):Prop:=
 ∃ cs n',e=.returned (.agg cs.toArray)∧n'≤n+64∧Told.rep.rep w' (fun k=>w.heap.size≤k∧k<w'.heap.size) r.1 cs∧IS w' G Mb n' room r.2∧Stays w w' (GM G Mb)
/-- behind the switch of Arrival -/
structure RMid (w wx:World) (G Mb n n2:Nat) (room:Int) (tk:Int) (dt:List UInt8) (s':rv.St) (E:Option Addr) (ec:Nat) (bx:Array Value):Prop where
 lt:G<w.heap.size∧Mb<w.heap.size
 at_:IAt wx G Mb n2 room tk (rv.endOf s') (rv.knownOf s') (rv.mapF s')
 box:BlkA wx (w.heap.size+1+1) 41 bx
 res:BlkA wx (w.heap.size+1) 41 #[.int .i64 0,.int .i64 0,.int .i64 0,.slice none 0 0,.slice none 0 0,.bool false]
 own:Own wx (w.heap.size+1+1+1) 5 1 E dt.length ec (dt.map rv.u8v)
 stay:Stays w wx (GM G Mb)
 few:n2≤n+64
theorem RMid.touch {w wx wy:World} {G Mb n n2:Nat} {room tk:Int} {dt:List UInt8} {s':rv.St} {E:Option Addr} {ec:Nat} {bx bx':Array Value} (h:RMid w wx G Mb n n2 room tk dt s' E ec bx) (hs:Stays wx wy (fun k=>k=w.heap.size+1+1)) (hb:BlkA wy (w.heap.size+1+1) 41 bx'):RMid w wy G Mb n n2 room tk dt s' E ec bx':=
 ⟨h.lt,h.at_.stays hs (fun e=>by have:=h.lt.1;omega) (fun e=>by have:=h.lt.2;omega),hb,h.res.stays hs (fun e=>by omega),h.own.stays hs (fun k hk e=>by have:=(h.own.lt k hk).1;omega),h.stay.trans hs (fun k hk e=>by omega),h.few⟩
theorem RMid.next {w wx wy:World} {G Mb n n2:Nat} {room tk:Int} {dt:List UInt8} {s':rv.St} {E:Option Addr} {ec:Nat} {bx:Array Value} (h:RMid w wx G Mb n n2 room tk dt s' E ec bx) (hb:Below wx.heap.size wx wy):RMid w wy G Mb n n2 room tk dt s' E ec bx:=h.touch (Stays.of_below hb _) (h.box.next hb)
theorem rv.take_at {room:Int} {s:rv.St} (h:rv.Inv room s) {c:Int} {k:Nat} (hk:k<rv.takeOf s c) (hc:0≤c):rv.mapF s (s.taken+k)=some (rv.u8v (s.data.getD (s.taken.toNat+k) 0)):=by
 have h1:=rv.takeOf_le h hc
 have h2:=h.lo
 unfold rv.mapF rv.bytesOf
 rw [if_pos (.inl ⟨by omega,by omega⟩),Option.map_some,show (s.taken+(k:Int)).toNat=s.taken.toNat+k by omega]
theorem rv.take_snoc {s:rv.St} {k:Nat} (h:s.taken.toNat+k<s.data.length):(s.data.drop s.taken.toNat).take (k+1)=(s.data.drop s.taken.toNat).take k ++ [s.data.getD (s.taken.toNat+k) 0]:=by
 rw [List.take_add_one,List.getElem?_drop,List.getElem?_eq_getElem h,List.getD_eq_getElem?_getD,List.getElem?_eq_getElem h]
 rfl
theorem rv.take_stop {room:Int} {s:rv.St} (h:rv.Inv room s) {c:Int} (hc:0≤c) (hl:(rv.takeOf s c:Int)<c):rv.mapF s (s.taken+rv.takeOf s c)=none:=by
 have h1:=rv.takeOf_le h hc
 have h2:=h.lo
 rw [show s.taken+(rv.takeOf s c:Int)=s.done by omega]
 exact rv.mapF_none.2 (rv.low_not h)
theorem rv.end_at {room:Int} {s:rv.St} (h:rv.Inv room s) {x:Int} (hx:0≤x):(rv.knownOf s && (x == rv.endOf s))=decide (x=s.end_):=by
 unfold rv.knownOf rv.endOf
 rcases h.fin with e | e
 ·rw [if_pos e,e]
  simp
  omega
 ·rw [if_neg (by omega)]
  rw [decide_eq_true e.1,Bool.true_and]
  exact Bool.eq_iff_iff.2 (by simp)
def rv.lenC:Option Value→Nat
 | some (.slice _ n _)=>n
 | _=>0
theorem RMid.push {w wr wa w6:World} {G Mb n n2:Nat} {room tk:Int} {dt:List UInt8} {s':rv.St} {E E6:Option Addr} {ec ec6:Nat} {v0 v1 v2 v3 v4 v5:Value} {k:Nat} {x:UInt8} (h:RMid w wr G Mb n n2 room tk dt s' E ec #[v0,v1,v2,v3,v4,v5]) (hk:dt.length=k) (hb:Below wr.heap.size wr wa) (hg:Grew wa w6 E E6) (ho:Own w6 (w.heap.size+1+1+1) 5 1 E6 (k+1) ec6 (dt.map rv.u8v ++ [rv.u8v x])) :
  RMid w ((w6.setCell ⟨w.heap.size+1+1,4,none⟩ (.slice E6 (k+1) ec6)).setCell ⟨G,2,none⟩ (.int .i64 (tk+1))) G Mb n n2 room (tk+1) (dt ++ [x]) s' E6 ec6 #[v0,v1,v2,v3,.slice E6 (k+1) ec6,v5]:=by
 have hlt:=h.own.lt
 have hlt6:=ho.lt
 have h1:=h.lt.1
 have h2:=h.lt.2
 have hne:=h.at_.two
 have st:Stays wr w6 (fun q=>blkOf E=some q):=(Stays.of_below hb _).comp (Stays.grew hg)
 have st2:Stays wr ((w6.setCell ⟨w.heap.size+1+1,4,none⟩ (.slice E6 (k+1) ec6)).setCell ⟨G,2,none⟩ (.int .i64 (tk+1))) (fun q=>blkOf E=some q∨q=w.heap.size+1+1∨q=G):=
  ((st.mono fun _ _ e=>.inl e).comp ((Stays.set _ _ _ _).mono fun _ _ e=>.inr (.inl e))).comp ((Stays.set _ _ _ _).mono fun _ _ e=>.inr (.inr e))
 have hbx:BlkA w6 (w.heap.size+1+1) _ _:=h.box.stays st (fun e=>by have:=(hlt _ e).1;omega)
 have hgx:BlkA w6 G _ _:=h.at_.blk.stays st (fun e=>by have:=(hlt _ e).1;omega)
 refine ⟨h.lt,⟨?_,h.at_.map.stays st2 (fun e=>?_)⟩,?_,h.res.stays st2 (fun e=>?_),?_,h.stay.trans st2 (fun q hq e=>?_),h.few⟩
 ·simpa using (hgx.setCell (p:=⟨w.heap.size+1+1,4,none⟩) (by simp only;omega) (.slice E6 (k+1) ec6)).set 2 (.int .i64 (tk+1))
 ·rcases e with e | e | e
  ·have:=(hlt _ e).1;omega
  ·omega
  ·exact hne e
 ·have hx:=(hbx.set 4 (.slice E6 (k+1) ec6)).setCell (p:=⟨G,2,none⟩) (by simp only;omega) (.int .i64 (tk+1))
  simpa using hx
 ·rcases e with e | e | e
  ·have:=(hlt _ e).1;omega
  ·omega
  ·omega
 ·rw [List.map_append,List.length_append,hk]
  exact (ho.setCell (fun e=>by have:=(hlt6 _ e).1;simp only at this;omega) _).setCell (fun e=>by have:=(hlt6 _ e).1;simp only at this;omega) _
 ·rcases e with e | e | e
  ·have:=(hlt _ e).1;omega
  ·omega
  ·exact .inl e
theorem RMid.fin {w wr wy:World} {G Mb n n2:Nat} {room tk:Int} {dt:List UInt8} {s:rv.St} {E:Option Addr} {ec:Nat} {k:Nat} {b b':Bool} (h:RMid w wr G Mb n n2 room tk dt s E ec #[.int .i64 0,.int .i64 0,.int .i64 0,.slice none 0 0,.slice E k ec,.bool b]) (hk:dt.length=k) (hw:wy=(wr.setCell ⟨w.heap.size+1+1,5,none⟩ (.bool b')).drew):RMid w wy G Mb n n2 room tk dt { s with taken:=tk } E ec #[.int .i64 0,.int .i64 0,.int .i64 0,.slice none 0 0,.slice E dt.length ec,.bool b']:=by
 rw [hk]
 have h2:RMid w wy G Mb n n2 room tk dt s E ec #[.int .i64 0,.int .i64 0,.int .i64 0,.slice none 0 0,.slice E k ec,.bool b']:=by
  rw [hw]
  exact (h.touch (bx':=#[.int .i64 0,.int .i64 0,.int .i64 0,.slice none 0 0,.slice E k ec,.bool b']) (Stays.set _ _ _ _) (by simpa using h.box.set 5 (.bool b'))).next (Below.drew (bself _))
 exact ⟨h2.lt,h2.at_,h2.box,h2.res,h2.own,h2.stay,h2.few⟩
section
variable (G Mb n:Nat) (room:Int) (s:rv.St) (a:Arrival) (Ga:Option Addr) (gc:Nat) (S:Nat→Prop) (w:World)
set_option maxRecDepth 100000 in
set_option maxHeartbeats 4000000 in
theorem ref_Arrival (h:IS w G Mb n room s) (hi:rv.Inv room s) (hr:1≤room∧room≤4096) (hG:SlRep Rep.u8 w S a.data Ga gc) (hS:∀ k,S k→k<w.heap.size∧¬ GM G Mb k) (ha:IntOk a.from_) (hd:a.data.length≤140737488351232) (hn:n≤1000000) :
  Calls Try.prog 23 #[.pointer (some ⟨G,0,none⟩),.agg #[.int .i64 a.kind,.int .i64 a.from_,.slice Ga a.data.length gc,.bool a.fin,.int .i64 a.count]] w (TellRf w G Mb n room (rv.doIt room s a)):=by
 obtain ⟨ak,af,ad,an,ac⟩:=a
 simp only at hG ha hd ⊢
 have H:=Lib.hid h
 have HI:=Lib.hid hi
 have hFl:=h.blk.lt
 have hMl:=h.map.lt
 obtain ⟨ca,hca⟩:∃ ca:Array Value,ca = #[.int .i64 ak,.int .i64 af,.slice Ga ad.length gc,.bool an,.int .i64 ac]:=⟨_,rfl⟩
 obtain ⟨zt,hzt⟩:∃ zt:Array Value,zt = #[.int .i64 0,.int .i64 0,.int .i64 0,.slice none 0 0,.slice none 0 0,.bool false]:=⟨_,rfl⟩
 obtain ⟨w3,hw3⟩:∃ w3,w3=((w.alloc (.cells ca 73)).alloc (.cells zt 41)).alloc (.cells zt 41):=⟨_,rfl⟩
 have hb3:Below w.heap.size w w3:=by rw [hw3];exact balloc (balloc (balloc (bself w) _) _) _
 have hs3:w3.heap.size=w.heap.size+1+1+1:=by rw [hw3];simp
 have hA3:BlkA w3 w.heap.size 73 ca:=by rw [hw3];exact ((BlkA.new w 73 _).alloc _).alloc _
 have hR3:BlkA w3 (w.heap.size+1) 41 zt:=by
  rw [hw3]
  have h:=(BlkA.new (w.alloc (.cells ca 73)) 41 zt).alloc (.cells zt 41)
  simpa using h
 have hT3:BlkA w3 (w.heap.size+1+1) 41 zt:=by
  rw [hw3]
  have h:=BlkA.new ((w.alloc (.cells ca 73)).alloc (.cells zt 41)) 41 zt
  simpa using h
 have h3:=h.next hb3
 have HARR:=Lib.hid (ref_arrives G Mb n room s ⟨ak,af,ad,an,ac⟩ Ga gc S w3 h3 hi hr (hG.keep fun k hk=>⟨hk,hb3.block k (hS k hk).1⟩) (fun k hk=>⟨Nat.lt_of_lt_of_le (hS k hk).1 hb3.size,(hS k hk).2⟩) ha hd hn)
 subst hca hzt
 have HB3:=Lib.hid hb3
 have HS3:=Lib.hid hs3
 have HA3:=Lib.hid hA3
 have HR3:=Lib.hid hR3
 have HT3:=Lib.hid hT3
 have H3:Hid (IS w3 G Mb n room s):=Lib.hid h3
 have HIN:=Lib.hid (hi.step ⟨ak,af,ad,an,ac⟩)
 simp only at HARR
 have y0:=hA3.get 0
 have y1:=hA3.get 1
 have y2:=hA3.get 2
 have y3:=hA3.get 3
 have y4:=hA3.get 4
 simp only [List.getElem?_toArray,List.getElem?_cons_succ,List.getElem?_cons_zero] at y0 y1 y2 y3 y4
 clear h hi hG hS hA3 hR3 hT3 h3 hb3
 go_enter Try.func23,Try.ntmps23
 go_upto_region 3 with (fail)
 rw [← hw3]
 clear hw3
 go_upto_block 0 with (fail)
 go_cut [6] (fun s6 wx=>∃ n2 c dt b s' E ec,s6=.int .i64 (rv.lastOf ⟨ak,af,ad,an,ac⟩)∧Hid (rv.step room s ⟨ak,af,ad,an,ac⟩=(⟨c,0,0,[],dt,b⟩,s'))∧Hid (RMid w wx G Mb n n2 room s'.taken dt s' E ec #[.int .i64 c,.int .i64 0,.int .i64 0,.slice none 0 0,.slice E (List.length dt) ec,.bool b]))
 case first=>
  by_cases k1:ak=1
  ·subst k1
   go_wp2_with (first
    | (go_at_call 42;((with_reducible refine HARR.out.mono ?_);rintro e w4 ⟨n2,q0,rfl,q1,q2⟩;have Q0:=Lib.hid q0;have Q1:=Lib.hid q1;have Q2:=Lib.hid q2;have z1:=HA3.out.stays q2 (fun e=>by rcases e with e | e <;> omega);have z2:=HT3.out.stays q2 (fun e=>by rcases e with e | e <;> omega);have zc:=z1.get;have zd:=z2.get;have ze:=z2.frozen;clear q0 q1 q2))
    | fail)
   go_meet
   refine ⟨n2,(rv.arrive room s ⟨1,af,ad,an,ac⟩).1,[],false,(rv.arrive room s ⟨1,af,ad,an,ac⟩).2,none,0,rfl,Lib.hid (by unfold rv.step;rw [if_pos rfl]),Lib.hid ?_⟩
   have h1:RMid w w4 G Mb n n2 room (rv.arrive room s ⟨1,af,ad,an,ac⟩).2.taken [] (rv.arrive room s ⟨1,af,ad,an,ac⟩).2 none 0 _:=⟨⟨hFl,hMl⟩,Q1.out,z2,HR3.out.stays Q2.out (fun e=>by rcases e with e | e <;> omega),Own.nil _ _ _ _,(Stays.of_below HB3.out _).trans Q2.out (fun k hk e=>e),Q0.out⟩
   exact h1.touch (Stays.set _ _ _ _) (by simpa using z2.set 0 (.int .i64 (rv.arrive room s ⟨1,af,ad,an,ac⟩).1))
  ·by_cases k2:ak=2
   ·subst k2
    have hl:rv.lastOf ⟨2,af,ad,an,ac⟩ = -1:=if_neg (by simp)
    have HLA:=Lib.hid hl
    have zd:=HT3.out.get
    have ze:=HT3.out.frozen
    have h1:RMid w w3 G Mb n n room s.taken [] s none 0 #[.int .i64 0,.int .i64 0,.int .i64 0,.slice none 0 0,.slice none 0 0,.bool false]:=⟨⟨hFl,hMl⟩,H3.out,HT3.out,HR3.out,Own.nil _ _ _ _,Stays.of_below HB3.out _,by omega⟩
    have HM3:=Lib.hid h1
    clear hl HARR h1
    by_cases hc1:ac<0
    ·have HST:Hid (rv.step room s ⟨2,af,ad,an,ac⟩=(⟨2,0,0,[],[],false⟩,s)):=Lib.hid (by unfold rv.step;rw [if_neg (by simp),if_pos rfl,if_pos (.inl hc1)])
     go_wp2
     go_meet
     exact ⟨n,2,[],false,s,none,0,by rw [HLA.out],HST,Lib.hid (HM3.out.touch (Stays.set _ _ _ _) (by simpa using HT3.out.set 0 (.int .i64 2)))⟩
    by_cases hc2:4096<ac
    ·have HST:Hid (rv.step room s ⟨2,af,ad,an,ac⟩=(⟨2,0,0,[],[],false⟩,s)):=Lib.hid (by unfold rv.step;rw [if_neg (by simp),if_pos rfl,if_pos (.inr hc2)])
     go_wp2
     go_meet
     exact ⟨n,2,[],false,s,none,0,by rw [HLA.out],HST,Lib.hid (HM3.out.touch (Stays.set _ _ _ _) (by simpa using HT3.out.set 0 (.int .i64 2)))⟩
    have hc0:0≤ac:=by omega
    have HST:Hid (rv.step room s ⟨2,af,ad,an,ac⟩=(⟨0,0,0,[],(s.data.drop s.taken.toNat).take (rv.takeOf s ac),decide (s.taken+rv.takeOf s ac=s.end_)⟩,{ s with taken:=s.taken+rv.takeOf s ac })):=Lib.hid (by unfold rv.step;rw [if_neg (by simp),if_pos rfl,if_neg (by simp only;omega)])
    have hm1:=rv.takeOf_le HI.out (c:=ac) hc0
    have hlo:=HI.out.lo
    have htop:=HI.out.top
    have hlen:=HI.out.len.1
    have HTA:=Lib.hid (fun k hk=>rv.take_at HI.out (c:=ac) (k:=k) hk hc0)
    have HTS:=Lib.hid (fun hl=>rv.take_stop HI.out (c:=ac) hc0 hl)
    obtain ⟨m,hm⟩:∃ m,m=rv.takeOf s ac:=⟨_,rfl⟩
    rw [← hm] at HST hm1 HTS HTA
    have hmb:(m:Int)≤ac∧(m:Int)≤s.done - s.taken:=by omega
    clear hm
    go_upto_block 1 with fail
    go_cut [] (fun wx=>∃ (E:Option Addr) (ec:Nat) (dt:List UInt8),Hid (dt=(s.data.drop s.taken.toNat).take m∧dt.length=m)∧Hid (RMid w wx G Mb n n room (s.taken+(m:Int)) dt s E ec #[.int .i64 0,.int .i64 0,.int .i64 0,.slice none 0 0,.slice E m ec,.bool false]))
    case first=>
     go_wp2
     go_loopw [] (fun wr=>∃ (k:Nat) (E:Option Addr) (ec:Nat) (dt:List UInt8),k≤m∧Hid (dt=(s.data.drop s.taken.toNat).take k∧dt.length=k)∧Hid (RMid w wr G Mb n n room (s.taken+(k:Int)) dt s E ec #[.int .i64 0,.int .i64 0,.int .i64 0,.slice none 0 0,.slice E k ec,.bool false]∧BlkA wr w.heap.size 73 #[.int .i64 2,.int .i64 af,.slice Ga ad.length gc,.bool an,.int .i64 ac])) (fun wr=>m - rv.lenC (wr.cell? ⟨w.heap.size+1+1,4,none⟩))
     case atStart=>exact ⟨0,none,0,[],by omega,Lib.hid ⟨by simp,rfl⟩,Lib.hid ⟨by simpa using HM3.out,HA3.out⟩⟩
     case round=>
      obtain ⟨k,E,ec,dt,hk,HDT,HK⟩:=hrel
      rename World=>wr
      have zd:=HK.out.1.box.get
      have ze:=HK.out.1.box.frozen
      have y4:=HK.out.2.get 4
      have hA:=HK.out.1.at_
      have c1:=hA.blk.get 1
      have c2:=hA.blk.get 2
      have c3:=hA.blk.get 3
      have c4:=hA.blk.get 4
      simp only [List.getElem?_toArray,List.getElem?_cons_succ,List.getElem?_cons_zero] at y4 c1 c2 c3 c4
      have hFr:=hA.blk.lt
      have hTr:=HK.out.1.box.lt
      obtain ⟨p,hp⟩:∃ p,s.taken+(k:Int)=p:=⟨_,rfl⟩
      have HP:=Lib.hid hp
      have hpb:0≤p∧p≤1048575:=by omega
      rw [hp] at c2
      have HWF:Hid ((Lit.int .i64 p).wf=true):=Lib.hid (wf_i64 (by unfold IntOk;omega))
      have HLK:=Lib.hid (fun q:Nat=>(hA.map.drewN q).look_ok (Go.Maps.int_keyed Try.underlying3) Try.underlying68 (z:=.int .u8 0) (by kernel_rfl) (Go.Maps.keyOf_int_mk Try.underlying3 HWF.out))
      have HTK:=Lib.hid (HTA.out k)
      rw [hp] at HTK
      clear hA
      by_cases hlt:k<m
      ·have hlt':(k:Int)<ac:=by omega
       have hlk:∀ q:Nat,(Instr.lookup 68 (.map (some Mb)) (.int .i64 p) true).run Try.prog (wr.drewN q)=.ok (.tuple #[.int .u8 ((s.data.getD (s.taken.toNat+k) 0).toNat:Int),.bool true]) (wr.drewN q):=fun q=>by
        have h:=HLK.out q
        rw [mapI_at,HTK.out hlt] at h
        exact h
       have HNX:=Lib.hid (rv.take_snoc (s:=s) (k:=k) (by omega))
       have ep:p+1=s.taken+((k+1:Nat):Int):=by omega
       have HEP:=Lib.hid ep
       have hd0:=HK.out.1.own
       rw [HDT.out.2] at hd0
       have HD0:=Lib.hid hd0
       have hapx:blkOf E≠some (w.heap.size+1+1):=HK.out.1.box.apart hd0 u8NeTold
       have hapg:blkOf E≠some G:=fun e=>by have:=(hd0.lt _ e).1;omega
       have hbase:w.heap.size+1+1+1≤wr.heap.size:=by omega
       generalize s.data.getD (s.taken.toNat+k) 0=x at *
       clear hp ep hd0 HLK HTK
       go_wp2
       go_quiet (fail)
       go_wp2_with (first
        | (at_builtin;refine wp_app _ rfl _ _ _ rfl elemU8 (w.heap.size+1+1+1) E k ec (dt.map rv.u8v) rfl ((HD0.out.drewN _).alloc _) _ 1 1 [.int .u8 (x.toNat:Int)] rfl rfl (Cells.newAt _ _ _ rfl) (by simp [Value.oneCell']) (by omega) (by unfold maxLen;omega) (Nat.le_trans hbase (by simp)) ?_;intro E6 ec6 w6 ho6 hg6;have b6:=(HK.out.1.box.next (balloc (bdrewN (bself _) _) _)).kept hg6.grown hapx;have zd:=b6.get;have ze:=b6.frozen;have b7:=(HK.out.1.at_.blk.next (balloc (bdrewN (bself _) _) _)).kept hg6.grown hapg;have d2:=b7.get 2;have df:=b7.frozen 2;simp only [List.getElem?_toArray,List.getElem?_cons_succ,List.getElem?_cons_zero] at d2;rw [HP.out] at d2;have HO6:=Lib.hid ho6;have HG6:=Lib.hid hg6;clear ho6 hg6 b6 b7)
        | fail)
       have HNEW:=Lib.hid (HK.out.1.push (x:=x) HDT.out.2 (by exact balloc (bdrewN (bself _) _) _) HG6.out HO6.out)
       rw [HP.out] at HNEW
       go_roundw
       case rel=>
        refine ⟨k+1,E6,ec6,dt ++ [x],by omega,Lib.hid ⟨by rw [HNX.out,HDT.out.1],by rw [List.length_append,HDT.out.2];rfl⟩,Lib.hid ⟨?_,?_⟩⟩
        ·rw [← HEP.out]
         exact HNEW.out
        ·have st:=((Stays.of_below (balloc (bdrewN (bself wr) _) _) (fun q=>blkOf E=some q)).comp (Stays.grew HG6.out))
         exact ((HK.out.2.stays st (fun e=>by have:=(HD0.out.lt _ e).1;omega)).setCell (by simp only;omega) _).setCell (by simp only;omega) _
       case measure=>
        have e1:=HNEW.out.box.get 4
        have e0:=HK.out.1.box.get 4
        rw [e1,e0]
        show m - (k+1)<m - k
        omega
      ·obtain rfl:k=m:=by omega
       have HTSP:=Lib.hid HTS.out
       rw [hp] at HTSP
       have HMET:=Lib.hid HK.out.1
       by_cases hl:(k:Int)<ac
       ·have hlk:∀ q:Nat,(Instr.lookup 68 (.map (some Mb)) (.int .i64 p) true).run Try.prog (wr.drewN q)=.ok (.tuple #[.int .u8 0,.bool false]) (wr.drewN q):=fun q=>by
         have h:=HLK.out q
         rw [mapI_at,HTSP.out hl] at h
         exact h
        clear hp HLK HTK HTA HTS HTSP HM3
        go_wp2
        go_quiet (fail)
        go_wp2
        go_meet
        exact ⟨E,ec,dt,HDT,Lib.hid (HMET.out.next (bdrewN (bself _) _))⟩
       ·clear hp HLK HTK HTA HTS HTSP HM3
        go_wp2
        go_meet
        exact ⟨E,ec,dt,HDT,HMET⟩
    case rest=>
     obtain ⟨E,ec,dt,HDT,HK⟩:=hcut
     rename World=>wr
     obtain ⟨p,hp⟩:∃ p,s.taken+(m:Int)=p:=⟨_,rfl⟩
     have HP:=Lib.hid hp
     obtain ⟨bq,hbq⟩:∃ bq,bq=decide (s.taken+(m:Int)=s.end_):=⟨_,rfl⟩
     have HSTQ:Hid (rv.step room s ⟨2,af,ad,an,ac⟩=(⟨0,0,0,[],dt,bq⟩,{ s with taken:=s.taken+(m:Int) })):=Lib.hid (by rw [HST.out,hbq,HDT.out.1])
     have hbe:=rv.end_at HI.out (x:=p) (by omega)
     rw [hp] at hbq
     rw [← hbq] at hbe
     have zd:=HK.out.box.get
     have ze:=HK.out.box.frozen
     have hA:=HK.out.at_
     have c2:=hA.blk.get 2
     have c3:=hA.blk.get 3
     have c4:=hA.blk.get 4
     simp only [List.getElem?_toArray,List.getElem?_cons_succ,List.getElem?_cons_zero] at c2 c3 c4
     rw [hp] at c2
     have hTr:=HK.out.box.lt
     obtain ⟨en,hen⟩:∃ en,rv.endOf s=en:=⟨_,rfl⟩
     rw [hen] at c3 hbe
     have HMET:Hid (∀ wy,wy=(wr.setCell ⟨w.heap.size+1+1,5,none⟩ (.bool bq)).drew→RMid w wy G Mb n n room (s.taken+(m:Int)) dt { s with taken:=s.taken+(m:Int) } E ec #[.int .i64 0,.int .i64 0,.int .i64 0,.slice none 0 0,.slice E (List.length dt) ec,.bool bq]):=Lib.hid (fun wy hw=>HK.out.fin HDT.out.2 hw)
     clear hbq hA hp hen HTA HTS HM3 HK HST
     cases hkn:rv.knownOf s with
     | true=>
      rw [hkn] at c4 hbe
      rw [Bool.true_and] at hbe
      clear hkn
      go_upto_region 16 with (fail)
      refine wp_region_tail [16] (fun wx=>wx.cell? ⟨G,4,none⟩=some (.bool true)∧wx.cell? ⟨G,2,none⟩=some (.int .i64 p)∧wx.cell? ⟨G,3,none⟩=some (.int .i64 en)∧(∀ j:Nat,wx.cell? ⟨w.heap.size+1+1,j,none⟩ = #[Value.int .i64 0,.int .i64 0,.int .i64 0,.slice none 0 0,.slice E m ec,.bool false][j]?)∧(∀ j:Nat,wx.frozen? ⟨w.heap.size+1+1,j,none⟩=false)) (by kernel_rfl) (⟨c4,c2,c3,zd,ze⟩) ?_
      intro hHeld
      refine zP 0 (v:=?_) ?_ (fun _=>hHeld) ?_
      rotate_left
      ·intro w9;go_simp;try with_reducible rfl
      try simp only [Act.put,List.setIfInBounds_toArray,List.set_cons_zero,List.set_cons_succ]
      refine zP 1 (v:=?_) ?_ (fun _=>hHeld) ?_
      rotate_left
      ·intro w9;go_simp;try with_reducible rfl
      try simp only [Act.put,List.setIfInBounds_toArray,List.set_cons_zero,List.set_cons_succ]
      refine zP 2 (v:=?_) ?_ (fun _=>hHeld) ?_
      rotate_left
      ·intro w9;go_simp;try with_reducible rfl
      try simp only [Act.put,List.setIfInBounds_toArray,List.set_cons_zero,List.set_cons_succ]
      refine zT 3 [4,14,16] (v:=?_) ?_ hHeld ?_
      rotate_left
      ·intro w9 hS9;(try dsimp only at hS9);obtain ⟨q1,q2,q3,q4,q5⟩:=hS9;go_simp;try with_reducible rfl
      try simp only [Act.put,List.setIfInBounds_toArray,List.set_cons_zero,List.set_cons_succ]
      refine zP 4 (v:=?_) ?_ (fun _=>hHeld) ?_
      rotate_left
      ·intro w9;go_simp;try with_reducible rfl
      try simp only [Act.put,List.setIfInBounds_toArray,List.set_cons_zero,List.set_cons_succ]
      refine zP 5 (v:=?_) ?_ (fun _=>hHeld) ?_
      rotate_left
      ·intro w9;go_simp;try with_reducible rfl
      try simp only [Act.put,List.setIfInBounds_toArray,List.set_cons_zero,List.set_cons_succ]
      refine zP 6 (v:=?_) ?_ (fun _=>hHeld) ?_
      rotate_left
      ·intro w9;go_simp;try with_reducible rfl
      try simp only [Act.put,List.setIfInBounds_toArray,List.set_cons_zero,List.set_cons_succ]
      refine zP 7 (v:=?_) ?_ (fun _=>hHeld) ?_
      rotate_left
      ·intro w9;go_simp;try with_reducible rfl
      try simp only [Act.put,List.setIfInBounds_toArray,List.set_cons_zero,List.set_cons_succ]
      refine zT 8 [13,14,16] (v:=?_) ?_ hHeld ?_
      rotate_left
      ·intro w9 hS9;(try dsimp only at hS9);obtain ⟨q1,q2,q3,q4,q5⟩:=hS9;go_simp;try with_reducible rfl
      try simp only [Act.put,List.setIfInBounds_toArray,List.set_cons_zero,List.set_cons_succ]
      refine zP 9 (v:=?_) ?_ (fun _=>hHeld) ?_
      rotate_left
      ·intro w9;go_simp;try with_reducible rfl
      try simp only [Act.put,List.setIfInBounds_toArray,List.set_cons_zero,List.set_cons_succ]
      refine zP 10 (v:=?_) ?_ (fun _=>hHeld) ?_
      rotate_left
      ·intro w9;go_simp;try with_reducible rfl
      try simp only [Act.put,List.setIfInBounds_toArray,List.set_cons_zero,List.set_cons_succ]
      refine zP 11 (v:=?_) ?_ (fun _=>hHeld) ?_
      rotate_left
      ·intro w9;go_simp;try with_reducible rfl
      try simp only [Act.put,List.setIfInBounds_toArray,List.set_cons_zero,List.set_cons_succ]
      refine zT 12 [13,14,16] (v:=?_) ?_ hHeld ?_
      rotate_left
      ·intro w9 hS9;(try dsimp only at hS9);obtain ⟨q1,q2,q3,q4,q5⟩:=hS9;go_simp;try with_reducible rfl
      try simp only [Act.put,List.setIfInBounds_toArray,List.set_cons_zero,List.set_cons_succ]
      refine zP 13 (v:=?_) ?_ (fun _=>hHeld) ?_
      rotate_left
      ·intro w9;go_simp;try with_reducible rfl
      try simp only [Act.put,List.setIfInBounds_toArray,List.set_cons_zero,List.set_cons_succ]
      refine zP 14 (v:=?_) ?_ (fun _=>hHeld) ?_
      rotate_left
      ·intro w9;go_simp;try with_reducible rfl
      try simp only [Act.put,List.setIfInBounds_toArray,List.set_cons_zero,List.set_cons_succ]
      refine zP 15 (v:=?_) ?_ (fun _=>hHeld) ?_
      rotate_left
      ·intro w9;go_simp;try with_reducible rfl
      try simp only [Act.put,List.setIfInBounds_toArray,List.set_cons_zero,List.set_cons_succ]
      refine wpAnyT_next (i:=16) (by kernel_rfl) rfl ?_
      intro K hK
      go_simp
      refine hK.out _ _ (zN (by kernel_rfl)) ?_
      clear hK K
      refine wpAnyT_done (by kernel_rfl) ?_ _
      (try go_wp2)
      go_meet
      exact ⟨n,0,dt,bq,{ s with taken:=s.taken+(m:Int) },E,ec,by rw [HLA.out],HSTQ,Lib.hid (HMET.out _ rfl)⟩
     | false=>
      rw [hkn] at c4 hbe
      rw [Bool.false_and] at hbe
      clear hkn
      subst hbe
      go_upto_region 16 with (fail)
      refine wp_region_tail [16] (fun wx=>wx.cell? ⟨G,4,none⟩=some (.bool false)∧wx.cell? ⟨G,2,none⟩=some (.int .i64 p)∧wx.cell? ⟨G,3,none⟩=some (.int .i64 en)∧(∀ j:Nat,wx.cell? ⟨w.heap.size+1+1,j,none⟩ = #[Value.int .i64 0,.int .i64 0,.int .i64 0,.slice none 0 0,.slice E m ec,.bool false][j]?)∧(∀ j:Nat,wx.frozen? ⟨w.heap.size+1+1,j,none⟩=false)) (by kernel_rfl) (⟨c4,c2,c3,zd,ze⟩) ?_
      intro hHeld
      refine zP 0 (v:=?_) ?_ (fun _=>hHeld) ?_
      rotate_left
      ·intro w9;go_simp;try with_reducible rfl
      try simp only [Act.put,List.setIfInBounds_toArray,List.set_cons_zero,List.set_cons_succ]
      refine zP 1 (v:=?_) ?_ (fun _=>hHeld) ?_
      rotate_left
      ·intro w9;go_simp;try with_reducible rfl
      try simp only [Act.put,List.setIfInBounds_toArray,List.set_cons_zero,List.set_cons_succ]
      refine zP 2 (v:=?_) ?_ (fun _=>hHeld) ?_
      rotate_left
      ·intro w9;go_simp;try with_reducible rfl
      try simp only [Act.put,List.setIfInBounds_toArray,List.set_cons_zero,List.set_cons_succ]
      refine zT 3 [4,14,16] (v:=?_) ?_ hHeld ?_
      rotate_left
      ·intro w9 hS9;(try dsimp only at hS9);obtain ⟨q1,q2,q3,q4,q5⟩:=hS9;go_simp;try with_reducible rfl
      try simp only [Act.put,List.setIfInBounds_toArray,List.set_cons_zero,List.set_cons_succ]
      refine zP 4 (v:=?_) ?_ (fun _=>hHeld) ?_
      rotate_left
      ·intro w9;go_simp;try with_reducible rfl
      try simp only [Act.put,List.setIfInBounds_toArray,List.set_cons_zero,List.set_cons_succ]
      refine wpAnyT_pure (i:=5) (v:=undef) rfl (by kernel_rfl) (by kernel_rfl) (by kernel_rfl) (fun _ _ _ h=>h) (.inr ⟨by kernel_rfl,rfl⟩) (fun _=>hHeld) ?_ (by decide)
      try simp only [Act.put,List.setIfInBounds_toArray,List.set_cons_zero,List.set_cons_succ]
      refine wpAnyT_pure (i:=6) (v:=undef) rfl (by kernel_rfl) (by kernel_rfl) (by kernel_rfl) (fun _ _ _ h=>h) (.inr ⟨by kernel_rfl,rfl⟩) (fun _=>hHeld) ?_ (by decide)
      try simp only [Act.put,List.setIfInBounds_toArray,List.set_cons_zero,List.set_cons_succ]
      refine wpAnyT_pure (i:=7) (v:=undef) rfl (by kernel_rfl) (by kernel_rfl) (by kernel_rfl) (fun _ _ _ h=>h) (.inr ⟨by kernel_rfl,rfl⟩) (fun _=>hHeld) ?_ (by decide)
      try simp only [Act.put,List.setIfInBounds_toArray,List.set_cons_zero,List.set_cons_succ]
      refine wpAnyT_pure (i:=8) (v:=undef) rfl (by kernel_rfl) (by kernel_rfl) (by kernel_rfl) (fun _ _ _ h=>h) (.inr ⟨by kernel_rfl,rfl⟩) (fun _=>hHeld) ?_ (by decide)
      try simp only [Act.put,List.setIfInBounds_toArray,List.set_cons_zero,List.set_cons_succ]
      refine wpAnyT_pure (i:=9) (v:=undef) rfl (by kernel_rfl) (by kernel_rfl) (by kernel_rfl) (fun _ _ _ h=>h) (.inr ⟨by kernel_rfl,rfl⟩) (fun _=>hHeld) ?_ (by decide)
      try simp only [Act.put,List.setIfInBounds_toArray,List.set_cons_zero,List.set_cons_succ]
      refine wpAnyT_pure (i:=10) (v:=undef) rfl (by kernel_rfl) (by kernel_rfl) (by kernel_rfl) (fun _ _ _ h=>h) (.inr ⟨by kernel_rfl,rfl⟩) (fun _=>hHeld) ?_ (by decide)
      try simp only [Act.put,List.setIfInBounds_toArray,List.set_cons_zero,List.set_cons_succ]
      refine wpAnyT_pure (i:=11) (v:=undef) rfl (by kernel_rfl) (by kernel_rfl) (by kernel_rfl) (fun _ _ _ h=>h) (.inr ⟨by kernel_rfl,rfl⟩) (fun _=>hHeld) ?_ (by decide)
      try simp only [Act.put,List.setIfInBounds_toArray,List.set_cons_zero,List.set_cons_succ]
      refine wpAnyT_pure (i:=12) (v:=undef) rfl (by kernel_rfl) (by kernel_rfl) (by kernel_rfl) (fun _ _ _ h=>h) (.inr ⟨by kernel_rfl,rfl⟩) (fun _=>hHeld) ?_ (by decide)
      try simp only [Act.put,List.setIfInBounds_toArray,List.set_cons_zero,List.set_cons_succ]
      refine wpAnyT_pure (i:=13) (v:=undef) rfl (by kernel_rfl) (by kernel_rfl) (by kernel_rfl) (fun _ _ _ h=>h) (.inr ⟨by kernel_rfl,rfl⟩) (fun _=>hHeld) ?_ (by decide)
      try simp only [Act.put,List.setIfInBounds_toArray,List.set_cons_zero,List.set_cons_succ]
      refine zP 14 (v:=?_) ?_ (fun _=>hHeld) ?_
      rotate_left
      ·intro w9;go_simp;try with_reducible rfl
      try simp only [Act.put,List.setIfInBounds_toArray,List.set_cons_zero,List.set_cons_succ]
      refine zP 15 (v:=?_) ?_ (fun _=>hHeld) ?_
      rotate_left
      ·intro w9;go_simp;try with_reducible rfl
      try simp only [Act.put,List.setIfInBounds_toArray,List.set_cons_zero,List.set_cons_succ]
      refine wpAnyT_next (i:=16) (by kernel_rfl) rfl ?_
      intro K hK
      go_simp
      refine hK.out _ _ (zN (by kernel_rfl)) ?_
      clear hK K
      refine wpAnyT_done (by kernel_rfl) ?_ _
      (try go_wp2)
      go_meet
      exact ⟨n,0,dt,false,{ s with taken:=s.taken+(m:Int) },E,ec,by rw [HLA.out],HSTQ,Lib.hid (HMET.out _ rfl)⟩
   ·have k1':(ak == 1)=false:=by simpa using k1
    have k2':(ak == 2)=false:=by simpa using k2
    have hl:rv.lastOf ⟨ak,af,ad,an,ac⟩ = -1:=if_neg k1
    have HLA:=Lib.hid hl
    have HST:Hid (rv.step room s ⟨ak,af,ad,an,ac⟩=(⟨3,0,0,[],[],false⟩,s)):=Lib.hid (by unfold rv.step;rw [if_neg k1,if_neg k2])
    have zd:=HT3.out.get
    have ze:=HT3.out.frozen
    clear hl HARR
    go_wp2
    go_meet
    have h1:RMid w w3 G Mb n n room s.taken [] s none 0 _:=⟨⟨hFl,hMl⟩,H3.out,HT3.out,HR3.out,Own.nil _ _ _ _,Stays.of_below HB3.out _,by omega⟩
    exact ⟨n,3,[],false,s,none,0,by rw [HLA.out],HST,Lib.hid (h1.touch (Stays.set _ _ _ _) (by simpa using HT3.out.set 0 (.int .i64 3)))⟩
 case rest=>
  obtain ⟨n2,c,dt,b,s',E,ec,rfl,HST,HM⟩:=hcut
  rename World=>w5
  have hI2:=HIN.out
  rw [HST.out] at hI2
  simp only at hI2
  have HI2:=Lib.hid hI2
  have hlo:=hI2.lo
  have htop:=hI2.top
  clear HIN HARR hI2 y0 y1 y2 y3 y4
  have HLOW:=Lib.hid (ref_Low G Mb n2 room s'.taken (rv.endOf s') s'.done (rv.knownOf s') (rv.mapF s') w5 HM.out.at_ hlo.1 hlo.2.1 (by omega) (fun k h1 h2=>rv.mapF_came.2 (.inl ⟨by omega,h2⟩)) (rv.mapF_none.2 (rv.low_not HI2.out)))
  obtain ⟨K,hK⟩:∃ K:Nat,s'.taken+room+1=s'.done+K:=⟨(s'.taken+room+1 - s'.done).toNat,by omega⟩
  have HRGS:=Lib.hid (fun wz n2 (h:IAt wz G Mb n2 room s'.taken (rv.endOf s') (rv.knownOf s') (rv.mapF s'))=>(by
   have h2:=ref_ranges G Mb n2 room s'.taken (rv.endOf s') s'.done (rv.knownOf s') (rv.mapF s') K wz h hlo.1 hlo.2.1 (by omega) (fun k h1 h2=>rv.mapF_came.2 (.inl ⟨by omega,h2⟩)) (rv.mapF_none.2 (rv.low_not HI2.out)) hr.2 hK
   rw [rv.runs_eq (t:=s'.taken+room) (by omega) HI2.out.canon (fun r hr=>(HI2.out.hi r hr).1) (fun n=>rv.isP_came) (by omega)] at h2
   exact h2:Calls Try.prog 45 #[.pointer (some ⟨G,0,none⟩)] wz fun e w'=>∃ A' c',e=.returned (.slice A' s'.more.length c')∧Own w' wz.heap.size 78 2 A' s'.more.length c' (s'.more.flatMap Rng.cells)∧Below wz.heap.size wz w'))
  obtain ⟨dn,hdn⟩:∃ dn,s'.done=dn:=⟨_,rfl⟩
  obtain ⟨tk,htk⟩:∃ tk,s'.taken=tk:=⟨_,rfl⟩
  obtain ⟨en,hen⟩:∃ en,rv.endOf s'=en:=⟨_,rfl⟩
  obtain ⟨kn,hkn⟩:∃ kn,rv.knownOf s'=kn:=⟨_,rfl⟩
  have heq:(kn && (dn == en))=decide (dn=s'.end_):=by rw [← hkn,← hen];exact rv.end_at HI2.out (by omega)
  obtain ⟨q,hq⟩:∃ q:Bool,decide (dn=s'.end_)=q:=⟨_,rfl⟩
  rw [hq] at heq
  have HQ:=Lib.hid hq
  clear hq
  have HEQ:=Lib.hid heq
  rw [hdn] at hlo htop HLOW
  rw [htk] at hlo HM HRGS
  rw [hen,hkn] at HRGS
  have hfew:=HI2.out.few
  have HDN:=Lib.hid hdn
  have HTK:=Lib.hid htk
  have HEN:=Lib.hid hen
  have HKN:=Lib.hid hkn
  clear hdn htk hen hkn hK heq
  obtain ⟨ack,HAK⟩:∃ ack,Hid (ack=if dn=s'.end_ then dn+1 else dn):=⟨_,Lib.hid rfl⟩
  obtain ⟨wd,hwd⟩:∃ wd,wd=tk+room - dn:=⟨_,rfl⟩
  have HWD:=Lib.hid hwd
  clear hwd
  go_upto_region 18 with (first
   | (go_at_call 43;((with_reducible refine HLOW.out.mono ?_);rintro e w6 ⟨rfl,hb6⟩;have HM6:=Lib.hid (HM.out.next hb6);clear hb6))
   | fail)
  have tc:=HM6.out.box.get
  have tf:=HM6.out.box.frozen
  have hA6:=HM6.out.at_
  have r3:=hA6.blk.get 3
  have r4:=hA6.blk.get 4
  simp only [List.getElem?_toArray,List.getElem?_cons_succ,List.getElem?_cons_zero] at r3 r4
  rw [HEN.out] at r3
  rw [HKN.out] at r4
  have hG6:=hA6.blk.lt
  have hT6:=HM6.out.box.lt
  have n1:G≠w.heap.size+1+1:=by omega
  have n2':w.heap.size+1+1≠G:=by omega
  have HM7:Hid (∀ wy,Stays (w6.setCell ⟨w.heap.size+1+1,1,none⟩ (.int .i64 dn)) wy (fun _=>False)→RMid w wy G Mb n n2 room tk dt s' E ec #[.int .i64 c,.int .i64 dn,.int .i64 0,.slice none 0 0,.slice E (List.length dt) ec,.bool b]):=Lib.hid (fun wy hs=>by
   have h1:RMid w (w6.setCell ⟨w.heap.size+1+1,1,none⟩ (.int .i64 dn)) G Mb n n2 room tk dt s' E ec #[.int .i64 c,.int .i64 dn,.int .i64 0,.slice none 0 0,.slice E (List.length dt) ec,.bool b]:=HM6.out.touch (Stays.set _ _ _ _) (by simpa using HM6.out.box.set 1 (.int .i64 dn))
   exact h1.touch (hs.mono fun _ _ e=>e.elim) (h1.box.stays hs id))
  clear hA6
  go_upto_region 19 with (fail)
  go_cut [96] (fun s96 wx=>s96=.bool q∧Hid (RMid w wx G Mb n n2 room tk dt s' E ec #[.int .i64 c,.int .i64 dn,.int .i64 0,.slice none 0 0,.slice E (List.length dt) ec,.bool b]))
  case first=>
   have heq:=HEQ.out
   cases kn with
   | true=>
    rw [Bool.true_and] at heq
    go_wp2
    go_meet
    exact ⟨rfl,Lib.hid (HM7.out _ (Stays.refl _ _))⟩
   | false=>
    clear heq
    go_wp2
    go_meet
    exact ⟨by rw [← HEQ.out];rfl,Lib.hid (HM7.out _ (Stays.refl _ _))⟩
  case rest=>
   obtain ⟨rfl,HM8⟩:=hcut
   rename World=>w8
   clear HM6 HM7 tc tf r3 r4 hG6 hT6
   have tc:=HM8.out.box.get
   have tf:=HM8.out.box.frozen
   have hT8:=HM8.out.box.lt
   go_upto_if 96 with (fail)
   go_cut [] (fun wx=>Hid (RMid w wx G Mb n n2 room tk dt s' E ec #[.int .i64 c,.int .i64 ack,.int .i64 0,.slice none 0 0,.slice E (List.length dt) ec,.bool b]))
   case first=>
    cases q with
    | true=>
     have HAK2:Hid (ack=dn+1):=Lib.hid (by rw [HAK.out,if_pos (of_decide_eq_true HQ.out)])
     go_wp2
     go_meet
     rw [HAK2.out]
     exact Lib.hid (HM8.out.touch (Stays.set _ _ _ _) (by simpa using HM8.out.box.set 1 (.int .i64 (dn+1))))
    | false=>
     have HAK2:Hid (ack=dn):=Lib.hid (by rw [HAK.out,if_neg (of_decide_eq_false HQ.out)])
     go_wp2
     go_meet
     rw [HAK2.out]
     exact HM8
   case rest=>
    have HM9:=hcut
    rename World=>w9
    clear hcut HM8 tc tf hT8
    have tc:=HM9.out.box.get
    have tf:=HM9.out.box.frozen
    have hT9:=HM9.out.box.lt
    have hG9:=HM9.out.at_.blk.lt
    have r0:=HM9.out.at_.blk.get 0
    have r2:=HM9.out.at_.blk.get 2
    simp only [List.getElem?_toArray,List.getElem?_cons_succ,List.getElem?_cons_zero] at r0 r2
    have e1:IntKind.i64.wrap (tk+room)=tk+room:=IntWalk.i64_in _ (by omega)
    have e2:IntKind.i64.wrap (tk+room - dn)=tk+room - dn:=IntWalk.i64_in _ (by omega)
    go_upto_region 21 with (fail)
    go_cut [] (fun wx=>Hid (RMid w wx G Mb n n2 room tk dt s' E ec #[.int .i64 c,.int .i64 ack,.int .i64 wd,.slice none 0 0,.slice E (List.length dt) ec,.bool b]))
    case first=>
     go_region_held3 (fun w'=>w'.cell? ⟨G,0,none⟩=some (.int .i64 room)∧w'.cell? ⟨G,2,none⟩=some (.int .i64 tk)) ((first | (go_keep;done) | (refine ⟨?_,?_⟩ <;> (simp [go_sem, *];done)) | fail)) (fail)
     all_goals
      (try go_wp2)
      go_meet
      rw [HWD.out]
      exact Lib.hid ((HM9.out.touch (bx':=#[.int .i64 c,.int .i64 ack,.int .i64 (tk+room - dn),.slice none 0 0,.slice E (List.length dt) ec,.bool b]) (Stays.set _ _ _ _) (by simpa using HM9.out.box.set 2 (.int .i64 (tk+room - dn)))).next (Below.drew (bself _)))
    case rest=>
     have HMA:=hcut
     rename World=>wa
     clear hcut HM9 tc tf hT9 hG9 r0 r2 e1 e2
     have hTa:=HMA.out.box.lt
     have hRa:=HMA.out.res.lt
     have hia:=HMA.out.at_
     rw [HEN.out,HKN.out] at hia
     have HRG:=Lib.hid (HRGS.out wa n2 hia)
     have hA:=HMA.out.lt
     have hsk:sackRes dn s'.more (rv.lastOf ⟨ak,af,ad,an,ac⟩) 3=.ok (sacks (rv.lastOf ⟨ak,af,ad,an,ac⟩) 3 s'.more):=by
      have h:=rv.sack_of HI2.out (rv.lastOf ⟨ak,af,ad,an,ac⟩)
      rwa [HDN.out] at h
     have HSK:=Lib.hid (fun (wz:World) (A:Option Addr) (cA:Nat) (hA:SlRep Rng.rep wz (· < wz.heap.size) s'.more A cA)=>show Calls Try.prog 44 #[.int .i64 dn,.slice A s'.more.length cA,.int .i64 (rv.lastOf ⟨ak,af,ad,an,ac⟩),.int .i64 3] wz (fun e w'=>∃ A c,e=.returned (.tuple #[.slice A (sacks (rv.lastOf ⟨ak,af,ad,an,ac⟩) 3 s'.more).length c,.int .i64 0])∧SlRep Rng.rep w' (fun k=>wz.heap.size≤k∧k<w'.heap.size) (sacks (rv.lastOf ⟨ak,af,ad,an,ac⟩) 3 s'.more) A c∧Below wz.heap.size wz w') from by
      have h:=ref_Sacks_res dn s'.more (rv.lastOf ⟨ak,af,ad,an,ac⟩) 3 A cA wz hA (by omega)
      rw [hsk] at h
      exact h)
     have HFIN:Hid (∀ A cA wx w8,Below wa.heap.size wa w8→SlRep Rng.rep w8 (fun k=>wa.heap.size≤k∧k<w8.heap.size) (sacks (rv.lastOf ⟨ak,af,ad,an,ac⟩) 3 s'.more) A cA→Stays w8 wx (fun k=>k=w.heap.size+1+1∨k=w.heap.size+1)→TellRf w G Mb n room (rv.doIt room s ⟨ak,af,ad,an,ac⟩) (.returned (.agg #[.int .i64 c,.int .i64 ack,.int .i64 wd,.slice A (sacks (rv.lastOf ⟨ak,af,ad,an,ac⟩) 3 s'.more).length cA,.slice E dt.length ec,.bool b])) wx):=Lib.hid (fun A cA wx w8 hb8 hA hs=>by
      unfold rv.doIt
      rw [HST.out]
      simp only
      rw [HDN.out,HTK.out,← HAK.out,← HWD.out]
      have hlt:=HMA.out.own.lt
      refine ⟨[.int .i64 c,.int .i64 ack,.int .i64 wd,.slice A (sacks (rv.lastOf ⟨ak,af,ad,an,ac⟩) 3 s'.more).length cA,.slice E dt.length ec,.bool b],n2,rfl,HMA.out.few,Told.rep_iff.2 ⟨A,cA,E,ec,rfl,?_,?_⟩,?_,?_⟩
      ·exact hA.keep fun k hk=>⟨⟨by omega,Nat.lt_of_lt_of_le hk.2 hs.size⟩,hs.block k hk.2 (fun e=>by omega)⟩
      ·have hd:=((HMA.out.own.next hb8).stays hs (fun k hk e=>by have:=(hlt k hk).1;omega))
       exact ((Own.u8 hd).2.tight flat_u8).keep fun k hk=>⟨⟨by have:=(hlt k hk).1;omega,(hd.lt k hk).2⟩,rfl⟩
      ·have h:=(HMA.out.at_.next hb8).stays hs (fun e=>by have:=HMA.out.lt.1;omega) (fun e=>by have:=HMA.out.lt.2;omega)
       rw [← HTK.out] at h
       exact h
      ·exact (HMA.out.stay.comp (Stays.of_below hb8 _)).trans hs (fun k hk e=>by omega))
     clear hia HRGS hsk
     go_wp2_with (first
      | (go_at_call 45;((refine HRG.out.mono ?_);rintro e w1 ⟨A1,c1,rfl,hO1,hb1⟩;have HS1:=Lib.hid (HSK.out w1 A1 c1 (((Own.flat Rng.cells rfl (fun S a=>Rng.enc w1 S a) (by decide) hO1).2).within (fun k hk=>hk.2)));have HB1:=Lib.hid hb1;clear hO1 hb1))
      | (go_at_call 44;((refine HS1.out.mono ?_);rintro e w8 ⟨A8,c8,rfl,hA8,hb8⟩;have B8:Below wa.heap.size wa w8:=HB1.out.trans (hb8.mono HB1.out.size);have S8:=Lib.hid (hA8.within (S':=fun k=>wa.heap.size≤k∧k<w8.heap.size) fun k hk=>⟨Nat.le_trans HB1.out.size hk.1,hk.2⟩);have b8:=HMA.out.box.next B8;have tc:=b8.get;have tf:=b8.frozen;have b9:=HMA.out.res.next B8;have uc:=b9.get;have uf:=b9.frozen;have l8:=b8.lt;have l9:=b9.lt;have HB8:=Lib.hid B8;clear hA8 hb8 b8 b9 B8))
      | fail)
     refine bodyPost_ret (v:=.agg #[.int .i64 c,.int .i64 ack,.int .i64 wd,.slice A8 (sacks (rv.lastOf ⟨ak,af,ad,an,ac⟩) 3 s'.more).length c8,.slice E dt.length ec,.bool b]) (by simp [results,Try.results23,go_sem, *]) rfl (HFIN.out _ _ _ w8 HB8.out S8.out ?_)
     exact ((Stays.set _ _ _ _).mono fun k _ hk=>.inl hk).comp ((Stays.six _ _ _ _ _ _ _ _).mono fun k _ hk=>.inr hk)
end
end Go.Proofs.Ytdldfllllgogoaa
namespace Go.Proofs.Ytdldfllllgogoaa
open Go.RowKit
set_option linter.unusedSimpArgs false
/-- where the parts of the reference's wire lie -/
structure RAd where
 G:Nat
 kl:List Bool
 td:Int
 D:Option Addr
 dc:Nat
 K:Option Addr
 kc:Nat
 I:Nat
 Mb:Nat
 n:Nat
 A:Option Addr
 c:Nat
 fa:List FrA
def RAd.sF (a:RAd) (k:Nat):Prop:=OF a.G a.D a.K k
def RAd.rF (a:RAd) (k:Nat):Prop:=GM a.I a.Mb k
def RAd.fF (a:RAd) (k:Nat):Prop:=FrF a.A a.fa k
/-- a wire's blocks -/
def RF (W:Nat) (a:RAd) (k:Nat):Prop:=k=W∨a.sF k∨a.rF k∨a.fF k
def RAd.vals (a:RAd) (x:pp.Wire):Array Value:=#[.int .i64 x.first,.pointer (some ⟨a.G,0,none⟩),.pointer (some ⟨a.I,0,none⟩),.slice a.A a.fa.length a.c]
/-- a wire in memory; so many places of its map are laid at most -/
structure RAt (w:World) (B W:Nat) (x:pp.Wire) (a:RAd) (m:Nat):Prop where
 lo:B≤W
 blk:BlkA w W 130 (a.vals x)
 snd:OS w B a.G x.snd a.kl a.td a.D a.dc a.K a.kc
 rcv:IS w a.I a.Mb a.n x.room x.rcv
 rlo:B≤a.I∧B≤a.Mb
 cnt:a.n≤64 * m
 frs:Frames w B 137 a.A a.c a.fa
 same:x.frames=a.fa.map FrA.fr
 dW:∀ k,a.sF k∨a.rF k∨a.fF k→k≠W
 dSR:∀ k,a.sF k→¬ a.rF k
 dSF:∀ k,a.sF k→¬ a.fF k
 dRF:∀ k,a.rF k→¬ a.fF k
section
variable {w w':World} {B W:Nat} {x:pp.Wire} {a:RAd} {m:Nat} {No:Nat→Prop}
theorem RAt.rlt (h:RAt w B W x a m) {k:Nat} (hk:a.rF k):B≤k∧k<w.heap.size:=by
 rcases hk with rfl | rfl
 ·exact ⟨h.rlo.1,h.rcv.blk.lt⟩
 ·exact ⟨h.rlo.2,h.rcv.map.lt⟩
theorem RAt.slt (h:RAt w B W x a m) {k:Nat} (hk:a.sF k):B≤k∧k<w.heap.size:=by
 rcases hk with rfl | e | e
 ·exact ⟨h.snd.at_.lo,h.snd.at_.blk.lt⟩
 ·exact h.snd.at_.data.lt k e
 ·exact h.snd.at_.known.lt k e
theorem RAt.lt (h:RAt w B W x a m) {k:Nat} (hk:RF W a k):B≤k∧k<w.heap.size:=by
 rcases hk with rfl | e | e | e
 ·exact ⟨h.lo,h.blk.lt⟩
 ·exact h.slt e
 ·exact h.rlt e
 ·exact h.frs.lt e
theorem RAt.stays (h:RAt w B W x a m) (hs:Stays w w' No) (hn:∀ k,RF W a k→¬ No k):RAt w' B W x a m:=
 ⟨h.lo,h.blk.stays hs (hn _ (.inl rfl)),h.snd.stays hs (fun k hk=>hn k (.inr (.inl hk))),IAt.stays h.rcv hs (hn _ (.inr (.inr (.inl (.inl rfl))))) (hn _ (.inr (.inr (.inl (.inr rfl))))),h.rlo,h.cnt,h.frs.stays hs fun k hk=>hn k (.inr (.inr (.inr hk))),h.same,h.dW,h.dSR,h.dSF,h.dRF⟩
theorem RAt.next (h:RAt w B W x a m) (hb:Below w.heap.size w w'):RAt w' B W x a m:=h.stays (Stays.of_below hb (fun _=>False)) fun _ _ e=>e
theorem RAt.below {B0:Nat} (h:RAt w B W x a m) (hs:Stays w w' (RF W a)) (hB:B0≤B) (hw:B0≤w.heap.size):Below B0 w w':=
 ⟨hs.os,hs.tape,hs.output,hs.size,fun k hk=>hs.block k (by omega) (fun e=>by have:=(h.lt e).1;omega)⟩
theorem RAt.up (h:RAt w B W x a m) {m2:Nat} (hm:m≤m2):RAt w B W x a m2:=⟨h.lo,h.blk,h.snd,h.rcv,h.rlo,by have:=h.cnt;omega,h.frs,h.same,h.dW,h.dSR,h.dSF,h.dRF⟩
theorem RAt.len (h:RAt w B W x a m):x.frames.length=a.fa.length:=by rw [h.same,List.length_map]
theorem RAt.getD (h:RAt w B W x a m) (n:Nat):x.frames.getD n pp.zf=(a.fa.getD n FrA.z).fr:=by
 rw [h.same,List.getD_eq_getElem?_getD,List.getD_eq_getElem?_getD,List.getElem?_map]
 cases a.fa[n]? <;> rfl
/-- what sends was turned -/
theorem RAt.putSnd (h:RAt w B W x a m) {s':sd.St} {kl:List Bool} {td:Int} {D1:Option Addr} {dc1:Nat} {K1:Option Addr} {kc1:Nat} (hs:Stays w w' a.sF) (h1:OS w' B a.G s' kl td D1 dc1 K1 kc1) (h3:∀ k,OF a.G D1 K1 k→a.sF k∨w.heap.size≤k) :
  RAt w' B W { x with snd:=s' } { a with kl:=kl,td:=td,D:=D1,dc:=dc1,K:=K1,kc:=kc1 } m∧∀ k,RF W { a with kl:=kl,td:=td,D:=D1,dc:=dc1,K:=K1,kc:=kc1 } k→RF W a k∨w.heap.size≤k:=by
 have hW:=h.blk.lt
 refine ⟨⟨h.lo,h.blk.stays hs (fun e=>h.dW _ (.inl e) rfl),h1,IAt.stays h.rcv hs (fun e=>h.dSR _ e (.inl rfl)) (fun e=>h.dSR _ e (.inr rfl)),h.rlo,h.cnt,h.frs.stays hs (fun k hk e=>h.dSF k e hk),h.same,fun k hk=>?_,fun k hk e=>?_,fun k hk e=>?_,h.dRF⟩,fun k hk=>?_⟩
 ·rcases hk with e | e
  ·rcases h3 k e with e2 | e2
   ·exact h.dW k (.inl e2)
   ·omega
  ·exact h.dW k (.inr e)
 ·rcases h3 k hk with e2 | e2
  ·exact h.dSR k e2 e
  ·have:=(h.rlt e).2;omega
 ·rcases h3 k hk with e2 | e2
  ·exact h.dSF k e2 e
  ·have:=(h.frs.lt e).2;omega
 ·rcases hk with e | e | e
  ·exact .inl (.inl e)
  ·exact (h3 k e).imp (fun e=>.inr (.inl e)) id
  ·exact .inl (.inr (.inr e))
/-- what hears was turned -/
theorem RAt.putRcv (h:RAt w B W x a m) {s':rv.St} {n':Nat} (hs:Stays w w' a.rF) (h1:IS w' a.I a.Mb n' x.room s') (hn:n'≤a.n+64):RAt w' B W { x with rcv:=s' } { a with n:=n' } (m+1):=
 ⟨h.lo,h.blk.stays hs (fun e=>h.dW _ (.inr (.inl e)) rfl),h.snd.stays hs (fun k hk e=>h.dSR k hk e),h1,h.rlo,by have:=h.cnt;show n'≤_;omega,h.frs.stays hs (fun k hk e=>h.dRF k e hk),h.same,h.dW,h.dSR,h.dSF,h.dRF⟩
theorem u8NePost:5≠137:=by decide
/-- a frame was put -/
theorem RAt.putFr (h:RAt w B W x a m) {wa w2 w3:World} {f:FrA} {A2:Option Addr} {c2 n:Nat} (hb:Below w.heap.size w wa) (hg:Grew wa w2 a.A A2) (ho:Own w2 B 137 3 A2 n c2 (a.fa.flatMap FrA.cells ++ f.cells)) (hn:n=a.fa.length+1) (hr:Own wa B 5 1 f.A f.fr.bytes.length f.c (f.fr.bytes.map rv.u8v)) (hnew:∀ k,blkOf f.A=some k→w.heap.size≤k)
  (hw3:w3=w2.setCell ⟨W,3,none⟩ (.slice A2 n c2)) :
  RAt w3 B W { x with frames:=x.frames ++ [f.fr] } { a with A:=A2,c:=c2,fa:=a.fa ++ [f] } m∧Stays w w3 (fun k=>k=W∨blkOf a.A=some k)∧∀ k,RF W { a with A:=A2,c:=c2,fa:=a.fa ++ [f] } k→RF W a k∨w.heap.size≤k:=by
 have hW:=h.blk.lt
 have st2:Stays w w2 (fun k=>blkOf a.A=some k):=(Stays.of_below hb _).comp (Stays.grew hg)
 have st3:Stays w w3 (fun k=>k=W∨blkOf a.A=some k):=by
  rw [hw3]
  exact (st2.mono fun _ _ e=>.inr e).comp ((Stays.set _ _ _ _).mono fun _ _ e=>.inl e)
 have hnw:Newer w A2 a.A:=fun k hk=>(Newer.grew hg k hk).imp id (fun e=>Nat.le_trans hb.size e)
 have hnewF:∀ k,FrF A2 (a.fa ++ [f]) k→a.fF k∨w.heap.size≤k:=fun k hk=>FrF.push hnw hnew hk
 have hfr:=h.frs.push u8NePost hb hg ho hn hr hnew
 have hblk2:BlkA w2 W _ _:=h.blk.stays st2 (fun e=>h.dW _ (.inr (.inr (.inl e))) rfl)
 have hno:∀ k,a.sF k∨a.rF k→¬ (k=W∨blkOf a.A=some k):=fun k hk e=>by
  rcases hk with hk | hk
  ·rcases e with e | e
   ·exact h.dW k (.inl hk) e
   ·exact h.dSF k hk (.inl e)
  ·rcases e with e | e
   ·exact h.dW k (.inr (.inl hk)) e
   ·exact h.dRF k hk (.inl e)
 refine ⟨⟨h.lo,?_,h.snd.stays st3 (fun k hk=>hno k (.inl hk)),IAt.stays h.rcv st3 (hno _ (.inr (.inl rfl))) (hno _ (.inr (.inr rfl))),h.rlo,h.cnt,?_,?_,fun k hk=>?_,h.dSR,fun k hk e=>?_,fun k hk e=>?_⟩,st3,fun k hk=>?_⟩
 ·rw [hw3]
  have hx:=hblk2.set 3 (.slice A2 n c2)
  rw [hn] at hx ⊢
  unfold RAd.vals at hx ⊢
  simpa using hx
 ·rw [hw3]
  refine hfr.stays (Stays.set _ _ _ _) (fun k hk e=>?_)
  rcases hnewF k hk with e2 | e2
  ·exact h.dW k (.inr (.inr e2)) e
  ·omega
 ·show x.frames ++ [f.fr]=(a.fa ++ [f]).map FrA.fr
  rw [h.same,List.map_append]
  rfl
 ·rcases hk with e | e | e
  ·exact h.dW k (.inl e)
  ·exact h.dW k (.inr (.inl e))
  ·rcases hnewF k e with e2 | e2
   ·exact h.dW k (.inr (.inr e2))
   ·omega
 ·rcases hnewF k e with e2 | e2
  ·exact h.dSF k hk e2
  ·have:=(h.slt hk).2;omega
 ·rcases hnewF k e with e2 | e2
  ·exact h.dRF k hk e2
  ·have:=(h.rlt hk).2;omega
 ·rcases hk with e | e | e | e
  ·exact .inl (.inl e)
  ·exact .inl (.inr (.inl e))
  ·exact .inl (.inr (.inr (.inl e)))
  ·exact (hnewF k e).imp (fun e=>.inr (.inr (.inr e))) id
/-- frames turned, each where it lies -/
theorem RAt.setFrs {fa:List FrA} {fs:List pp.Fr} (h:RAt w B W x a m) (hs:Stays w w' a.fF) (hf:Frames w' B 137 a.A a.c fa) (hl:fa.length=a.fa.length) (hF:∀ k,FrF a.A fa k↔a.fF k) (hfs:fs=fa.map FrA.fr) :
  RAt w' B W { x with frames:=fs } { a with fa:=fa } m∧∀ k,RF W { a with fa:=fa } k→RF W a k∨w.heap.size≤k:=by
 refine ⟨⟨h.lo,?_,h.snd.stays hs (fun k hk e=>h.dSF k hk e),IAt.stays h.rcv hs (fun e=>h.dRF _ (.inl rfl) e) (fun e=>h.dRF _ (.inr rfl) e),h.rlo,h.cnt,hf,hfs,fun k hk=>?_,h.dSR,fun k hk e=>h.dSF k hk ((hF k).1 e),fun k hk e=>h.dRF k hk ((hF k).1 e)⟩,fun k hk=>.inl ?_⟩
 ·have hb:=h.blk.stays hs (fun e=>h.dW _ (.inr (.inr e)) rfl)
  unfold RAd.vals at hb ⊢
  rw [hl]
  exact hb
 ·rcases hk with e | e | e
  ·exact h.dW k (.inl e)
  ·exact h.dW k (.inr (.inl e))
  ·exact h.dW k (.inr (.inr ((hF k).1 e)))
 ·rcases hk with e | e | e | e
  ·exact .inl e
  ·exact .inr (.inl e)
  ·exact .inr (.inr (.inl e))
  ·exact .inr (.inr (.inr ((hF k).1 e)))
theorem RAt.first (h:RAt w B W x a m):w.cell? ⟨W,0,none⟩=some (.int .i64 x.first):=h.blk.get 0
theorem RAt.ptrS (h:RAt w B W x a m):w.cell? ⟨W,1,none⟩=some (.pointer (some ⟨a.G,0,none⟩)):=h.blk.get 1
theorem RAt.ptrH (h:RAt w B W x a m):w.cell? ⟨W,2,none⟩=some (.pointer (some ⟨a.I,0,none⟩)):=h.blk.get 2
theorem RAt.ptrF (h:RAt w B W x a m):w.cell? ⟨W,3,none⟩=some (.slice a.A a.fa.length a.c):=h.blk.get 3
end
set_option maxHeartbeats 400000 in
theorem rpipe_tell (B W:Nat) (x:pp.Wire) (a:RAd) (m:Nat) (p:Int) (w:World) (h:RAt w B W x a m) (hf:0≤x.first∧x.first<65536) (hp:0≤p∧p≤4000000) :
  Calls Try.prog 64 #[.pointer (some ⟨W,0,none⟩),.int .i64 p] w fun e w'=>e=.returned (.int .i64 (pp.mark x p))∧w=w':=by
 have c0:=h.first
 clear h
 go_enter Try.func64,Try.ntmps64
 go_wp2
 go_ret
 exact ⟨rfl,rfl⟩
set_option maxHeartbeats 400000 in
theorem rpipe_find (B W:Nat) (x:pp.Wire) (a:RAd) (m:Nat) (s near:Int) (w:World) (h:RAt w B W x a m) (hf:0≤x.first∧x.first<65536) (hs:0≤s∧s<65536) (hn:0≤near∧near≤1048576) :
  Calls Try.prog 66 #[.pointer (some ⟨W,0,none⟩),.int .i64 s,.int .i64 near] w fun e w'=>e=.returned (.int .i64 (pp.place x s near))∧w=w':=by
 have c0:=h.first
 have HF:=Lib.hid (ref_Far_ok x.first s hf.1 hf.2 hs.1 hs.2 w)
 have HN:=Lib.hid (ref_Near_ok ((s - x.first) % 65536) near (by omega) (by omega) hn.1 hn.2 w)
 have HP:Hid (nearOf ((s - x.first) % 65536) near=pp.place x s near):=Lib.hid rfl
 generalize (s - x.first) % 65536=y at *
 generalize nearOf y near=v at *
 clear h
 go_enter Try.func66,Try.ntmps66
 go_wp2_with (first
  | (go_at_call 92;((with_reducible refine HF.out.mono ?_);rintro e _ ⟨rfl,rfl⟩))
  | (go_at_call 93;((with_reducible refine HN.out.mono ?_);rintro e _ ⟨rfl,rfl⟩))
  | fail)
 go_ret
 exact ⟨by rw [← HP.out];rfl,rfl⟩
set_option maxHeartbeats 1000000 in
theorem rsend_Low (B G:Nat) (s:sd.St) (kl:List Bool) (td:Int) (D:Option Addr) (dc:Nat) (K:Option Addr) (kc:Nat) (w:World) (h:OS w B G s kl td D dc K kc) (hi:sd.Inv s) :
  Calls Try.prog 68 #[.pointer (some ⟨G,0,none⟩)] w fun e w'=>e=.returned (.int .i64 s.done)∧w=w':=by
 obtain ⟨d,hd⟩:∃ d:Nat,s.done=d:=⟨s.done.toNat,by have:=hi.lo;omega⟩
 have hdb:d≤1048576:=by have:=hi.lo;have:=hi.end_;omega
 have HYES:Hid (∀ p:Nat,p<d→kl.getD p false=true):=Lib.hid (fun p hp=>(h.knows p).2 (.inl (by omega)))
 have HNOT:Hid (kl.getD d false=false):=Lib.hid (by
  cases hb:kl.getD d false
  ·rfl
  ·rcases (h.knows d).1 hb with e | ⟨r,hr,e⟩
   ·omega
   ·have:=(hi.canon.mem r hr).1
    have:=e.1
    omega)
 have HHE:=Lib.hid (fun (p:Nat) (b:Bool) (hp:p≤4000000) (hb:kl.getD p false=b)=>(hb ▸ ref_heard B G s.data s.closed s.edge s.next kl td D dc K kc p w h.at_ hp:Calls Try.prog 52 #[.pointer (some ⟨G,0,none⟩),.int .i64 (p:Int)] w fun e w'=>e=.returned (.bool b)∧w=w'))
 have HDD:=Lib.hid hd
 clear h hd
 go_enter Try.func68,Try.ntmps68
 go_wp2
 go_loop [3] (fun i=>∃ p:Nat,p≤d∧i=.int .i64 (p:Int)) (fun i=>d - (intOf i).toNat)
 case atStart=>exact ⟨0,by omega,rfl⟩
 case round=>
  obtain ⟨p,hp,rfl⟩:=hrel
  by_cases hpd:p<d
  ·have HP:=Lib.hid (HHE.out p true (by omega) (HYES.out p hpd))
   go_wp2_with (first
    | (go_at_call 52;((with_reducible refine HP.out.mono ?_);rintro e _ ⟨rfl,rfl⟩))
    | fail)
   go_round
   case rel=>exact ⟨p+1,by omega,by go_num⟩
   case measure=>simp [intOf];omega
  ·obtain rfl:p=d:=by omega
   have HP:=Lib.hid (HHE.out p false (by omega) HNOT.out)
   go_wp2_with (first
    | (go_at_call 52;((with_reducible refine HP.out.mono ?_);rintro e _ ⟨rfl,rfl⟩))
    | fail)
   go_ret
   exact ⟨by rw [HDD.out];rfl,rfl⟩
end Go.Proofs.Ytdldfllllgogoaa
