/- Texts in one: SendR4, SendR5, SendR6, MapV, RecvR1, RecvR2. No condition. -/
import Derived.Test.YtdldfllllgogoaaPipM6
import Derived.Test.YtdldfllllgogoaaPipM4
import Derived.Maps.OwnOps
import Derived.Maps.Views
namespace Go.Proofs.Ytdldfllllgogoaa.sd
open had
/-- where the search ends -/
theorem search_at {s:St} (h:Inv s) {kl:List Bool} {todo:Int} (hk:Knows kl s.done s.more) (ht:0≤todo∧todo≤s.again∧∀ x,todo≤x→x<s.again→heardP s x) :
  ∃ a:Nat,(a:Int)=first s s.again s.next∧todo≤a∧(a:Int)≤s.next∧(∀ p:Nat,todo≤p→p<a→kl.getD p false=true)∧((a:Int)<s.next→kl.getD a false=false):=by
 obtain ⟨h1,h2,h3,h4⟩:=first_ok h h.again.2
 have ha:=h.again
 refine ⟨(first s s.again s.next).toNat,by omega,by omega,by omega,fun p p1 p2=>?_,fun hl=>?_⟩
 ·rw [hk p]
  have hp:heardP s p:=by
   by_cases hc:(p:Int)<s.again
   ·exact ht.2.2 p p1 hc
   ·exact h3 p (by omega) (by omega) (by omega)
  exact hp.imp (fun x=>x.2) id
 ·have h5:=h4 (by omega)
  cases hb:kl.getD (first s s.again s.next).toNat false with
  | false=>rfl
  | true=>
   exfalso
   have h6:=(hk _).1 hb
   rw [show ((first s s.again s.next).toNat:Int)=first s s.again s.next by omega] at h6
   exact h5 (h6.imp (fun x=>⟨by omega,x⟩) id)
theorem piece_plan {s:St} {f T:Nat} (hf:f<T) (ht:(T:Int)≤endOf s) :
  ∃ N:Nat,f≤N∧N≤T∧N≤f+64∧N≤s.data.length∧(N=T∨(N<T∧N=s.data.length∧T=N+1∧endOf s=N+1)∨(N<T∧N<s.data.length∧N=f+64)) ∧
   (piece s f T).data=(s.data.drop f).take (N - f)∧(piece s f T).fin=decide (N=s.data.length∧N<T)∧after (piece s f T)=N+fin1 (decide (N=s.data.length∧N<T))∧f<N+(if N=s.data.length∧N<T then 1 else 0):=by
 have h1:=fin1_le s.closed
 have hen:endOf s≤s.data.length+1:=by unfold endOf;omega
 refine ⟨min (min T s.data.length) (f+64),by omega,by omega,by omega,by omega,by omega,?_,?_,?_,?_⟩
 ·unfold piece
  simp only
  congr 1
  omega
 ·unfold piece
  simp only
  exact decide_eq_decide.2 (by omega)
 ·have h2:=(after_piece (s:=s) (f:=f) (t:=T) (by omega) (by omega) (by omega) (by omega)).2.2
  rw [h2,piece_fin]
  have:decide (min (min (T:Int) s.data.length) (f+64)=s.data.length∧min (min (T:Int) s.data.length) (f+64)<T)=decide (min (min T s.data.length) (f+64)=s.data.length∧min (min T s.data.length) (f+64)<T):=decide_eq_decide.2 (by omega)
  rw [this]
  omega
 ·split <;> omega
/-- how polls goes -/
structure Plan (s:St) (kl:List Bool) (b:Bool) (f:Nat) (lim:Int) (T N:Nat):Prop where
 go:∀ x:Nat,f≤x→x<T→(x:Int)<lim∧(x:Int)<endOf s∧(b=true→kl.getD x false=false)
 stop:¬ ((T:Int)<lim)∨((T:Int)<lim∧¬ ((T:Int)<endOf s))∨((T:Int)<lim∧(T:Int)<endOf s∧b=true∧kl.getD T false=true)
 le:f≤N∧N≤T∧N≤f+64∧(f<T→N≤s.data.length)
 bound:f≤1048576∧T≤1048576
 end_:N=T∨(N<T∧N=s.data.length∧T=N+1∧endOf s=N+1)∨(N<T∧N<s.data.length∧N=f+64)
 no:T=f→poll s=(⟨0,0,[],false,false,true,0⟩,s)
 yes:f<T→poll s=(⟨0,f,(s.data.drop f).take (N - f),decide (N=s.data.length∧N<T),b,false,0⟩,if b=true then { s with again:=N+fin1 (decide (N=s.data.length∧N<T)) } else { s with next:=N+fin1 (decide (N=s.data.length∧N<T)),again:=N+fin1 (decide (N=s.data.length∧N<T)) })
 more:f<T→f<N+(if N=s.data.length∧N<T then 1 else 0)
theorem plan_again {s:St} (h:Inv s) {kl:List Bool} (hk:Knows kl s.done s.more) {a:Nat} (ha:(a:Int)=first s s.again s.next) (hlt:(a:Int)<s.next):∃ T N,Plan s kl true a s.next T N:=by
 obtain ⟨h1,h2,h3,h4⟩:=first_ok h h.again.2
 have hlo:=h.lo
 have hen:=h.end_
 have hnc:¬ cov s.more (a:Int):=fun e=>h4 (by omega) (.inr (ha ▸ e))
 obtain ⟨a1,a2,a3,a4⟩:=ahead_ok h.canon hnc hlt h.hi
 obtain ⟨T,hT⟩:∃ T:Nat,ahead s.more a s.next=T:=⟨(ahead s.more a s.next).toNat,by omega⟩
 rw [hT] at a1 a2 a3 a4
 obtain ⟨N,n1,n2,n3,n4,n5,n6,n7,n8,n9⟩:=piece_plan (s:=s) (f:=a) (T:=T) (by omega) (by omega)
 refine ⟨T,N,fun x x1 x2=>⟨by omega,by omega,fun _=>?_⟩,?_,⟨n1,n2,n3,fun _=>n4⟩,⟨by omega,by omega⟩,n5,fun e=>by omega,fun _=>?_,fun _=>n9⟩
 ·cases hb:kl.getD x false with
  | false=>rfl
  | true=>
   exfalso
   rcases (hk x).1 hb with e | e
   ·omega
   ·exact a3 x (by omega) (by omega) e
 ·rcases a4 with e | e
  ·exact .inl (by omega)
  ·by_cases hl:(T:Int)<s.next
   ·exact .inr (.inr ⟨hl,by omega,rfl,(hk T).2 (.inr e)⟩)
   ·exact .inl hl
 ·unfold poll
  simp only
  rw [← ha,if_pos hlt,hT,n8]
  have e1:(piece s a T)=⟨0,a,(piece s a T).data,(piece s a T).fin,false,false,0⟩:=rfl
  rw [e1,n6,n7]
  rfl
theorem plan_new {s:St} (h:Inv s) (kl:List Bool) {f:Nat} (hf:s.next=f) (hge:¬ first s s.again s.next<s.next):∃ T N,Plan s kl false f s.edge T N:=by
 have hlo:=h.lo
 have hen:=h.end_
 have hed:=h.edge
 by_cases c:min (endOf s) s.edge≤s.next
 ·refine ⟨f,f,fun x x1 x2=>by omega,?_,⟨Nat.le_refl _,Nat.le_refl _,by omega,fun e=>by omega⟩,⟨by omega,by omega⟩,.inl rfl,fun _=>?_,fun e=>by omega,fun e=>by omega⟩
  ·by_cases hl:(f:Int)<s.edge
   ·exact .inr (.inl ⟨hl,by omega⟩)
   ·exact .inl hl
  ·unfold poll
   simp only
   rw [if_neg hge,if_pos c]
 ·obtain ⟨T,hT⟩:∃ T:Nat,min (endOf s) s.edge=T:=⟨(min (endOf s) s.edge).toNat,by omega⟩
  obtain ⟨N,n1,n2,n3,n4,n5,n6,n7,n8,n9⟩:=piece_plan (s:=s) (f:=f) (T:=T) (by omega) (by omega)
  refine ⟨T,N,fun x x1 x2=>⟨by omega,by omega,fun e=>by cases e⟩,?_,⟨n1,n2,n3,fun _=>n4⟩,⟨by omega,by omega⟩,n5,fun e=>by omega,fun _=>?_,fun _=>n9⟩
  ·by_cases hl:(T:Int)<s.edge
   ·exact .inr (.inl ⟨hl,by omega⟩)
   ·exact .inl hl
  ·unfold poll
   simp only
   rw [if_neg hge,if_neg c,hT,hf,n8]
   have e1:(piece s f T)=⟨0,f,(piece s f T).data,(piece s f T).fin,false,false,0⟩:=rfl
   rw [e1,n6,n7]
   rfl
end Go.Proofs.Ytdldfllllgogoaa.sd
namespace Go.Proofs.Ytdldfllllgogoaa
open Go.RowKit
set_option linter.unusedSimpArgs false
def PolRes (w:World) (B G:Nat) (r:Sent × sd.St) (kl:List Bool) (D:Option Addr) (dc:Nat) (K:Option Addr) (kc:Nat) (e:Ending) (w':World):Prop:=
 ∃ E ec todo,e=.returned (.agg #[.int .i64 r.1.code,.int .i64 r.1.from_,.slice E r.1.data.length ec,.bool r.1.fin,.bool r.1.again,.bool r.1.idle,.int .i64 r.1.left])∧Own w' w.heap.size 5 1 E r.1.data.length ec (r.1.data.map rv.u8v)∧OS w' B G r.2 kl todo D dc K kc∧Stays w w' (fun k=>k=G)
theorem OS.lts {w:World} {B G:Nat} {s:sd.St} {kl:List Bool} {todo:Int} {D:Option Addr} {dc:Nat} {K:Option Addr} {kc:Nat} (h:OS w B G s kl todo D dc K kc) (k:Nat) (hk:k=G∨blkOf D=some k∨blkOf K=some k):k<w.heap.size:=by
 rcases hk with rfl | e | e
 ·exact h.at_.blk.lt
 ·exact (h.at_.data.lt k e).2
 ·exact (h.at_.known.lt k e).2
theorem OS.stays {w w':World} {B G:Nat} {s:sd.St} {kl:List Bool} {todo:Int} {D:Option Addr} {dc:Nat} {K:Option Addr} {kc:Nat} {No:Nat→Prop} (h:OS w B G s kl todo D dc K kc) (hs:Stays w w' No) (hn:∀ k,k=G∨blkOf D=some k∨blkOf K=some k→¬ No k):OS w' B G s kl todo D dc K kc:=⟨h.at_.stays hs hn,h.knows,h.len,h.todo⟩
/-- what polls has so far -/
structure PolAt (w wx:World) (a:Nat) (b fin:Bool) (dt:List UInt8) (E:Option Addr) (ec:Nat):Prop where
 res:BlkA wx w.heap.size 49 #[.int .i64 0,.int .i64 0,.slice none 0 0,.bool false,.bool false,.bool false,.int .i64 0]
 box:BlkA wx (w.heap.size+1) 49 #[.int .i64 0,.int .i64 a,.slice E dt.length ec,.bool fin,.bool b,.bool false,.int .i64 0]
 own:Own wx (w.heap.size+1+1) 5 1 E dt.length ec (dt.map rv.u8v)
 low:Below w.heap.size w wx
theorem PolAt.fins {w wx:World} {a:Nat} {b fin:Bool} {dt:List UInt8} {E:Option Addr} {ec:Nat} (h:PolAt w wx a b fin dt E ec):PolAt w (wx.setCell ⟨w.heap.size+1,3,none⟩ (.bool true)) a b true dt E ec:=
 ⟨h.res.setCell (by simp only;omega) _,by simpa using h.box.set 3 (.bool true),h.own.setCell (fun e=>by have:=(h.own.lt _ e).1;simp only at this;omega) _,h.low.setCell (by simp only;omega) _⟩
theorem PolAt.push {w wx wa w6:World} {a:Nat} {b fin:Bool} {dt:List UInt8} {E E6:Option Addr} {ec ec6 k:Nat} {x:UInt8} (h:PolAt w wx a b fin dt E ec) (hk:dt.length=k) (hb:Below wx.heap.size wx wa) (hg:Grew wa w6 E E6) (ho:Own w6 (w.heap.size+1+1) 5 1 E6 (k+1) ec6 (dt.map rv.u8v ++ [.int .u8 (x.toNat:Int)])) :
  PolAt w (w6.setCell ⟨w.heap.size+1,2,none⟩ (.slice E6 (k+1) ec6)) a b fin (dt ++ [x]) E6 ec6:=by
 have hlt:=h.own.lt
 have hlt6:=ho.lt
 have st:Stays wx w6 (fun q=>blkOf E=some q):=(Stays.of_below hb _).comp (Stays.grew hg)
 have hbx:BlkA w6 (w.heap.size+1) _ _:=h.box.stays st (fun e=>by have:=(hlt _ e).1;omega)
 have hrx:BlkA w6 w.heap.size _ _:=h.res.stays st (fun e=>by have:=(hlt _ e).1;omega)
 have hl:(dt ++ [x]).length=k+1:=by rw [List.length_append,hk];rfl
 refine ⟨hrx.setCell (by simp only;omega) _,?_,?_,?_⟩
 ·rw [hl]
  simpa using hbx.set 2 (.slice E6 (k+1) ec6)
 ·rw [hl,List.map_append]
  exact ho.setCell (fun e=>by have:=(hlt6 _ e).1;simp only at this;omega) _
 ·exact (h.low.trans (st.below h.low.size (fun q hq=>by have:=(hlt _ hq).1;omega))).setCell (by simp only;omega) _
theorem sd.data_snoc {l:List UInt8} {a p:Nat} (ha:a≤p) (hp:p<l.length):(l.drop a).take (p+1 - a)=(l.drop a).take (p - a) ++ [l.getD p 0]:=by
 rw [show p+1 - a=(p - a)+1 by omega,List.take_add_one,List.getElem?_drop,show a+(p - a)=p by omega,List.getElem?_eq_getElem hp,List.getD_eq_getElem?_getD,List.getElem?_eq_getElem hp]
 rfl
/-- where the loop of polls ends -/
def sd.PolEnd (s:sd.St) (a T N q:Nat) (dt:List UInt8) (fin:Bool):Prop:=
 (T=a∧q=a∧dt=[]∧fin=false)∨(a<T∧q=N+(if fin=true then 1 else 0)∧dt=(s.data.drop a).take (N - a)∧fin=decide (N=s.data.length∧N<T))
set_option maxRecDepth 100000 in
set_option maxHeartbeats 4000000 in
theorem ref_polls (B G:Nat) (s:sd.St) (kl:List Bool) (todo:Int) (D:Option Addr) (dc:Nat) (K:Option Addr) (kc:Nat) (w:World) (h:OS w B G s kl todo D dc K kc) (hi:sd.Inv s) :
  Calls Try.prog 54 #[.pointer (some ⟨G,0,none⟩)] w (PolRes w B G (sd.poll s) kl D dc K kc):=by
 have HI:=Lib.hid hi
 obtain ⟨a,ha1,ha2,ha3,ha4,ha5⟩:=sd.search_at hi h.knows h.todo
 have htd:=h.todo
 have hlo:=hi.lo
 have hen:=hi.end_
 have hsz:=hi.size
 have hed:=hi.edge
 have hagb:=hi.again
 obtain ⟨td,rfl⟩:∃ td:Nat,todo=td:=⟨todo.toNat,by omega⟩
 obtain ⟨n,hn⟩:∃ n:Nat,s.next=n:=⟨s.next.toNat,by omega⟩
 have htd1:td≤a:=by omega
 have hn1:n≤1048576:=by omega
 rw [hn] at ha3 ha5
 have han:a≤n:=by omega
 obtain ⟨b,hb⟩:∃ b:Bool,b=decide (a<n):=⟨_,rfl⟩
 obtain ⟨lim,hlim⟩:∃ lim:Int,lim=if b=true then (n:Int) else s.edge:=⟨_,rfl⟩
 have hlimb:0≤lim∧lim≤1200000:=by rw [hlim];split <;> omega
 obtain ⟨T,N,hP⟩:∃ T N,sd.Plan s kl b a lim T N:=by
  by_cases hc:a<n
  ·have hb':b=true:=by rw [hb];simpa using hc
   rw [hlim,if_pos hb',hb',← hn]
   exact sd.plan_again hi h.knows ha1 (by omega)
  ·have hb':b=false:=by rw [hb];simpa using hc
   rw [hlim,hb',if_neg (by simp)]
   exact sd.plan_new hi kl (f:=a) (by omega) (by omega)
 obtain ⟨w1,hw1⟩:∃ w1,w1=w.alloc (.cells #[.int .i64 0,.int .i64 0,.slice none 0 0,.bool false,.bool false,.bool false,.int .i64 0] 49):=⟨_,rfl⟩
 have hb1:Below w.heap.size w w1:=by rw [hw1];exact balloc (bself w) _
 have HZ1:Hid (BlkA w1 w.heap.size 49 #[.int .i64 0,.int .i64 0,.slice none 0 0,.bool false,.bool false,.bool false,.int .i64 0]):=Lib.hid (by rw [hw1];exact BlkA.new _ _ _)
 have hz1:w1.heap.size=w.heap.size+1:=by rw [hw1];simp
 have HH1:=Lib.hid (h.next hb1)
 have HHE:Hid (∀ (wx:World) (p:Nat) (b':Bool),Below w.heap.size w wx→p≤4000000→kl.getD p false=b'→Calls Try.prog 52 #[.pointer (some ⟨G,0,none⟩),.int .i64 (p:Int)] wx fun e w'=>e=.returned (.bool b')∧wx=w'):=Lib.hid (fun wx p b' hb hp he=>he ▸ ref_heard B G s.data s.closed s.edge s.next kl td D dc K kc p wx (h.next hb).at_ hp)
 have HPL:Hid (∀ (wx:World) (en:Int),Below w.heap.size w wx→sd.endOf s=en→Calls Try.prog 53 #[.pointer (some ⟨G,0,none⟩)] wx fun e w'=>e=.returned (.int .i64 en)∧wx=w'):=Lib.hid (fun wx en hb he=>he ▸ ref_places B G s.data s.closed s.edge s.next kl td D dc K kc wx (h.next hb).at_ hsz)
 have H:=Lib.hid h
 have HN:=Lib.hid hn
 have HB1:=Lib.hid hb1
 have HB:=Lib.hid hb
 have HLIM:=Lib.hid hlim
 have HA4:=Lib.hid ha4
 have HA5:=Lib.hid ha5
 have HPN:=Lib.hid hP
 have hG1:G<w1.heap.size:=HH1.out.at_.blk.lt
 have c2:=HH1.out.at_.blk.get 2
 have c3:=HH1.out.at_.blk.get 3
 have c5:=HH1.out.at_.blk.get 5
 simp only [List.getElem?_toArray,List.getElem?_cons_succ,List.getElem?_cons_zero] at c2 c3 c5
 rw [hn] at c3
 clear h hi hn hb hlim ha1 ha2 ha3 ha4 ha5 htd hlo hagb hP hb1
 go_enter Try.func54,Try.ntmps54
 go_upto_region 1 with (fail)
 rw [← hw1]
 clear hw1
 go_upto_block 0 with (fail)
 go_cut [3] (fun s3 wx=>s3=.int .i64 (a:Int)∧w1=wx)
 case first=>
  go_wp2
  go_loop [3] (fun i=>∃ p:Nat,td≤p∧p≤a∧i=.int .i64 p) (fun i=>a - (intOf i).toNat)
  case atStart=>exact ⟨td,Nat.le_refl _,htd1,rfl⟩
  case round=>
   obtain ⟨p,hp1,hp2,rfl⟩:=hrel
   by_cases hpa:p<a
   ·have hpn:(p:Int)<(n:Int):=by omega
    have HHP:=Lib.hid (HHE.out w1 p true HB1.out (by omega) (HA4.out p (by omega) hpa))
    go_wp2_with (first
     | (go_at_call 52;((with_reducible refine HHP.out.mono ?_);rintro e _ ⟨rfl,rfl⟩))
     | fail)
    go_round
    case rel=>exact ⟨p+1,by omega,by omega,by go_num⟩
    case measure=>simp [intOf];omega
   ·obtain rfl:p=a:=by omega
    by_cases hc:p<n
    ·have hpn:(p:Int)<(n:Int):=by omega
     have HHP:=Lib.hid (HHE.out w1 p false HB1.out (by omega) (HA5.out hpn))
     go_wp2_with (first
      | (go_at_call 52;((with_reducible refine HHP.out.mono ?_);rintro e _ ⟨rfl,rfl⟩))
      | fail)
     go_meet
     exact ⟨rfl,rfl⟩
    ·have hpn:¬ (p:Int)<(n:Int):=by omega
     have hq:decide (p<n)=false:=by simpa using hc
     go_wp2
     go_meet
     exact ⟨rfl,rfl⟩
 case rest=>
  obtain ⟨rfl,rfl⟩:=hcut
  have hb1:decide ((a:Int)<(n:Int))=b:=by rw [HB.out];exact decide_eq_decide.2 (by omega)
  have hb2:decide (a<n)=b:=HB.out.symm
  go_upto_if 35 with (fail)
  go_cut [3,5] (fun s3 s5 wx=>s3=.int .i64 (a:Int)∧s5=.int .i64 lim∧w1=wx)
  case first=>
   cases b with
   | true=>
    go_wp2
    go_meet
    exact ⟨rfl,by rw [HLIM.out];rfl,rfl⟩
   | false=>
    have han2:(n:Int)=a:=by have:=HB.out;simp at this;omega
    go_wp2
    go_meet
    exact ⟨by congr 1,by rw [HLIM.out];rfl,rfl⟩
  case rest=>
   obtain ⟨rfl,rfl,rfl⟩:=hcut
   clear hb1 hb2 c2 c3 c5
   obtain ⟨w2,hw2⟩:∃ w2,w2=w1.alloc (.cells #[.int .i64 0,.int .i64 (a:Int),.slice none 0 0,.bool false,.bool b,.bool false,.int .i64 0] 49):=⟨_,rfl⟩
   have HP2:Hid (PolAt w w2 a b false [] none 0):=Lib.hid ⟨by rw [hw2];exact HZ1.out.alloc _,by rw [hw2,← hz1];exact BlkA.new _ _ _,Own.nil _ _ _ _,by rw [hw2];exact balloc HB1.out _⟩
   have HT:=Lib.hid hz1
   go_upto_region 10 with (fail)
   rw [← hw2]
   clear hw2
   go_upto_block 2 with (fail)
   go_cut [7] (fun s7 wx=>∃ (q:Nat) (E:Option Addr) (ec:Nat) (dt:List UInt8) (fin:Bool),s7=.int .i64 (q:Int)∧Hid (PolAt w wx a b fin dt E ec)∧Hid (sd.PolEnd s a T N q dt fin))
   case first=>
    go_wp2
    go_loopw [7] (fun i wx=>∃ (p:Nat) (E:Option Addr) (ec:Nat) (dt:List UInt8) (fin:Bool),i=.int .i64 (p:Int)∧Hid (PolAt w wx a b fin dt E ec)∧Hid ((fin=false∧a≤p∧p≤N∧dt=(s.data.drop a).take (p - a))∨(fin=true∧p=N+1∧a<T∧N<T∧N=s.data.length∧dt=(s.data.drop a).take (N - a)))) (fun i _=>N+2 - (intOf i).toNat)
    case atStart=>exact ⟨a,none,0,[],false,rfl,HP2,Lib.hid (.inl ⟨rfl,Nat.le_refl _,HPN.out.le.1,by simp⟩)⟩
    case round=>
     obtain ⟨p,E,ec,dt,fin,rfl,HPA,HC⟩:=hrel
     rename World=>wx
     have HBX:Hid (Below w.heap.size w wx):=Lib.hid HPA.out.low
     have HHX:=Lib.hid (H.out.next HBX.out)
     have zd:=HPA.out.box.get
     have ze:=HPA.out.box.frozen
     have lb:=HPA.out.box.lt
     have hGx:G<wx.heap.size:=HHX.out.at_.blk.lt
     have d0:=HHX.out.at_.blk.get 0
     simp only [List.getElem?_toArray,List.getElem?_cons_zero] at d0
     have hle:=HPN.out.le
     have hbd:=HPN.out.bound
     have hen_:=HPN.out.end_
     obtain ⟨en,hEN⟩:∃ en,sd.endOf s=en:=⟨_,rfl⟩
     have HPLX:=Lib.hid (HPL.out wx en HBX.out hEN)
     rcases HC.out with ⟨rfl,hp1,hp2,hdt⟩ | ⟨rfl,hpe,h3,h4,h5,hdt⟩
     ·have hk:dt.length=p - a:=by rw [hdt,List.length_take,List.length_drop];omega
      obtain ⟨k,hkk⟩:∃ k:Nat,p - a=k:=⟨_,rfl⟩
      rw [hkk] at hk
      simp only [hk] at zd
      have HK:=Lib.hid hk
      have HKK:=Lib.hid hkk
      by_cases hpT:p<T
      ·obtain ⟨k1,k2,k3⟩:=HPN.out.go p hp1 hpT
       rw [hEN] at k2
       have HHP:Hid (b=true→Calls Try.prog 52 #[.pointer (some ⟨G,0,none⟩),.int .i64 (p:Int)] wx fun e w'=>e=.returned (.bool false)∧wx=w'):=Lib.hid (fun hb=>HHE.out wx p false HBX.out (by omega) (k3 hb))
       have k1b:decide ((p:Int)<lim)=true:=by simpa using k1
       have k2b:decide ((p:Int)<en)=true:=by simpa using k2
       by_cases hpN:p<N
       ·have hpl:p<s.data.length:=by omega
        have hk64:k<64:=by omega
        have e1:(p == s.data.length)=false:=by simp;omega
        have e2:((p:Int) == (s.data.length:Int))=false:=by simp;omega
        have e3:((k:Int) == 64)=false:=by simp;omega
        have e4:(k == 64)=false:=by simp;omega
        have hpl2:(p:Int)<(s.data.length:Int):=by omega
        obtain ⟨gD,rfl,_,lD,dcell⟩:=HHX.out.at_.data.cell (j:=p) (u:=.int .u8 ((s.data.getD p 0).toNat:Int)) (by rw [List.getElem?_map,List.getElem?_eq_getElem hpl,List.getD_eq_getElem?_getD,List.getElem?_eq_getElem hpl];rfl)
        have HSN:=Lib.hid (sd.data_snoc (l:=s.data) hp1 hpl)
        have HDT:=Lib.hid hdt
        generalize s.data.getD p 0=x at *
        have hownE:=HPA.out.own
        rw [hk] at hownE
        have HOX:Hid (∀ m ob,Own ((wx.drewN m).alloc ob) (w.heap.size+1+1) 5 1 E k ec (dt.map rv.u8v)):=Lib.hid fun m ob=>hownE.next (balloc (bdrewN (bself _) _) _)
        have HBW:Hid (∀ m ob,Below wx.heap.size wx ((wx.drewN m).alloc ob)):=Lib.hid fun m ob=>balloc (bdrewN (bself _) _) _
        have hsz2:w.heap.size+1+1≤wx.heap.size:=by omega
        have HSX:Hid (∀ m ob,w.heap.size+1+1≤((wx.drewN m).alloc ob).heap.size):=Lib.hid fun m ob=>Nat.le_trans hsz2 (HBW.out m ob).size
        have HLB:Hid (∀ m ob,w.heap.size+1<((wx.drewN m).alloc ob).heap.size):=Lib.hid fun m ob=>Nat.lt_of_lt_of_le lb (HBW.out m ob).size
        have HNB:Hid (∀ q,blkOf E=some q→q≠w.heap.size+1):=Lib.hid fun q hq e=>by have:=(hownE.lt q hq).1;omega
        have HCB:Hid (∀ m ob,((wx.drewN m).alloc ob).cell? ⟨w.heap.size+1,2,none⟩=some (.slice E k ec)):=Lib.hid fun m ob=>by
         have h:=(HPA.out.box.next (HBW.out m ob)).get 2
         rw [HK.out] at h
         simpa using h
        have HFB:Hid (∀ m ob,((wx.drewN m).alloc ob).frozen? ⟨w.heap.size+1,2,none⟩=false):=Lib.hid fun m ob=>(HPA.out.box.next (HBW.out m ob)).frozen 2
        clear hownE hdt hk hkk
        cases b
        all_goals
         go_upto_region 15 with (first
          | (go_at_call 52;((with_reducible refine (HHP.out (by trivial)).mono ?_);rintro e _ ⟨rfl,rfl⟩))
          | (go_at_call 53;((with_reducible refine HPLX.out.mono ?_);rintro e _ ⟨rfl,rfl⟩))
          | fail)
         go_region_law
          (first
           | (refine step_app _ (by rfl) _ _ _ (by rfl) elemU8 (w.heap.size+1+1) E k ec _ (by rfl) (HOX.out _ _) (some ⟨wx.heap.size,0,none⟩) 1 1 [.int .u8 (x.toNat:Int)] (by rfl) (by rfl) (Cells.newAt _ _ _ (by first | rfl | (simp;done))) (by simp [Value.oneCell']) (by first | omega | (simp;done) | (simp;omega)) (by unfold maxLen;first | omega | (simp;done) | (simp;omega)) (HSX.out _ _) ?_;intro E7 c7 w7 hO7 hg7;have x5:=(hg7.cell (b:=w.heap.size+1) 2 (HLB.out _ _) HNB.out).trans (HCB.out _ _);have x6:=(hg7.frozen (b:=w.heap.size+1) 2 (HLB.out _ _) HNB.out).trans (HFB.out _ _))
           | fail)
         all_goals
          have HNEW:=Lib.hid (HPA.out.push HK.out (HBW.out _ _) hg7 hO7)
          clear hg7 hO7
          go_wp2
          go_roundw
          case rel=>exact ⟨p+1,E7,c7,dt ++ [x],false,by go_num,HNEW,Lib.hid (.inl ⟨rfl,by omega,by omega,by rw [HSN.out,HDT.out]⟩)⟩
          case measure=>simp [intOf];omega
       ·obtain rfl:p=N:=by omega
        rcases hen_ with e | ⟨q1,q2,q3,q4⟩ | ⟨q1,q2,q3⟩
        ·omega
        ·have e1:(p == s.data.length)=true:=by simpa using q2
         have e2:((p:Int) == (s.data.length:Int))=true:=by simp;omega
         have HNEW:=Lib.hid HPA.out.fins
         have HDT:=Lib.hid hdt
         have HQ2:=Lib.hid q2
         clear hdt hk hkk q2
         cases b
         all_goals
          go_wp2_with (first
           | (go_at_call 52;((with_reducible refine (HHP.out (by trivial)).mono ?_);rintro e _ ⟨rfl,rfl⟩))
           | (go_at_call 53;((with_reducible refine HPLX.out.mono ?_);rintro e _ ⟨rfl,rfl⟩))
           | fail)
          go_roundw
          case rel=>exact ⟨p+1,E,ec,dt,true,by go_num,HNEW,Lib.hid (.inr ⟨rfl,rfl,by omega,q1,HQ2.out,HDT.out⟩)⟩
          case measure=>first | (simp [intOf];done) | (simp [intOf];omega)
        ·have e1:(p == s.data.length)=false:=by simp;omega
         have e2:((p:Int) == (s.data.length:Int))=false:=by simp;omega
         obtain rfl:k=64:=by omega
         have HEND:Hid (sd.PolEnd s a T p p dt false):=Lib.hid (.inr ⟨by omega,by simp,hdt,(decide_eq_false (by omega)).symm⟩)
         clear hdt hk hkk q3
         cases b
         all_goals
          go_wp2_with (first
           | (go_at_call 52;((with_reducible refine (HHP.out (by trivial)).mono ?_);rintro e _ ⟨rfl,rfl⟩))
           | (go_at_call 53;((with_reducible refine HPLX.out.mono ?_);rintro e _ ⟨rfl,rfl⟩))
           | fail)
          go_meet
          exact ⟨p,E,ec,dt,false,rfl,HPA,HEND⟩
      ·have hpT2:p=T:=by omega
       have hNT:N=T:=by omega
       have HEND:Hid (sd.PolEnd s a T N p dt false):=Lib.hid (by
        by_cases hTa:T=a
        ·refine .inl ⟨hTa,by omega,?_,rfl⟩
         rw [hdt,show p - a=0 by omega]
         rfl
        ·exact .inr ⟨by omega,by simp;omega,by rw [hNT,← hpT2];exact hdt,(decide_eq_false (by omega)).symm⟩)
       have hst:=HPN.out.stop
       rw [← hpT2,hEN] at hst
       have hpT3:p≤4000000:=by omega
       clear hdt hk hkk hpT2 hNT hen_ hpT
       rcases hst with s1 | ⟨s1,s2⟩ | ⟨s1,s2,s3,s4⟩
       ·have k1b:decide ((p:Int)<lim)=false:=by simpa using s1
        go_wp2
        go_meet
        exact ⟨p,E,ec,dt,false,rfl,HPA,HEND⟩
       ·have k1b:decide ((p:Int)<lim)=true:=by simpa using s1
        have k2b:decide ((p:Int)<en)=false:=by simpa using s2
        go_wp2_with (first
         | (go_at_call 53;((with_reducible refine HPLX.out.mono ?_);rintro e _ ⟨rfl,rfl⟩))
         | fail)
        go_meet
        exact ⟨p,E,ec,dt,false,rfl,HPA,HEND⟩
       ·have k1b:decide ((p:Int)<lim)=true:=by simpa using s1
        have k2b:decide ((p:Int)<en)=true:=by simpa using s2
        subst s3
        have HHP:=Lib.hid (HHE.out wx p true HBX.out hpT3 s4)
        go_wp2_with (first
         | (go_at_call 52;((with_reducible refine HHP.out.mono ?_);rintro e _ ⟨rfl,rfl⟩))
         | (go_at_call 53;((with_reducible refine HPLX.out.mono ?_);rintro e _ ⟨rfl,rfl⟩))
         | fail)
        go_meet
        exact ⟨p,E,ec,dt,false,rfl,HPA,HEND⟩
     ·have hen2:en=N+1:=by
       rcases hen_ with e | ⟨q1,q2,q3,q4⟩ | ⟨q1,q2,q3⟩ <;> omega
      have s2:¬ (p:Int)<en:=by omega
      have k2b:decide ((p:Int)<en)=false:=by simpa using s2
      have HEND:Hid (sd.PolEnd s a T N p dt true):=Lib.hid (.inr ⟨h3,by simpa using hpe,hdt,(decide_eq_true ⟨h5,h4⟩).symm⟩)
      clear hdt hpe h5 hen2
      by_cases s1:(p:Int)<lim
      ·have k1b:decide ((p:Int)<lim)=true:=by simpa using s1
       go_wp2_with (first
        | (go_at_call 53;((with_reducible refine HPLX.out.mono ?_);rintro e _ ⟨rfl,rfl⟩))
        | fail)
       go_meet
       exact ⟨p,E,ec,dt,true,rfl,HPA,HEND⟩
      ·have k1b:decide ((p:Int)<lim)=false:=by simpa using s1
       go_wp2
       go_meet
       exact ⟨p,E,ec,dt,true,rfl,HPA,HEND⟩
   case rest=>
    obtain ⟨q,E,ec,dt,fin,rfl,HPA,HC⟩:=hcut
    rename World=>wx
    have HHX:=Lib.hid (H.out.next HPA.out.low)
    have HLT:=Lib.hid H.out.lts
    have hGw:G<w.heap.size:=HLT.out G (.inl rfl)
    by_cases hTa:T=a
    ·have hq:q=a:=by
      rcases HC.out with ⟨_,e,_⟩ | ⟨e,_⟩
      ·exact e
      ·omega
     obtain rfl:q=a:=hq
     have HR:=Lib.hid (HPN.out.no hTa)
     have yd:=HPA.out.res.get
     have yf:=HPA.out.res.frozen
     have lr:=HPA.out.res.lt
     have HFIN:Hid (∀ wy,Stays wx wy (fun k=>k=w.heap.size)→PolRes w B G (sd.poll s) kl D dc K kc (.returned (.agg #[.int .i64 0,.int .i64 0,.slice none 0 0,.bool false,.bool false,.bool true,.int .i64 0])) wy):=Lib.hid (fun wy hs=>by
      rw [HR.out]
      exact ⟨none,0,td,rfl,Own.nil _ _ _ _,HHX.out.stays hs (fun k hk e=>by have:=HLT.out k hk;omega),(Stays.of_below HPA.out.low _).trans hs (fun k hk e=>by omega)⟩)
     clear HHE HPL HC hTa
     go_wp2
     refine bodyPost_ret (v:=.agg #[.int .i64 0,.int .i64 0,.slice none 0 0,.bool false,.bool false,.bool true,.int .i64 0]) (by simp [results,Try.results54,go_sem, *]) rfl (HFIN.out _ ?_)
     exact Stays.seven _ _ _ _ _ _ _ _ _
    ·have hle:=HPN.out.le
     have haT:a<T:=by omega
     obtain ⟨hq,hdt,hfin⟩:q=N+(if fin=true then 1 else 0)∧dt=(s.data.drop a).take (N - a)∧fin=decide (N=s.data.length∧N<T):=by
      rcases HC.out with ⟨e,_⟩ | ⟨_,e⟩
      ·exact absurd e hTa
      ·exact e
     have hqi:(q:Int)=N+sd.fin1 fin:=by rw [hq];cases fin <;> simp [sd.fin1]
     have hqa:a<q:=by
      have h:=HPN.out.more haT
      rw [hq,hfin]
      by_cases c:N=s.data.length∧N<T
      ·rw [decide_eq_true c];rw [if_pos c] at h;simpa using h
      ·rw [decide_eq_false c];rw [if_neg c] at h;simpa using h
     have HR:Hid (sd.poll s=(⟨0,a,dt,fin,b,false,0⟩,if b=true then { s with again:=(q:Int) } else { s with next:=(q:Int),again:=(q:Int) })):=Lib.hid (by
      have h:=HPN.out.yes haT
      rw [← hfin,← hdt,← hqi] at h
      exact h)
     have e1:(q == a)=false:=by simp;omega
     have e2:((q:Int) == (a:Int))=false:=by simp;omega
     have f3:=HHX.out.at_.blk.frozen 3
     have f5:=HHX.out.at_.blk.frozen 5
     have c3:=HHX.out.at_.blk.get 3
     have c5:=HHX.out.at_.blk.get 5
     simp only [List.getElem?_toArray,List.getElem?_cons_succ,List.getElem?_cons_zero] at c3 c5
     have hGx:=HHX.out.at_.blk.lt
     have HQA:=Lib.hid hqa
     clear HHE HPL HC hTa hq hdt hfin hqi hqa
     cases b with
     | true=>
      go_upto_region 22 with (fail)
      generalize hwy:World.setCell wx _ _=wy
      have st:Stays wx wy (fun k=>k=G):=by rw [← hwy];exact Stays.set _ _ _ _
      have HO:Hid (OAt wy B G s.data s.closed s.edge s.next kl q D dc K kc):=Lib.hid (by rw [← hwy];exact HHX.out.at_.putTodo q)
      have HST:=Lib.hid st
      have hbx:=HPA.out.box.stays st (by omega)
      have hrx:=HPA.out.res.stays st (by omega)
      have zd:=hbx.get
      have ze:=hbx.frozen
      have yd:=hrx.get
      have yf:=hrx.frozen
      have lb:=hbx.lt
      have lr:=hrx.lt
      have HOW:=Lib.hid (HPA.out.own.stays st (fun k hk e=>by have:=(HPA.out.own.lt k hk).1;omega))
      have HFIN:Hid (∀ wz,Stays wy wz (fun k=>k=w.heap.size)→PolRes w B G (sd.poll s) kl D dc K kc (.returned (.agg #[.int .i64 0,.int .i64 a,.slice E dt.length ec,.bool fin,.bool true,.bool false,.int .i64 0])) wz):=Lib.hid (fun wz hs=>by
       rw [HR.out,if_pos rfl]
       refine ⟨E,ec,q,rfl,(HOW.out.stays hs (fun k hk e=>by have:=(HOW.out.lt k hk).1;omega)).base_le (by omega),⟨HO.out.stays hs (fun k hk e=>by have:=HLT.out k hk;omega),H.out.knows,H.out.len,by omega,Int.le_refl _,fun x x1 x2=>?_⟩,((Stays.of_below HPA.out.low _).comp HST.out).trans hs (fun k hk e=>by omega)⟩
       have x2':x<(q:Int):=x2
       omega)
      clear hwy st hbx hrx f3 f5 c3 c5
      go_wp2
      refine bodyPost_ret (v:=.agg #[.int .i64 0,.int .i64 a,.slice E dt.length ec,.bool fin,.bool true,.bool false,.int .i64 0]) (by simp [results,Try.results54,go_sem, *]) rfl (HFIN.out _ ?_)
      exact Stays.seven _ _ _ _ _ _ _ _ _
     | false=>
      have hne:s.next≤(q:Int):=by
       have h1:=HB.out
       have h2:=HN.out
       have h3:=HQA.out
       simp at h1
       omega
      have HNE:=Lib.hid hne
      clear hne
      go_upto_region 22 with (fail)
      generalize hwy:World.setCell (World.setCell wx _ _) _ _=wy
      have st:Stays wx wy (fun k=>k=G):=by rw [← hwy];exact (Stays.set _ _ _ _).comp (Stays.set _ _ _ _)
      have HO:Hid (OAt wy B G s.data s.closed s.edge q kl q D dc K kc):=Lib.hid (by rw [← hwy];exact (HHX.out.at_.putSent q).putTodo q)
      have HST:=Lib.hid st
      have hbx:=HPA.out.box.stays st (by omega)
      have hrx:=HPA.out.res.stays st (by omega)
      have zd:=hbx.get
      have ze:=hbx.frozen
      have yd:=hrx.get
      have yf:=hrx.frozen
      have lb:=hbx.lt
      have lr:=hrx.lt
      have HOW:=Lib.hid (HPA.out.own.stays st (fun k hk e=>by have:=(HPA.out.own.lt k hk).1;omega))
      have HFIN:Hid (∀ wz,Stays wy wz (fun k=>k=w.heap.size)→PolRes w B G (sd.poll s) kl D dc K kc (.returned (.agg #[.int .i64 0,.int .i64 a,.slice E dt.length ec,.bool fin,.bool false,.bool false,.int .i64 0])) wz):=Lib.hid (fun wz hs=>by
       rw [HR.out,if_neg (by simp)]
       refine ⟨E,ec,q,rfl,(HOW.out.stays hs (fun k hk e=>by have:=(HOW.out.lt k hk).1;omega)).base_le (by omega),⟨HO.out.stays hs (fun k hk e=>by have:=HLT.out k hk;omega),H.out.knows,Int.le_trans H.out.len HNE.out,by omega,Int.le_refl _,fun x x1 x2=>?_⟩,((Stays.of_below HPA.out.low _).comp HST.out).trans hs (fun k hk e=>by omega)⟩
       have x2':x<(q:Int):=x2
       omega)
      clear hwy st hbx hrx f3 f5 c3 c5
      go_wp2
      refine bodyPost_ret (v:=.agg #[.int .i64 0,.int .i64 a,.slice E dt.length ec,.bool fin,.bool false,.bool false,.int .i64 0]) (by simp [results,Try.results54,go_sem, *]) rfl (HFIN.out _ ?_)
      exact Stays.seven _ _ _ _ _ _ _ _ _
end Go.Proofs.Ytdldfllllgogoaa
namespace Go.Proofs.Ytdldfllllgogoaa
open Go.RowKit
set_option linter.unusedSimpArgs false
def DeedRes (w:World) (B G:Nat) (r:Sent × sd.St) (D K:Option Addr) (e:Ending) (w':World):Prop:=
 ∃ cs kl td D1 dc1 K1 kc1,e=.returned (.agg cs.toArray)∧Sent.rep.rep w' (fun k=>w.heap.size≤k∧k<w'.heap.size∧¬ OF G D1 K1 k) r.1 cs∧OS w' B G r.2 kl td D1 dc1 K1 kc1∧Stays w w' (fun k=>k=G)∧∀ k,OF G D1 K1 k→OF G D K k∨w.heap.size≤k
/-- behind the switch of Deed -/
structure OMid (w wx:World) (B G:Nat) (D K:Option Addr) (dt:List UInt8) (s':sd.St) (kl:List Bool) (td:Int) (D1:Option Addr) (dc1:Nat) (K1:Option Addr) (kc1:Nat) (E:Option Addr) (ec:Nat) (bx:Array Value):Prop where
 lt:∀ k,OF G D K k→k<w.heap.size
 os:OS wx B G s' kl td D1 dc1 K1 kc1
 box:BlkA wx (w.heap.size+1+1) 49 bx
 res:BlkA wx (w.heap.size+1) 49 #[.int .i64 0,.int .i64 0,.slice none 0 0,.bool false,.bool false,.bool false,.int .i64 0]
 own:Own wx (w.heap.size+1+1+1) 5 1 E dt.length ec (dt.map rv.u8v)
 far:∀ k,blkOf E=some k→¬ OF G D1 K1 k
 stay:Stays w wx (fun k=>k=G)
 nm:∀ k,OF G D1 K1 k→OF G D K k∨w.heap.size+1+1+1≤k
section
variable {w wx wy:World} {B G:Nat} {D K:Option Addr} {dt:List UInt8} {s':sd.St} {kl:List Bool} {td:Int} {D1:Option Addr} {dc1:Nat} {K1:Option Addr} {kc1:Nat} {E:Option Addr} {ec:Nat} {bx bx':Array Value}
theorem OMid.nohf (h:OMid w wx B G D K dt s' kl td D1 dc1 K1 kc1 E ec bx) {k:Nat} (hk:OF G D1 K1 k):k≠w.heap.size+1+1∧k≠w.heap.size+1:=by
 rcases h.nm k hk with e | e
 ·have:=h.lt k e;omega
 ·omega
theorem OMid.touch (h:OMid w wx B G D K dt s' kl td D1 dc1 K1 kc1 E ec bx) (hs:Stays wx wy (fun k=>k=w.heap.size+1+1)) (hb:BlkA wy (w.heap.size+1+1) 49 bx'):OMid w wy B G D K dt s' kl td D1 dc1 K1 kc1 E ec bx':=
 ⟨h.lt,h.os.stays hs (fun k hk e=>(h.nohf hk).1 e),hb,h.res.stays hs (fun e=>by omega),h.own.stays hs (fun k hk e=>by have:=(h.own.lt k hk).1;omega),h.far,h.stay.trans hs (fun k hk e=>by omega),h.nm⟩
end
theorem OMid.snd {w w3 w4:World} {B G:Nat} {D K:Option Addr} {r:sd.St} {kl:List Bool} {td:Int} {D1:Option Addr} {dc1:Nat} {K1:Option Addr} {kc1:Nat} (hb:Below w.heap.size w w3) (hs3:w3.heap.size=w.heap.size+1+1+1) (hr:BlkA w3 (w.heap.size+1) 49 #[.int .i64 0,.int .i64 0,.slice none 0 0,.bool false,.bool false,.bool false,.int .i64 0]) (ht:BlkA w3 (w.heap.size+1+1) 49 #[.int .i64 0,.int .i64 0,.slice none 0 0,.bool false,.bool false,.bool false,.int .i64 0]) (hlt:∀ k,OF G D K k→k<w.heap.size) (q1:OS w4 B G r kl td D1 dc1 K1 kc1) (q2:Stays w3 w4 (fun k=>k=G)) (q3:∀ k,OF G D1 K1 k→OF G D K k∨w3.heap.size≤k) :
  OMid w w4 B G D K [] r kl td D1 dc1 K1 kc1 none 0 #[.int .i64 0,.int .i64 0,.slice none 0 0,.bool false,.bool false,.bool false,.int .i64 0]:=
 ⟨hlt,q1,ht.stays q2 (fun e=>by have:=hlt _ (.inl e);omega),hr.stays q2 (fun e=>by have:=hlt _ (.inl e);omega),Own.nil _ _ _ _,fun k hk=>(by cases hk),(Stays.of_below hb _).trans q2 (fun k hk e=>e),fun k hk=>(q3 k hk).imp id (fun e=>by omega)⟩
theorem OS.putClosed {w:World} {B G:Nat} {s:sd.St} {kl:List Bool} {td:Int} {D:Option Addr} {dc:Nat} {K:Option Addr} {kc:Nat} (h:OS w B G s kl td D dc K kc) (b:Bool):OS (w.setCell ⟨G,1,none⟩ (.bool b)) B G { s with closed:=b } kl td D dc K kc:=⟨h.at_.putClosed b,h.knows,h.len,h.todo⟩
theorem sd.cnt_bd (P:Int→Bool) (lo:Int):∀ k:Nat,0≤sd.cnt P lo k∧sd.cnt P lo k≤k
 | 0=>⟨Int.le_refl _,Int.le_refl _⟩
 | k+1=>by
  have ih:=sd.cnt_bd P lo k
  rw [sd.cnt]
  split <;> omega
theorem sd.cnt_step (kl:List Bool) (p:Nat):sd.cnt (sd.PB kl) 0 (p+1)=sd.cnt (sd.PB kl) 0 p+if kl.getD p false=true then 1 else 0:=by
 rw [sd.cnt,Int.zero_add,sd.PB_nat]
theorem OS.left {w:World} {B G:Nat} {s:sd.St} {kl:List Bool} {td:Int} {D:Option Addr} {dc:Nat} {K:Option Addr} {kc:Nat} (h:OS w B G s kl td D dc K kc) (hi:sd.Inv s) {n:Nat} (hn:s.next=n):sd.endOf s - sd.cnt (sd.PB kl) 0 n=sd.leftOf s:=by
 rw [sd.cnt_heard hi (P:=sd.PB kl) (fun x x0 x1=>?_) hn]
 ·unfold sd.leftOf
  omega
 ·obtain ⟨k,rfl⟩:∃ k:Nat,x=k:=⟨x.toNat,by omega⟩
  rw [sd.PB_nat,h.knows k]
  exact ⟨fun y=>y.imp (fun z=>⟨x0,z⟩) id,fun y=>y.imp (fun z=>z.2) id⟩
section
variable (B G:Nat) (s:sd.St) (kl:List Bool) (td:Int) (D:Option Addr) (dc:Nat) (K:Option Addr) (kc:Nat) (d:Deed) (X:Option Addr) (xc:Nat) (R:Option Addr) (rc:Nat) (w:World)
set_option maxRecDepth 100000 in
set_option maxHeartbeats 4000000 in
theorem ref_Deed (h:OS w B G s kl td D dc K kc) (hi:sd.Inv s) (hX:SlRep Rep.u8 w (· < w.heap.size) d.data X xc) (hR:SlRep Rng.rep w (· < w.heap.size) d.sacks R rc) (ha:IntOk d.ack) (hwn:IntOk d.window) (hd:d.data.length≤140737488351232) (hds:d.sacks.length≤140737488351232) :
  Calls Try.prog 27 #[.pointer (some ⟨G,0,none⟩),.agg #[.int .i64 d.kind,.slice X d.data.length xc,.int .i64 d.ack,.int .i64 d.window,.slice R d.sacks.length rc]] w (DeedRes w B G (sd.doIt s d) D K):=by
 obtain ⟨dk,dd,da,dw,ds⟩:=d
 simp only at hX hR ha hwn hd hds ⊢
 have H:=Lib.hid h
 have HI:=Lib.hid hi
 have hGl:=h.at_.blk.lt
 have HLT:=Lib.hid (fun k (hk:OF G D K k)=>h.lts k hk)
 obtain ⟨ca,hca⟩:∃ ca:Array Value,ca = #[.int .i64 dk,.slice X dd.length xc,.int .i64 da,.int .i64 dw,.slice R ds.length rc]:=⟨_,rfl⟩
 obtain ⟨zt,hzt⟩:∃ zt:Array Value,zt = #[.int .i64 0,.int .i64 0,.slice none 0 0,.bool false,.bool false,.bool false,.int .i64 0]:=⟨_,rfl⟩
 obtain ⟨w3,hw3⟩:∃ w3,w3=((w.alloc (.cells ca 82)).alloc (.cells zt 49)).alloc (.cells zt 49):=⟨_,rfl⟩
 have hb3:Below w.heap.size w w3:=by rw [hw3];exact balloc (balloc (balloc (bself w) _) _) _
 have hs3:w3.heap.size=w.heap.size+1+1+1:=by rw [hw3];simp
 have hA3:BlkA w3 w.heap.size 82 ca:=by rw [hw3];exact ((BlkA.new w 82 _).alloc _).alloc _
 have hR3:BlkA w3 (w.heap.size+1) 49 zt:=by
  rw [hw3]
  have h:=(BlkA.new (w.alloc (.cells ca 82)) 49 zt).alloc (.cells zt 49)
  simpa using h
 have hT3:BlkA w3 (w.heap.size+1+1) 49 zt:=by
  rw [hw3]
  have h:=BlkA.new ((w.alloc (.cells ca 82)).alloc (.cells zt 49)) 49 zt
  simpa using h
 have h3:=h.next hb3
 have HHE:=Lib.hid (ref_hears B G s kl td D dc K kc ⟨dk,dd,da,dw,ds⟩ X xc R rc w3 h3 hi (hR.next hb3) ha hwn hds)
 have HPO:=Lib.hid (ref_polls B G s kl td D dc K kc w3 h3 hi)
 have HHD:Hid (∀ (wx:World) (t:Int) (p:Nat) (b':Bool),OAt wx B G s.data s.closed s.edge s.next kl t D dc K kc→p≤4000000→kl.getD p false=b'→Calls Try.prog 52 #[.pointer (some ⟨G,0,none⟩),.int .i64 (p:Int)] wx fun e w'=>e=.returned (.bool b')∧wx=w'):=Lib.hid (fun wx t p b' hb hp he=>he ▸ ref_heard B G s.data s.closed s.edge s.next kl t D dc K kc p wx hb hp)
 simp only at HHE
 subst hca hzt
 have HB3:=Lib.hid hb3
 have HS3:=Lib.hid hs3
 have HA3:=Lib.hid hA3
 have HR3:=Lib.hid hR3
 have HT3:=Lib.hid hT3
 have H3:=Lib.hid h3
 have HIN:=Lib.hid (hi.step ⟨dk,dd,da,dw,ds⟩)
 have HX3:=Lib.hid (hX.next hb3)
 have HM0:=Lib.hid (OMid.snd hb3 hs3 hR3 hT3 HLT.out h3 (Stays.refl _ _) (fun k hk=>.inl hk))
 have y0:=hA3.get 0
 have y1:=hA3.get 1
 have y2:=hA3.get 2
 have y3:=hA3.get 3
 have y4:=hA3.get 4
 simp only [List.getElem?_toArray,List.getElem?_cons_succ,List.getElem?_cons_zero] at y0 y1 y2 y3 y4
 clear h hi hX hR hA3 hR3 hT3 h3 hb3
 go_enter Try.func27,Try.ntmps27
 go_upto_region 2 with (fail)
 rw [← hw3]
 clear hw3
 go_upto_block 0 with (fail)
 go_cut [] (fun wx=>∃ c f dt b1 b2 b3 s' kl1 td1 D1 dc1 K1 kc1 E ec,Hid (sd.step s ⟨dk,dd,da,dw,ds⟩=(⟨c,f,dt,b1,b2,b3,0⟩,s'))∧Hid (OMid w wx B G D K dt s' kl1 td1 D1 dc1 K1 kc1 E ec #[.int .i64 c,.int .i64 f,.slice E (List.length dt) ec,.bool b1,.bool b2,.bool b3,.int .i64 0]))
 case first=>
  have zd:=HM0.out.box.get
  have ze:=HM0.out.box.frozen
  have hG3:=H3.out.at_.blk.lt
  have hz3:=HS3.out
  by_cases k1:dk=1
  ·subst k1
   have HST:Hid (sd.step s ⟨1,dd,da,dw,ds⟩=(sd.coded (sd.submit s dd).1,(sd.submit s dd).2)):=Lib.hid (by unfold sd.step;rw [if_pos rfl])
   have c0:=H3.out.at_.blk.get 0
   have c1:=H3.out.at_.blk.get 1
   have f0:=H3.out.at_.blk.frozen 0
   simp only [List.getElem?_toArray,List.getElem?_cons_succ,List.getElem?_cons_zero] at c0 c1
   have hsz:=HI.out.size
   have HNO:Hid (∀ c wx,sd.submit s dd=(c,s)→Below w3.heap.size w3 wx→∃ c' f dt b1 b2 b3 s' kl1 td1 D1 dc1 K1 kc1 E ec,Hid (sd.step s ⟨1,dd,da,dw,ds⟩=(⟨c',f,dt,b1,b2,b3,0⟩,s'))∧Hid (OMid w (wx.setCell ⟨w.heap.size+1+1,0,none⟩ (.int .i64 c)) B G D K dt s' kl1 td1 D1 dc1 K1 kc1 E ec #[.int .i64 c',.int .i64 f,.slice E (List.length dt) ec,.bool b1,.bool b2,.bool b3,.int .i64 0])):=Lib.hid (fun c wx hc hb=>by
    have h1:=HM0.out
    have h2:OMid w wx B G D K [] s kl td D dc K kc none 0 _:=⟨h1.lt,h1.os.next hb,h1.box.next hb,h1.res.next hb,Own.nil _ _ _ _,h1.far,h1.stay.comp (Stays.of_below hb _),h1.nm⟩
    refine ⟨c,0,[],false,false,false,s,kl,td,D,dc,K,kc,none,0,Lib.hid (by rw [HST.out,hc];rfl),Lib.hid (h2.touch (Stays.set _ _ _ _) (by simpa using h2.box.set 0 (.int .i64 c)))⟩)
   clear HHE HPO HHD HIN
   cases hc:s.closed with
   | true=>
    have HE:Hid (sd.submit s dd=(10,s)):=Lib.hid (by unfold sd.submit;rw [if_pos hc])
    rw [hc] at c1
    clear hc
    go_wp2
    go_meet
    exact HNO.out 10 _ HE.out (bself _)
   | false=>
    rw [hc] at c1
    by_cases k2:4096<dd.length
    ·have HE:Hid (sd.submit s dd=(1,s)):=Lib.hid (by unfold sd.submit;rw [if_neg (by rw [hc];decide),if_pos k2])
     have q2:(4096:Int)<(dd.length:Int):=by omega
     clear hc
     go_wp2
     go_meet
     exact HNO.out 1 _ HE.out (bself _)
    ·have q2:¬ (4096:Int)<(dd.length:Int):=by omega
     by_cases k3:1048576≤s.data.length+dd.length
     ·have HE:Hid (sd.submit s dd=(9,s)):=Lib.hid (by unfold sd.submit;rw [if_neg (by rw [hc];decide),if_neg k2,if_pos k3])
      have q3:(1048575:Int)<(s.data.length:Int)+(dd.length:Int):=by omega
      clear hc
      go_wp2
      go_quiet (fail)
      go_wp2
      go_meet
      exact HNO.out 9 _ HE.out (bdrewN (bself _) _)
     ·have HE:Hid (sd.submit s dd=(0,{ s with data:=s.data ++ dd })):=Lib.hid (by unfold sd.submit;rw [if_neg (by rw [hc];decide),if_neg k2,if_neg k3])
      have q3:¬ (1048575:Int)<(s.data.length:Int)+(dd.length:Int):=by omega
      clear hc
      go_wp2
      go_quiet (fail)
      go_upto_region 5 with (fail)
      generalize hw4:World.drewN w3 _=w4
      have hb34:Below w3.heap.size w3 w4:=by rw [← hw4];exact bdrewN (bself _) _
      have hz4:w4.heap.size=w3.heap.size:=by rw [← hw4];rfl
      clear hw4
      have H4:=Lib.hid (H3.out.next hb34)
      have HB34:=Lib.hid hb34
      have HZ4:=Lib.hid hz4
      have HC4:Hid (∀ wx,Below w4.heap.size w4 wx→Cells wx D (s.data.map rv.u8v)∧Cells wx X (dd.map rv.u8v)∧(∀ u ∈ s.data.map rv.u8v,u.oneCell'=true)∧(∀ u ∈ dd.map rv.u8v,u.oneCell'=true)):=Lib.hid (fun wx hb=>⟨(H4.out.at_.data.next hb).cells,((HX3.out.next hb34).next hb).cells_u8,oneCell_u8 _,oneCell_u8 _⟩)
      have c0:=(hb34.cell (p:=⟨G,0,none⟩) hG3).trans c0
      have l3:w.heap.size<w3.heap.size:=by omega
      have y1:=(hb34.cell (p:=⟨w.heap.size,1,none⟩) l3).trans y1
      have hG4:=H4.out.at_.blk.lt
      have l4:w.heap.size<w4.heap.size:=by omega
      clear hb34 hz4 c1 f0 zd ze
      refine wp_region_tail [11] (fun wx=>wx.cell? ⟨G,0,none⟩=some (.slice D s.data.length dc)∧wx.cell? ⟨w.heap.size,1,none⟩=some (.slice X dd.length xc)) (by kernel_rfl) (⟨c0,y1⟩) ?_
      intro hHeld
      refine zP 0 (v:=?_) ?_ (fun _=>hHeld) ?_
      rotate_left
      ·intro w9;go_simp;try with_reducible rfl
      try simp only [Act.put,zA,zB,zC,zD,zE,zF]
      refine zP 1 (v:=?_) ?_ (fun _=>hHeld) ?_
      rotate_left
      ·intro w9;go_simp;try with_reducible rfl
      try simp only [Act.put,zA,zB,zC,zD,zE,zF]
      refine zP 2 (v:=?_) ?_ (fun _=>hHeld) ?_
      rotate_left
      ·intro w9;go_simp;try with_reducible rfl
      try simp only [Act.put,zA,zB,zC,zD,zE,zF]
      refine zP 3 (v:=?_) ?_ (fun _=>hHeld) ?_
      rotate_left
      ·intro w9;go_simp;try with_reducible rfl
      try simp only [Act.put,zA,zB,zC,zD,zE,zF]
      refine zT 4 [5,8,11] (v:=?_) ?_ hHeld ?_
      rotate_left
      ·intro w9 hS9;(try dsimp only at hS9);obtain ⟨q1,q2⟩:=hS9;go_simp;try with_reducible rfl
      try simp only [Act.put,zA,zB,zC,zD,zE,zF]
      refine zP 6 (v:=?_) ?_ (fun _=>hHeld) ?_
      rotate_left
      ·intro w9;go_simp;try with_reducible rfl
      try simp only [Act.put,zA,zB,zC,zD,zE,zF]
      refine zT 7 [8,11] (v:=?_) ?_ hHeld ?_
      rotate_left
      ·intro w9 hS9;(try dsimp only at hS9);obtain ⟨q1,q2⟩:=hS9;go_simp;try with_reducible rfl
      try simp only [Act.put,zA,zB,zC,zD,zE,zF]
      refine wpAnyT_next (i:=5) (by kernel_rfl) rfl ?_
      intro K hK
      refine step_app _ (by rfl) _ _ _ (by rfl) elemU8 w4.heap.size none 0 0 [] (by rfl) (Own.nil _ _ _ _) D s.data.length dc (s.data.map rv.u8v) (by rfl) (by simp) (HC4.out _ (Below.drew (bself w4))).1 (HC4.out _ (Below.drew (bself w4))).2.2.1 (by omega) (by unfold maxLen;omega) (Nat.le_refl _) ?_
      intro A5 c5 w5 hO5 hg5
      have hb5:Below w4.heap.size w4 w5:=(Below.drew (bself w4)).trans (hg5.below (Nat.le_refl _) (fun k hk=>by cases hk))
      have HO5:=Lib.hid hO5
      have HB5:=Lib.hid hb5
      have c05:=(hb5.cell (p:=⟨G,0,none⟩) hG4).trans c0
      have y15:=(hb5.cell (p:=⟨w.heap.size,1,none⟩) l4).trans y1
      clear hO5 hg5 hb5
      have hHeld2:=And.intro c05 y15
      refine hK.out _ _ (fun _=>hHeld2) ?_
      clear hK K hHeld
      have hHeld:=hHeld2
      clear hHeld2
      try simp only [Act.put,zA,zB,zC,zD,zE,zF]
      refine wpAnyT_next (i:=8) (by kernel_rfl) rfl ?_
      intro K hK
      refine step_app _ (by rfl) _ _ _ (by rfl) elemU8 w4.heap.size A5 (0+s.data.length) c5 _ (by rfl) HO5.out X dd.length xc (dd.map rv.u8v) (by rfl) (by simp) (HC4.out _ HB5.out).2.1 (HC4.out _ HB5.out).2.2.2 (by omega) (by unfold maxLen;omega) HB5.out.size ?_
      intro A6 c6 w6 hO6 hg6
      have hb6:Below w4.heap.size w4 w6:=HB5.out.trans (hg6.below HB5.out.size (fun k hk=>(HO5.out.lt k hk).1))
      have HO6:=Lib.hid hO6
      have HB6:=Lib.hid hb6
      have c06:=(hb6.cell (p:=⟨G,0,none⟩) hG4).trans c0
      have y16:=(hb6.cell (p:=⟨w.heap.size,1,none⟩) l4).trans y1
      have f06:=(H4.out.next hb6).at_.blk.frozen 0
      have l06:=(H4.out.next hb6).at_.blk.lt
      clear hO6 hg6 hb6
      have hHeld2:=And.intro c06 y16
      refine hK.out _ _ (fun _=>hHeld2) ?_
      clear hK K hHeld
      have hHeld:=hHeld2
      clear hHeld2
      try simp only [Act.put,zA,zB,zC,zD,zE,zF]
      refine zP 9 (v:=?_) ?_ (fun _=>hHeld) ?_
      rotate_left
      ·intro w9;go_simp;try with_reducible rfl
      try simp only [Act.put,zA,zB,zC,zD,zE,zF]
      refine zP 10 (v:=?_) ?_ (fun _=>hHeld) ?_
      rotate_left
      ·intro w9;go_simp;try with_reducible rfl
      try simp only [Act.put,zA,zB,zC,zD,zE,zF]
      refine wpAnyT_next (i:=11) (by kernel_rfl) rfl ?_
      intro K hK
      go_simp
      refine hK.out _ _ (zN (by kernel_rfl)) ?_
      clear hK K
      refine wpAnyT_done (by kernel_rfl) ?_ _
      have HOS:Hid (OS (w6.setCell ⟨G,0,none⟩ (.slice A6 (0+s.data.length+dd.length) c6)) B G { s with data:=s.data ++ dd } kl td A6 c6 K kc):=Lib.hid (by
       have h1:=H4.out.next HB6.out
       have hB:B≤w4.heap.size:=by have:=H.out.at_.lo;omega
       exact ⟨h1.at_.putData (by rw [List.map_append];exact HO6.out.base_le hB) (by rw [List.length_append];omega),h1.knows,h1.len,h1.todo⟩)
      have HST6:Hid (Stays w3 (w6.setCell ⟨G,0,none⟩ (.slice A6 (0+s.data.length+dd.length) c6)) (fun k=>k=G)):=Lib.hid (((Stays.of_below HB34.out _).comp (Stays.of_below HB6.out _)).comp (Stays.set _ _ _ _))
      have HOS:=Lib.hid (Nat.zero_add s.data.length ▸ HOS.out)
      have HST6:=Lib.hid (Nat.zero_add s.data.length ▸ HST6.out)
      have hz4:=HZ4.out
      go_wp2
      go_meet
      exact ⟨0,0,[],false,false,false,{ s with data:=s.data ++ dd },kl,td,A6,c6,K,kc,none,0,Lib.hid (by rw [HST.out,HE.out];rfl),Lib.hid (OMid.snd HB3.out HS3.out HR3.out HT3.out HLT.out HOS.out HST6.out (fun k hk=>by rcases hk with e | e | e;exact .inl (.inl e);exact .inr (by have:=(HO6.out.lt k e).1;omega);exact .inl (.inr (.inr e))))⟩
  have e1:(dk == 1)=false:=by simpa using k1
  by_cases k5:dk=5
  ·subst k5
   have c1:=H3.out.at_.blk.get 1
   have f1:=H3.out.at_.blk.frozen 1
   simp only [List.getElem?_toArray,List.getElem?_cons_succ,List.getElem?_cons_zero] at c1
   have n1:G≠w.heap.size+1+1:=by omega
   have n2:w.heap.size+1+1≠G:=by omega
   cases hc:s.closed with
   | true=>
    have HST:Hid (sd.step s ⟨5,dd,da,dw,ds⟩=(sd.coded 10,s)):=Lib.hid (by unfold sd.step;rw [if_neg (by simp),if_pos rfl,if_pos hc])
    rw [hc] at c1
    clear hc HHE HPO HHD HIN
    go_wp2
    go_meet
    exact ⟨10,0,[],false,false,false,s,kl,td,D,dc,K,kc,none,0,HST,Lib.hid (HM0.out.touch (Stays.set _ _ _ _) (by simpa using HM0.out.box.set 0 (.int .i64 10)))⟩
   | false=>
    have HST:Hid (sd.step s ⟨5,dd,da,dw,ds⟩=(sd.coded 0,{ s with closed:=true })):=Lib.hid (by unfold sd.step;rw [if_neg (by simp),if_pos rfl,if_neg (by rw [hc];decide)])
    rw [hc] at c1
    clear hc HHE HPO HHD HIN
    go_wp2
    go_meet
    refine ⟨0,0,[],false,false,false,{ s with closed:=true },kl,td,D,dc,K,kc,none,0,HST,Lib.hid ?_⟩
    have h1:=HM0.out
    have st:=Stays.set w3 G 1 (.bool true)
    exact ⟨h1.lt,h1.os.putClosed true,h1.box.stays st (fun e=>by omega),h1.res.stays st (fun e=>by omega),Own.nil _ _ _ _,h1.far,h1.stay.comp st,h1.nm⟩
  have e5:(dk == 5)=false:=by simpa using k5
  by_cases k2:dk=2
  ·subst k2
   have HST:Hid (sd.step s ⟨2,dd,da,dw,ds⟩=(sd.coded (sd.heard s ⟨2,dd,da,dw,ds⟩).1,(sd.heard s ⟨2,dd,da,dw,ds⟩).2)):=Lib.hid (by unfold sd.step;rw [if_neg (by simp),if_neg (by simp),if_pos rfl])
   generalize sd.heard s ⟨2,dd,da,dw,ds⟩=rs at *
   clear zd ze
   go_wp2_with (first
    | (go_at_call 51;((with_reducible refine HHE.out.mono ?_);rintro e w4 ⟨kl1,K1,kc1,rfl,q1,q2,q3⟩;have HM:=Lib.hid (OMid.snd HB3.out HS3.out HR3.out HT3.out HLT.out q1 q2 (fun k hk=>by rcases hk with e | e | e;exact .inl (.inl e);exact .inl (.inr (.inl e));exact (q3 k e).imp (fun e=>.inr (.inr e)) id));have zd:=HM.out.box.get;have ze:=HM.out.box.frozen;clear q1 q2 q3))
    | fail)
   go_meet
   exact ⟨rs.1,0,[],false,false,false,rs.2,kl1,td,D,dc,K1,kc1,none,0,HST,Lib.hid (HM.out.touch (Stays.set _ _ _ _) (by simpa using HM.out.box.set 0 (.int .i64 rs.1)))⟩
  have e2:(dk == 2)=false:=by simpa using k2
  by_cases k4:dk=4
  ·subst k4
   have HST:Hid (sd.step s ⟨4,dd,da,dw,ds⟩=(sd.coded 0,sd.timeout s)):=Lib.hid (by unfold sd.step;rw [if_neg (by simp),if_neg (by simp),if_neg (by simp),if_pos rfl])
   obtain ⟨n,hn⟩:∃ n:Nat,s.next=n:=⟨s.next.toNat,by have:=HI.out.lo;omega⟩
   have hnb:n≤1048576:=by have:=HI.out.lo;have:=HI.out.end_;omega
   obtain ⟨en,hen⟩:∃ en,sd.endOf s=en:=⟨_,rfl⟩
   have henb:0≤en∧en≤1048576:=by have:=HI.out.lo;have:=HI.out.end_;omega
   have hedb:=HI.out.edge
   have c5:=H3.out.at_.blk.get 5
   have f5:=H3.out.at_.blk.frozen 5
   simp only [List.getElem?_toArray,List.getElem?_cons_succ,List.getElem?_cons_zero] at c5
   clear HHE HPO HIN zd ze
   go_upto_region 20 with (fail)
   generalize hw4:World.setCell w3 _ _=w4
   have HO4:Hid (OAt w4 B G s.data s.closed s.edge s.next kl 0 D dc K kc):=Lib.hid (by rw [← hw4];exact H3.out.at_.putTodo 0)
   have HS4:Hid (Stays w3 w4 (fun k=>k=G)):=Lib.hid (by rw [← hw4];exact Stays.set _ _ _ _)
   clear hw4 c5 f5
   have c2:=HO4.out.blk.get 2
   have c3:=HO4.out.blk.get 3
   simp only [List.getElem?_toArray,List.getElem?_cons_succ,List.getElem?_cons_zero] at c2 c3
   rw [hn] at c3
   have hG4:=HO4.out.blk.lt
   have HN:=Lib.hid hn
   have HPL:Hid (∀ wx,Below w4.heap.size w4 wx→Calls Try.prog 53 #[.pointer (some ⟨G,0,none⟩)] wx fun e w'=>e=.returned (.int .i64 en)∧wx=w'):=Lib.hid (fun wx hb=>hen ▸ ref_places B G s.data s.closed s.edge s.next kl 0 D dc K kc wx (HO4.out.next hb) HI.out.size)
   have HEN:=Lib.hid hen
   clear hn hen
   go_upto_block 2 with (fail)
   go_cut [6] (fun s6 wx=>∃ m:Bool,s6=.bool m∧w4=wx∧Hid (m=false↔∀ i,i<n→kl.getD i false=true))
   case first=>
    go_wp2
    go_loop [6,7] (fun s6 s7=>∃ (p:Nat) (m:Bool),p≤n∧s7=.int .i64 (p:Int)∧s6=.bool m∧Hid (m=false↔∀ i,i<p→kl.getD i false=true)) (fun _ s7=>n - (intOf s7).toNat)
    case atStart=>exact ⟨0,false,by omega,rfl,rfl,Lib.hid ⟨fun _ i hi=>by omega,fun _=>rfl⟩⟩
    case round=>
     obtain ⟨p,m,hp,rfl,rfl,HM⟩:=hrel
     by_cases hpn:p<n
     ·have hpn':(p:Int)<(n:Int):=by omega
      obtain ⟨b',hb'⟩:∃ b',kl.getD p false=b':=⟨_,rfl⟩
      have HHP:=Lib.hid (HHD.out w4 0 p b' HO4.out (by omega) hb')
      have HNX:Hid ((m || !b')=false↔∀ i,i<p+1→kl.getD i false=true):=Lib.hid (by
       rw [Bool.or_eq_false_iff,HM.out]
       constructor
       ·rintro ⟨h1,h2⟩ i hi
        rcases Nat.lt_or_ge i p with h3 | h3
        ·exact h1 i h3
        ·obtain rfl:i=p:=by omega
         rw [hb']
         simpa using h2
       ·intro h1
        refine ⟨fun i hi=>h1 i (by omega),?_⟩
        rw [← hb',h1 p (by omega)]
        rfl)
      clear hb'
      cases m with
      | true=>
       go_wp2
       go_round
       case rel=>exact ⟨p+1,true,by omega,by go_num,rfl,HNX⟩
       case measure=>simp [intOf];omega
      | false=>
       go_wp2_with (first
        | (go_at_call 52;((with_reducible refine HHP.out.mono ?_);rintro e _ ⟨rfl,rfl⟩))
        | fail)
       go_round
       case rel=>exact ⟨p+1,!b',by omega,by go_num,rfl,Lib.hid (by have h:=HNX.out;rwa [Bool.false_or] at h)⟩
       case measure=>simp [intOf];omega
     ·obtain rfl:p=n:=by omega
      have hpn':decide (p<p)=false:=by simp
      go_wp2
      go_meet
      exact ⟨m,rfl,rfl,HM⟩
   case rest=>
    obtain ⟨m,rfl,rfl,HM⟩:=hcut
    have hall:sd.first s s.done s.next=s.next↔m=false:=by
     rw [sd.first_all HI.out,HM.out]
     constructor
     ·intro h i hi
      exact (H3.out.knows i).2 ((h (i:Int) (by omega) (by have:=HN.out;omega)).imp (fun x=>x.2) id)
     ·intro h x x0 x1
      obtain ⟨k,rfl⟩:∃ k:Nat,x=k:=⟨x.toNat,by omega⟩
      exact ((H3.out.knows k).1 (h k (by have:=HN.out;omega))).imp (fun y=>⟨by omega,y⟩) id
    have HEDG:Hid (∀ e':Int,(if m=false∧(n:Int)<en∧s.edge≤(n:Int) then (n:Int)+1 else s.edge)=e'→sd.timeout s={ s with again:=s.done,edge:=e' }):=Lib.hid (fun e' he=>by
     unfold sd.timeout
     rw [← he]
     have h1:=HN.out
     have h2:=HEN.out
     congr 1
     rw [h2,← h1]
     by_cases hc:sd.first s s.done s.next=s.next∧s.next<en∧s.edge≤s.next
     ·rw [if_pos hc,if_pos ⟨hall.1 hc.1,hc.2⟩]
     ·rw [if_neg hc,if_neg (fun x=>hc ⟨hall.2 x.1,x.2⟩)])
    have HMET:Hid (∀ (e':Int) wx,(if m=false∧(n:Int)<en∧s.edge≤(n:Int) then (n:Int)+1 else s.edge)=e'→OAt wx B G s.data s.closed e' s.next kl 0 D dc K kc→Stays w4 wx (fun k=>k=G)→∃ c f dt b1 b2 b3 s' kl1 td1 D1 dc1 K1 kc1 E ec,Hid (sd.step s ⟨4,dd,da,dw,ds⟩=(⟨c,f,dt,b1,b2,b3,0⟩,s'))∧Hid (OMid w wx B G D K dt s' kl1 td1 D1 dc1 K1 kc1 E ec #[.int .i64 c,.int .i64 f,.slice E (List.length dt) ec,.bool b1,.bool b2,.bool b3,.int .i64 0])):=Lib.hid (fun e' wx he ho hs=>by
     refine ⟨0,0,[],false,false,false,{ s with again:=s.done,edge:=e' },kl,0,D,dc,K,kc,none,0,Lib.hid (by rw [HST.out,HEDG.out e' he];rfl),Lib.hid (OMid.snd HB3.out HS3.out HR3.out HT3.out HLT.out ⟨ho,H3.out.knows,H3.out.len,?_⟩ (HS4.out.comp hs) (fun k hk=>.inl hk))⟩
     exact ⟨Int.le_refl _,HI.out.lo.1,fun x x1 x2=>.inl ⟨x1,x2⟩⟩)
    clear hall HEDG
    cases m with
    | true=>
     go_upto_region 25 with (fail)
     refine wp_region_tail [] (fun wx=>wx.cell? ⟨G,2,none⟩=some (.int .i64 s.edge)∧wx.cell? ⟨G,3,none⟩=some (.int .i64 (n:Int))) (by kernel_rfl) (⟨c2,c3⟩) ?_
     intro hHeld
     refine zP 0 (v:=?_) ?_ (fun _=>hHeld) ?_
     rotate_left
     ·intro w9;go_simp;try with_reducible rfl
     try simp only [Act.put,zA,zB,zC,zD,zE,zF]
     refine zP 1 (v:=?_) ?_ (fun _=>hHeld) ?_
     rotate_left
     ·intro w9;go_simp;try with_reducible rfl
     try simp only [Act.put,zA,zB,zC,zD,zE,zF]
     refine zP 2 (v:=?_) ?_ (fun _=>hHeld) ?_
     rotate_left
     ·intro w9;go_simp;try with_reducible rfl
     try simp only [Act.put,zA,zB,zC,zD,zE,zF]
     refine wpAnyT_pure (i:=3) (v:=undef) rfl (by kernel_rfl) (by kernel_rfl) (by kernel_rfl) (fun _ _ _ h=>h) (.inr ⟨by kernel_rfl,rfl⟩) (fun _=>hHeld) ?_ (by decide)
     try simp only [Act.put,zA,zB,zC,zD,zE,zF]
     refine wpAnyT_pure (i:=4) (v:=undef) rfl (by kernel_rfl) (by kernel_rfl) (by kernel_rfl) (fun _ _ _ h=>h) (.inr ⟨by kernel_rfl,rfl⟩) (fun _=>hHeld) ?_ (by decide)
     try simp only [Act.put,zA,zB,zC,zD,zE,zF]
     refine wpAnyT_pure (i:=5) (v:=undef) rfl (by kernel_rfl) (by kernel_rfl) (by kernel_rfl) (fun _ _ _ h=>h) (.inr ⟨by kernel_rfl,rfl⟩) (fun _=>hHeld) ?_ (by decide)
     try simp only [Act.put,zA,zB,zC,zD,zE,zF]
     refine wpAnyT_pure (i:=6) (v:=undef) rfl (by kernel_rfl) (by kernel_rfl) (by kernel_rfl) (fun _ _ _ h=>h) (.inr ⟨by kernel_rfl,rfl⟩) (fun _=>hHeld) ?_ (by decide)
     try simp only [Act.put,zA,zB,zC,zD,zE,zF]
     refine wpAnyT_pure (i:=7) (v:=undef) rfl (by kernel_rfl) (by kernel_rfl) (by kernel_rfl) (fun _ _ _ h=>h) (.inr ⟨by kernel_rfl,rfl⟩) (fun _=>hHeld) ?_ (by decide)
     try simp only [Act.put,zA,zB,zC,zD,zE,zF]
     refine wpAnyT_pure (i:=8) (v:=undef) rfl (by kernel_rfl) (by kernel_rfl) (by kernel_rfl) (fun _ _ _ h=>h) (.inr ⟨by kernel_rfl,rfl⟩) (fun _=>hHeld) ?_ (by decide)
     try simp only [Act.put,zA,zB,zC,zD,zE,zF]
     refine wpAnyT_pure (i:=9) (v:=undef) rfl (by kernel_rfl) (by kernel_rfl) (by kernel_rfl) (fun _ _ _ h=>h) (.inr ⟨by kernel_rfl,rfl⟩) (fun _=>hHeld) ?_ (by decide)
     try simp only [Act.put,zA,zB,zC,zD,zE,zF]
     refine zP 10 (v:=?_) ?_ (fun _=>hHeld) ?_
     rotate_left
     ·intro w9;go_simp;try with_reducible rfl
     try simp only [Act.put,zA,zB,zC,zD,zE,zF]
     refine zP 11 (v:=?_) ?_ (fun _=>hHeld) ?_
     rotate_left
     ·intro w9;go_simp;try with_reducible rfl
     try simp only [Act.put,zA,zB,zC,zD,zE,zF]
     refine wpAnyT_pure (i:=12) (v:=undef) rfl (by kernel_rfl) (by kernel_rfl) (by kernel_rfl) (fun _ _ _ h=>h) (.inr ⟨by kernel_rfl,rfl⟩) (fun _=>hHeld) ?_ (by decide)
     try simp only [Act.put,zA,zB,zC,zD,zE,zF]
     refine wpAnyT_pure (i:=13) (v:=undef) rfl (by kernel_rfl) (by kernel_rfl) (by kernel_rfl) (fun _ _ _ h=>h) (.inr ⟨by kernel_rfl,rfl⟩) (fun _=>hHeld) ?_ (by decide)
     try simp only [Act.put,zA,zB,zC,zD,zE,zF]
     refine wpAnyT_pure (i:=14) (v:=undef) rfl (by kernel_rfl) (by kernel_rfl) (by kernel_rfl) (fun _ _ _ h=>h) (.inr ⟨by kernel_rfl,rfl⟩) (fun _=>hHeld) ?_ (by decide)
     try simp only [Act.put,zA,zB,zC,zD,zE,zF]
     refine wpAnyT_pure (i:=15) (v:=undef) rfl (by kernel_rfl) (by kernel_rfl) (by kernel_rfl) (fun _ _ _ h=>h) (.inr ⟨by kernel_rfl,rfl⟩) (fun _=>hHeld) ?_ (by decide)
     try simp only [Act.put,zA,zB,zC,zD,zE,zF]
     refine wpAnyT_pure (i:=16) (v:=undef) rfl (by kernel_rfl) (by kernel_rfl) (by kernel_rfl) (fun _ _ _ h=>h) (.inr ⟨by kernel_rfl,rfl⟩) (fun _=>hHeld) ?_ (by decide)
     try simp only [Act.put,zA,zB,zC,zD,zE,zF]
     refine wpAnyT_pure (i:=17) (v:=undef) rfl (by kernel_rfl) (by kernel_rfl) (by kernel_rfl) (fun _ _ _ h=>h) (.inr ⟨by kernel_rfl,rfl⟩) (fun _=>hHeld) ?_ (by decide)
     try simp only [Act.put,zA,zB,zC,zD,zE,zF]
     refine wpAnyT_pure (i:=18) (v:=undef) rfl (by kernel_rfl) (by kernel_rfl) (by kernel_rfl) (fun _ _ _ h=>h) (.inr ⟨by kernel_rfl,rfl⟩) (fun _=>hHeld) ?_ (by decide)
     try simp only [Act.put,zA,zB,zC,zD,zE,zF]
     refine wpAnyT_pure (i:=19) (v:=undef) rfl (by kernel_rfl) (by kernel_rfl) (by kernel_rfl) (fun _ _ _ h=>h) (.inr ⟨by kernel_rfl,rfl⟩) (fun _=>hHeld) ?_ (by decide)
     try simp only [Act.put,zA,zB,zC,zD,zE,zF]
     refine wpAnyT_pure (i:=20) (v:=undef) rfl (by kernel_rfl) (by kernel_rfl) (by kernel_rfl) (fun _ _ _ h=>h) (.inr ⟨by kernel_rfl,rfl⟩) (fun _=>hHeld) ?_ (by decide)
     try simp only [Act.put,zA,zB,zC,zD,zE,zF]
     refine zP 21 (v:=?_) ?_ (fun _=>hHeld) ?_
     rotate_left
     ·intro w9;go_simp;try with_reducible rfl
     try simp only [Act.put,zA,zB,zC,zD,zE,zF]
     refine wpAnyT_done (by kernel_rfl) ?_ _
     go_wp2
     go_meet
     exact HMET.out s.edge _ (by simp) (HO4.out.next (Below.drew (bself _))) (Stays.of_below (Below.drew (bself _)) _)
    | false=>
     by_cases k6:(n:Int)<en
     ·have q6:decide ((n:Int)<en)=true:=by simpa using k6
      by_cases k7:s.edge≤(n:Int)
      ·have q7:decide (s.edge≤(n:Int))=true:=by simpa using k7
       have HIF:Hid ((if (false:Bool)=false∧(n:Int)<en∧s.edge≤(n:Int) then (n:Int)+1 else s.edge)=(n:Int)+1):=Lib.hid (by rw [if_pos ⟨rfl,k6,k7⟩])
       go_upto_region 25 with (fail)
       refine wp_region_tail [] (fun wx=>wx.cell? ⟨G,2,none⟩=some (.int .i64 s.edge)∧wx.cell? ⟨G,3,none⟩=some (.int .i64 (n:Int))) (by kernel_rfl) (⟨c2,c3⟩) ?_
       intro hHeld
       refine zP 0 (v:=?_) ?_ (fun _=>hHeld) ?_
       rotate_left
       ·intro w9;go_simp;try with_reducible rfl
       try simp only [Act.put,zA,zB,zC,zD,zE,zF]
       refine zP 1 (v:=?_) ?_ (fun _=>hHeld) ?_
       rotate_left
       ·intro w9;go_simp;try with_reducible rfl
       try simp only [Act.put,zA,zB,zC,zD,zE,zF]
       refine zP 2 (v:=?_) ?_ (fun _=>hHeld) ?_
       rotate_left
       ·intro w9;go_simp;try with_reducible rfl
       try simp only [Act.put,zA,zB,zC,zD,zE,zF]
       refine zP 3 (v:=?_) ?_ (fun _=>hHeld) ?_
       rotate_left
       ·intro w9;go_simp;try with_reducible rfl
       try simp only [Act.put,zA,zB,zC,zD,zE,zF]
       refine zP 4 (v:=?_) ?_ (fun _=>hHeld) ?_
       rotate_left
       ·intro w9;go_simp;try with_reducible rfl
       try simp only [Act.put,zA,zB,zC,zD,zE,zF]
       refine zP 5 (v:=?_) ?_ (fun _=>hHeld) ?_
       rotate_left
       ·intro w9;go_simp;try with_reducible rfl
       try simp only [Act.put,zA,zB,zC,zD,zE,zF]
       refine zT 6 [] (v:=?_) ?_ hHeld ?_
       rotate_left
       ·intro w9 hS9;(try dsimp only at hS9);obtain ⟨q1,q2⟩:=hS9;go_simp;try with_reducible rfl
       try simp only [Act.put,zA,zB,zC,zD,zE,zF]
       refine zP 7 (v:=?_) ?_ (fun _=>hHeld) ?_
       rotate_left
       ·intro w9;go_simp;try with_reducible rfl
       try simp only [Act.put,zA,zB,zC,zD,zE,zF]
       refine wpAnyT_next (i:=8) (by kernel_rfl) rfl ?_
       intro K hK
       go_simp
       go_at_call 53
       refine (HPL.out _ (by exact Below.drew (bself w4))).mono ?_
       rintro e _ ⟨rfl,rfl⟩
       go_simp
       have hHeld2:=hHeld
       refine hK.out _ _ (fun _=>hHeld2) ?_
       clear hK K hHeld
       have hHeld:=hHeld2
       clear hHeld2
       try simp only [Act.put,zA,zB,zC,zD,zE,zF]
       refine zP 9 (v:=?_) ?_ (fun _=>hHeld) ?_
       rotate_left
       ·intro w9;go_simp;try with_reducible rfl
       try simp only [Act.put,zA,zB,zC,zD,zE,zF]
       refine zP 10 (v:=?_) ?_ (fun _=>hHeld) ?_
       rotate_left
       ·intro w9;go_simp;try with_reducible rfl
       try simp only [Act.put,zA,zB,zC,zD,zE,zF]
       refine zP 11 (v:=?_) ?_ (fun _=>hHeld) ?_
       rotate_left
       ·intro w9;go_simp;try with_reducible rfl
       try simp only [Act.put,zA,zB,zC,zD,zE,zF]
       refine zP 12 (v:=?_) ?_ (fun _=>hHeld) ?_
       rotate_left
       ·intro w9;go_simp;try with_reducible rfl
       try simp only [Act.put,zA,zB,zC,zD,zE,zF]
       refine zP 13 (v:=?_) ?_ (fun _=>hHeld) ?_
       rotate_left
       ·intro w9;go_simp;try with_reducible rfl
       try simp only [Act.put,zA,zB,zC,zD,zE,zF]
       refine zP 14 (v:=?_) ?_ (fun _=>hHeld) ?_
       rotate_left
       ·intro w9;go_simp;try with_reducible rfl
       try simp only [Act.put,zA,zB,zC,zD,zE,zF]
       refine zT 15 [] (v:=?_) ?_ hHeld ?_
       rotate_left
       ·intro w9 hS9;(try dsimp only at hS9);obtain ⟨q1,q2⟩:=hS9;go_simp;try with_reducible rfl
       try simp only [Act.put,zA,zB,zC,zD,zE,zF]
       refine zP 16 (v:=?_) ?_ (fun _=>hHeld) ?_
       rotate_left
       ·intro w9;go_simp;try with_reducible rfl
       try simp only [Act.put,zA,zB,zC,zD,zE,zF]
       refine zP 17 (v:=?_) ?_ (fun _=>hHeld) ?_
       rotate_left
       ·intro w9;go_simp;try with_reducible rfl
       try simp only [Act.put,zA,zB,zC,zD,zE,zF]
       refine zP 18 (v:=?_) ?_ (fun _=>hHeld) ?_
       rotate_left
       ·intro w9;go_simp;try with_reducible rfl
       try simp only [Act.put,zA,zB,zC,zD,zE,zF]
       refine zT 19 [] (v:=?_) ?_ hHeld ?_
       rotate_left
       ·intro w9 hS9;(try dsimp only at hS9);obtain ⟨q1,q2⟩:=hS9;go_simp;try with_reducible rfl
       try simp only [Act.put,zA,zB,zC,zD,zE,zF]
       refine zP 20 (v:=?_) ?_ (fun _=>hHeld) ?_
       rotate_left
       ·intro w9;go_simp;try with_reducible rfl
       try simp only [Act.put,zA,zB,zC,zD,zE,zF]
       refine zP 21 (v:=?_) ?_ (fun _=>hHeld) ?_
       rotate_left
       ·intro w9;go_simp;try with_reducible rfl
       try simp only [Act.put,zA,zB,zC,zD,zE,zF]
       refine wpAnyT_done (by kernel_rfl) ?_ _
       have f2:=(HO4.out.next (Below.drew (bself _))).blk.frozen 2
       go_wp2
       go_meet
       exact HMET.out _ _ HIF.out ((HO4.out.next (Below.drew (bself _))).putEdge _) ((Stays.of_below (Below.drew (bself _)) _).comp (Stays.set _ _ _ _))
      ·have q7:decide (s.edge≤(n:Int))=false:=by simpa using k7
       have HIF:Hid ((if (false:Bool)=false∧(n:Int)<en∧s.edge≤(n:Int) then (n:Int)+1 else s.edge)=s.edge):=Lib.hid (by rw [if_neg (fun x=>k7 x.2.2)])
       go_upto_region 25 with (fail)
       refine wp_region_tail [] (fun wx=>wx.cell? ⟨G,2,none⟩=some (.int .i64 s.edge)∧wx.cell? ⟨G,3,none⟩=some (.int .i64 (n:Int))) (by kernel_rfl) (⟨c2,c3⟩) ?_
       intro hHeld
       refine zP 0 (v:=?_) ?_ (fun _=>hHeld) ?_
       rotate_left
       ·intro w9;go_simp;try with_reducible rfl
       try simp only [Act.put,zA,zB,zC,zD,zE,zF]
       refine zP 1 (v:=?_) ?_ (fun _=>hHeld) ?_
       rotate_left
       ·intro w9;go_simp;try with_reducible rfl
       try simp only [Act.put,zA,zB,zC,zD,zE,zF]
       refine zP 2 (v:=?_) ?_ (fun _=>hHeld) ?_
       rotate_left
       ·intro w9;go_simp;try with_reducible rfl
       try simp only [Act.put,zA,zB,zC,zD,zE,zF]
       refine zP 3 (v:=?_) ?_ (fun _=>hHeld) ?_
       rotate_left
       ·intro w9;go_simp;try with_reducible rfl
       try simp only [Act.put,zA,zB,zC,zD,zE,zF]
       refine zP 4 (v:=?_) ?_ (fun _=>hHeld) ?_
       rotate_left
       ·intro w9;go_simp;try with_reducible rfl
       try simp only [Act.put,zA,zB,zC,zD,zE,zF]
       refine zP 5 (v:=?_) ?_ (fun _=>hHeld) ?_
       rotate_left
       ·intro w9;go_simp;try with_reducible rfl
       try simp only [Act.put,zA,zB,zC,zD,zE,zF]
       refine zT 6 [] (v:=?_) ?_ hHeld ?_
       rotate_left
       ·intro w9 hS9;(try dsimp only at hS9);obtain ⟨q1,q2⟩:=hS9;go_simp;try with_reducible rfl
       try simp only [Act.put,zA,zB,zC,zD,zE,zF]
       refine zP 7 (v:=?_) ?_ (fun _=>hHeld) ?_
       rotate_left
       ·intro w9;go_simp;try with_reducible rfl
       try simp only [Act.put,zA,zB,zC,zD,zE,zF]
       refine wpAnyT_next (i:=8) (by kernel_rfl) rfl ?_
       intro K hK
       go_simp
       go_at_call 53
       refine (HPL.out _ (by exact Below.drew (bself w4))).mono ?_
       rintro e _ ⟨rfl,rfl⟩
       go_simp
       have hHeld2:=hHeld
       refine hK.out _ _ (fun _=>hHeld2) ?_
       clear hK K hHeld
       have hHeld:=hHeld2
       clear hHeld2
       try simp only [Act.put,zA,zB,zC,zD,zE,zF]
       refine zP 9 (v:=?_) ?_ (fun _=>hHeld) ?_
       rotate_left
       ·intro w9;go_simp;try with_reducible rfl
       try simp only [Act.put,zA,zB,zC,zD,zE,zF]
       refine zP 10 (v:=?_) ?_ (fun _=>hHeld) ?_
       rotate_left
       ·intro w9;go_simp;try with_reducible rfl
       try simp only [Act.put,zA,zB,zC,zD,zE,zF]
       refine zP 11 (v:=?_) ?_ (fun _=>hHeld) ?_
       rotate_left
       ·intro w9;go_simp;try with_reducible rfl
       try simp only [Act.put,zA,zB,zC,zD,zE,zF]
       refine zP 12 (v:=?_) ?_ (fun _=>hHeld) ?_
       rotate_left
       ·intro w9;go_simp;try with_reducible rfl
       try simp only [Act.put,zA,zB,zC,zD,zE,zF]
       refine zP 13 (v:=?_) ?_ (fun _=>hHeld) ?_
       rotate_left
       ·intro w9;go_simp;try with_reducible rfl
       try simp only [Act.put,zA,zB,zC,zD,zE,zF]
       refine zP 14 (v:=?_) ?_ (fun _=>hHeld) ?_
       rotate_left
       ·intro w9;go_simp;try with_reducible rfl
       try simp only [Act.put,zA,zB,zC,zD,zE,zF]
       refine zT 15 [] (v:=?_) ?_ hHeld ?_
       rotate_left
       ·intro w9 hS9;(try dsimp only at hS9);obtain ⟨q1,q2⟩:=hS9;go_simp;try with_reducible rfl
       try simp only [Act.put,zA,zB,zC,zD,zE,zF]
       refine zP 16 (v:=?_) ?_ (fun _=>hHeld) ?_
       rotate_left
       ·intro w9;go_simp;try with_reducible rfl
       try simp only [Act.put,zA,zB,zC,zD,zE,zF]
       refine zP 17 (v:=?_) ?_ (fun _=>hHeld) ?_
       rotate_left
       ·intro w9;go_simp;try with_reducible rfl
       try simp only [Act.put,zA,zB,zC,zD,zE,zF]
       refine zP 18 (v:=?_) ?_ (fun _=>hHeld) ?_
       rotate_left
       ·intro w9;go_simp;try with_reducible rfl
       try simp only [Act.put,zA,zB,zC,zD,zE,zF]
       refine zT 19 [] (v:=?_) ?_ hHeld ?_
       rotate_left
       ·intro w9 hS9;(try dsimp only at hS9);obtain ⟨q1,q2⟩:=hS9;go_simp;try with_reducible rfl
       try simp only [Act.put,zA,zB,zC,zD,zE,zF]
       refine zP 20 (v:=?_) ?_ (fun _=>hHeld) ?_
       rotate_left
       ·intro w9;go_simp;try with_reducible rfl
       try simp only [Act.put,zA,zB,zC,zD,zE,zF]
       refine zP 21 (v:=?_) ?_ (fun _=>hHeld) ?_
       rotate_left
       ·intro w9;go_simp;try with_reducible rfl
       try simp only [Act.put,zA,zB,zC,zD,zE,zF]
       refine wpAnyT_done (by kernel_rfl) ?_ _
       go_wp2
       go_meet
       exact HMET.out _ _ HIF.out (HO4.out.next (Below.drew (bself _))) (Stays.of_below (Below.drew (bself _)) _)
     ·have q6:decide ((n:Int)<en)=false:=by simpa using k6
      have HIF:Hid ((if (false:Bool)=false∧(n:Int)<en∧s.edge≤(n:Int) then (n:Int)+1 else s.edge)=s.edge):=Lib.hid (by rw [if_neg (fun x=>k6 x.2.1)])
      go_upto_region 25 with (fail)
      refine wp_region_tail [] (fun wx=>wx.cell? ⟨G,2,none⟩=some (.int .i64 s.edge)∧wx.cell? ⟨G,3,none⟩=some (.int .i64 (n:Int))) (by kernel_rfl) (⟨c2,c3⟩) ?_
      intro hHeld
      refine zP 0 (v:=?_) ?_ (fun _=>hHeld) ?_
      rotate_left
      ·intro w9;go_simp;try with_reducible rfl
      try simp only [Act.put,zA,zB,zC,zD,zE,zF]
      refine zP 1 (v:=?_) ?_ (fun _=>hHeld) ?_
      rotate_left
      ·intro w9;go_simp;try with_reducible rfl
      try simp only [Act.put,zA,zB,zC,zD,zE,zF]
      refine zP 2 (v:=?_) ?_ (fun _=>hHeld) ?_
      rotate_left
      ·intro w9;go_simp;try with_reducible rfl
      try simp only [Act.put,zA,zB,zC,zD,zE,zF]
      refine zP 3 (v:=?_) ?_ (fun _=>hHeld) ?_
      rotate_left
      ·intro w9;go_simp;try with_reducible rfl
      try simp only [Act.put,zA,zB,zC,zD,zE,zF]
      refine zP 4 (v:=?_) ?_ (fun _=>hHeld) ?_
      rotate_left
      ·intro w9;go_simp;try with_reducible rfl
      try simp only [Act.put,zA,zB,zC,zD,zE,zF]
      refine zP 5 (v:=?_) ?_ (fun _=>hHeld) ?_
      rotate_left
      ·intro w9;go_simp;try with_reducible rfl
      try simp only [Act.put,zA,zB,zC,zD,zE,zF]
      refine zT 6 [] (v:=?_) ?_ hHeld ?_
      rotate_left
      ·intro w9 hS9;(try dsimp only at hS9);obtain ⟨q1,q2⟩:=hS9;go_simp;try with_reducible rfl
      try simp only [Act.put,zA,zB,zC,zD,zE,zF]
      refine zP 7 (v:=?_) ?_ (fun _=>hHeld) ?_
      rotate_left
      ·intro w9;go_simp;try with_reducible rfl
      try simp only [Act.put,zA,zB,zC,zD,zE,zF]
      refine wpAnyT_next (i:=8) (by kernel_rfl) rfl ?_
      intro K hK
      go_simp
      go_at_call 53
      refine (HPL.out _ (by exact Below.drew (bself w4))).mono ?_
      rintro e _ ⟨rfl,rfl⟩
      go_simp
      have hHeld2:=hHeld
      refine hK.out _ _ (fun _=>hHeld2) ?_
      clear hK K hHeld
      have hHeld:=hHeld2
      clear hHeld2
      try simp only [Act.put,zA,zB,zC,zD,zE,zF]
      refine zP 9 (v:=?_) ?_ (fun _=>hHeld) ?_
      rotate_left
      ·intro w9;go_simp;try with_reducible rfl
      try simp only [Act.put,zA,zB,zC,zD,zE,zF]
      refine zP 10 (v:=?_) ?_ (fun _=>hHeld) ?_
      rotate_left
      ·intro w9;go_simp;try with_reducible rfl
      try simp only [Act.put,zA,zB,zC,zD,zE,zF]
      refine zP 11 (v:=?_) ?_ (fun _=>hHeld) ?_
      rotate_left
      ·intro w9;go_simp;try with_reducible rfl
      try simp only [Act.put,zA,zB,zC,zD,zE,zF]
      refine wpAnyT_pure (i:=12) (v:=undef) rfl (by kernel_rfl) (by kernel_rfl) (by kernel_rfl) (fun _ _ _ h=>h) (.inr ⟨by kernel_rfl,rfl⟩) (fun _=>hHeld) ?_ (by decide)
      try simp only [Act.put,zA,zB,zC,zD,zE,zF]
      refine wpAnyT_pure (i:=13) (v:=undef) rfl (by kernel_rfl) (by kernel_rfl) (by kernel_rfl) (fun _ _ _ h=>h) (.inr ⟨by kernel_rfl,rfl⟩) (fun _=>hHeld) ?_ (by decide)
      try simp only [Act.put,zA,zB,zC,zD,zE,zF]
      refine wpAnyT_pure (i:=14) (v:=undef) rfl (by kernel_rfl) (by kernel_rfl) (by kernel_rfl) (fun _ _ _ h=>h) (.inr ⟨by kernel_rfl,rfl⟩) (fun _=>hHeld) ?_ (by decide)
      try simp only [Act.put,zA,zB,zC,zD,zE,zF]
      refine wpAnyT_pure (i:=15) (v:=undef) rfl (by kernel_rfl) (by kernel_rfl) (by kernel_rfl) (fun _ _ _ h=>h) (.inr ⟨by kernel_rfl,rfl⟩) (fun _=>hHeld) ?_ (by decide)
      try simp only [Act.put,zA,zB,zC,zD,zE,zF]
      refine wpAnyT_pure (i:=16) (v:=undef) rfl (by kernel_rfl) (by kernel_rfl) (by kernel_rfl) (fun _ _ _ h=>h) (.inr ⟨by kernel_rfl,rfl⟩) (fun _=>hHeld) ?_ (by decide)
      try simp only [Act.put,zA,zB,zC,zD,zE,zF]
      refine wpAnyT_pure (i:=17) (v:=undef) rfl (by kernel_rfl) (by kernel_rfl) (by kernel_rfl) (fun _ _ _ h=>h) (.inr ⟨by kernel_rfl,rfl⟩) (fun _=>hHeld) ?_ (by decide)
      try simp only [Act.put,zA,zB,zC,zD,zE,zF]
      refine wpAnyT_pure (i:=18) (v:=undef) rfl (by kernel_rfl) (by kernel_rfl) (by kernel_rfl) (fun _ _ _ h=>h) (.inr ⟨by kernel_rfl,rfl⟩) (fun _=>hHeld) ?_ (by decide)
      try simp only [Act.put,zA,zB,zC,zD,zE,zF]
      refine wpAnyT_pure (i:=19) (v:=undef) rfl (by kernel_rfl) (by kernel_rfl) (by kernel_rfl) (fun _ _ _ h=>h) (.inr ⟨by kernel_rfl,rfl⟩) (fun _=>hHeld) ?_ (by decide)
      try simp only [Act.put,zA,zB,zC,zD,zE,zF]
      refine wpAnyT_pure (i:=20) (v:=undef) rfl (by kernel_rfl) (by kernel_rfl) (by kernel_rfl) (fun _ _ _ h=>h) (.inr ⟨by kernel_rfl,rfl⟩) (fun _=>hHeld) ?_ (by decide)
      try simp only [Act.put,zA,zB,zC,zD,zE,zF]
      refine zP 21 (v:=?_) ?_ (fun _=>hHeld) ?_
      rotate_left
      ·intro w9;go_simp;try with_reducible rfl
      try simp only [Act.put,zA,zB,zC,zD,zE,zF]
      refine wpAnyT_done (by kernel_rfl) ?_ _
      go_wp2
      go_meet
      exact HMET.out _ _ HIF.out (HO4.out.next (Below.drew (bself _))) (Stays.of_below (Below.drew (bself _)) _)
  have e4:(dk == 4)=false:=by simpa using k4
  by_cases k3:dk=3
  ·subst k3
   have HST:Hid (sd.step s ⟨3,dd,da,dw,ds⟩=sd.poll s):=Lib.hid (by unfold sd.step;rw [if_neg (by simp),if_neg (by simp),if_neg (by simp),if_neg (by simp),if_pos rfl])
   obtain ⟨f1,f2,_⟩:=sd.poll_form s
   obtain ⟨pp,hpp⟩:∃ pp,pp=(sd.poll s).1:=⟨_,rfl⟩
   obtain ⟨ps,hps⟩:∃ ps,ps=(sd.poll s).2:=⟨_,rfl⟩
   have HPP:Hid (sd.step s ⟨3,dd,da,dw,ds⟩=(pp,ps)):=Lib.hid (by rw [HST.out,hpp,hps])
   have HPO2:Hid (Calls Try.prog 54 #[.pointer (some ⟨G,0,none⟩)] w3 (PolRes w3 B G (pp,ps) kl D dc K kc)):=Lib.hid (by rw [hpp,hps];exact HPO.out)
   rw [← hpp] at f1 f2
   obtain ⟨pc,pf,pd,pn,pa,pi,pl⟩:=pp
   try simp only at f1 f2
   subst f1 f2
   clear hpp hps HST HPO HHE HHD zd ze
   go_wp2_with (first
    | (go_at_call 54;((with_reducible refine HPO2.out.mono ?_);rintro e w4 ⟨E,ec,td1,rfl,q0,q1,q2⟩;have Q0:=Lib.hid q0;have Q1:=Lib.hid q1;have Q2:=Lib.hid q2;have z2:=HT3.out.stays q2 (fun e=>by omega);have zd:=z2.get;have ze:=z2.frozen;clear q0 q1 q2))
    | fail)
   go_meet
   have hlt1:=Q0.out.lt
   have hz:=HS3.out
   have st:=Stays.seven w4 (w.heap.size+1+1) (.int .i64 0) (.int .i64 pf) (.slice E pd.length ec) (.bool pn) (.bool pa) (.bool pi) (.int .i64 0)
   refine ⟨0,pf,pd,pn,pa,pi,ps,kl,td1,D,dc,K,kc,E,ec,HPP,Lib.hid ⟨HLT.out,Q1.out.stays st (fun k hk e=>by have:=HLT.out k hk;omega),z2.seven _ _ _ _ _ _ _,(HR3.out.stays Q2.out (fun e=>by omega)).stays st (fun e=>by omega),?_,fun k hk e=>by have:=HLT.out k e;have:=(hlt1 k hk).1;omega,?_,fun k hk=>.inl hk⟩⟩
   ·have h:=Q0.out.stays st (fun k hk e=>by have:=(hlt1 k hk).1;omega)
    rw [hz] at h
    exact h
   ·exact (((Stays.of_below HB3.out _).comp Q2.out)).trans st (fun k hk e=>by omega)
  have e3:(dk == 3)=false:=by simpa using k3
  have HST:Hid (sd.step s ⟨dk,dd,da,dw,ds⟩=(sd.coded 3,s)):=Lib.hid (by unfold sd.step;rw [if_neg k1,if_neg k5,if_neg k2,if_neg k4,if_neg k3])
  clear HHE HPO HHD
  go_wp2
  go_meet
  exact ⟨3,0,[],false,false,false,s,kl,td,D,dc,K,kc,none,0,HST,Lib.hid (HM0.out.touch (Stays.set _ _ _ _) (by simpa using HM0.out.box.set 0 (.int .i64 3)))⟩
 case rest=>
  obtain ⟨c,f,dt,b1,b2,b3,s',kl1,td1,D1,dc1,K1,kc1,E,ec,HST,HM⟩:=hcut
  rename World=>w5
  have hI2:=HIN.out
  rw [HST.out] at hI2
  simp only at hI2
  obtain ⟨n,hn⟩:∃ n:Nat,s'.next=n:=⟨s'.next.toNat,by have:=hI2.lo;omega⟩
  have hnb:n≤1048576:=by have:=hI2.lo;have:=hI2.end_;omega
  obtain ⟨en,hen⟩:∃ en,sd.endOf s'=en:=⟨_,rfl⟩
  have henb:(n:Int)≤en∧en≤1048576:=by have:=hI2.lo;have:=hI2.end_;omega
  have HLF:Hid (en - sd.cnt (sd.PB kl1) 0 n=sd.leftOf s'):=Lib.hid (by rw [← hen];exact HM.out.os.left hI2 hn)
  have HPL:Hid (Calls Try.prog 53 #[.pointer (some ⟨G,0,none⟩)] w5 fun e w'=>e=.returned (.int .i64 en)∧w5=w'):=Lib.hid (hen ▸ ref_places B G s'.data s'.closed s'.edge s'.next kl1 td1 D1 dc1 K1 kc1 w5 HM.out.os.at_ hI2.size)
  have HN:=Lib.hid hn
  have zd:=HM.out.box.get
  have ze:=HM.out.box.frozen
  have l5:=HM.out.box.lt
  clear HIN hI2 HHE HPO HHD y0 y1 y2 y3 y4 hen hn HM0
  go_upto_region 30 with (first
   | (go_at_call 53;((with_reducible refine HPL.out.mono ?_);rintro e _ ⟨rfl,rfl⟩))
   | fail)
  generalize hw6:World.setCell w5 _ _=w6
  have HM6:Hid (OMid w w6 B G D K dt s' kl1 td1 D1 dc1 K1 kc1 E ec #[.int .i64 c,.int .i64 f,.slice E (List.length dt) ec,.bool b1,.bool b2,.bool b3,.int .i64 (en - sd.cnt (sd.PB kl1) 0 0)]):=Lib.hid (by
   rw [← hw6,show en - sd.cnt (sd.PB kl1) 0 0=en from Int.sub_zero en]
   exact HM.out.touch (Stays.set _ _ _ _) (by simpa using HM.out.box.set 6 (.int .i64 en)))
  clear hw6 zd ze l5 HPL
  go_upto_block 4 with (fail)
  go_cut [] (fun wx=>Hid (OMid w wx B G D K dt s' kl1 td1 D1 dc1 K1 kc1 E ec #[.int .i64 c,.int .i64 f,.slice E (List.length dt) ec,.bool b1,.bool b2,.bool b3,.int .i64 (sd.leftOf s')]))
  case first=>
   go_wp2
   go_loopw [8] (fun i wx=>∃ p:Nat,p≤n∧i=.int .i64 (p:Int)∧Hid (OMid w wx B G D K dt s' kl1 td1 D1 dc1 K1 kc1 E ec #[.int .i64 c,.int .i64 f,.slice E (List.length dt) ec,.bool b1,.bool b2,.bool b3,.int .i64 (en - sd.cnt (sd.PB kl1) 0 p)])) (fun i _=>n - (intOf i).toNat)
   case atStart=>exact ⟨0,by omega,rfl,HM6⟩
   case round=>
    obtain ⟨p,hp,rfl,HK⟩:=hrel
    rename World=>wx
    have c3:=HK.out.os.at_.blk.get 3
    simp only [List.getElem?_toArray,List.getElem?_cons_succ,List.getElem?_cons_zero] at c3
    rw [HN.out] at c3
    have hGx:=HK.out.os.at_.blk.lt
    have zd:=HK.out.box.get
    have ze:=HK.out.box.frozen
    have lx:=HK.out.box.lt
    by_cases hpn:p<n
    ·have hpn':(p:Int)<(n:Int):=by omega
     have hcb:=sd.cnt_bd (sd.PB kl1) 0 p
     have hcs:=sd.cnt_step kl1 p
     obtain ⟨v,hv⟩:∃ v,en - sd.cnt (sd.PB kl1) 0 p=v:=⟨_,rfl⟩
     have hvb:0≤v∧v≤1048576:=by omega
     have HHP:Hid (∀ b',kl1.getD p false=b'→Calls Try.prog 52 #[.pointer (some ⟨G,0,none⟩),.int .i64 (p:Int)] wx fun e w'=>e=.returned (.bool b')∧wx=w'):=Lib.hid (fun b' hb'=>hb' ▸ ref_heard B G s'.data s'.closed s'.edge s'.next kl1 td1 D1 dc1 K1 kc1 p wx HK.out.os.at_ (by omega))
     rw [hv] at HK
     simp only [hv] at zd
     cases hb:kl1.getD p false with
     | true=>
      have HHP:=Lib.hid (HHP.out true hb)
      have HNX:Hid (v - 1=en - sd.cnt (sd.PB kl1) 0 (p+1)):=Lib.hid (by rw [hcs,hb,if_pos rfl];omega)
      clear hb hcs hcb hv
      go_wp2_with (first
       | (go_at_call 52;((with_reducible refine HHP.out.mono ?_);rintro e _ ⟨rfl,rfl⟩))
       | fail)
      go_roundw
      case rel=>exact ⟨p+1,by omega,by go_num,Lib.hid (by rw [← HNX.out];exact HK.out.touch (Stays.set _ _ _ _) (by simpa using HK.out.box.set 6 (.int .i64 (v - 1))))⟩
      case measure=>simp [intOf];omega
     | false=>
      have HHP:=Lib.hid (HHP.out false hb)
      have HNX:Hid (v=en - sd.cnt (sd.PB kl1) 0 (p+1)):=Lib.hid (by rw [hcs,hb,if_neg (by simp)];omega)
      clear hb hcs hcb hv
      go_wp2_with (first
       | (go_at_call 52;((with_reducible refine HHP.out.mono ?_);rintro e _ ⟨rfl,rfl⟩))
       | fail)
      go_roundw
      case rel=>exact ⟨p+1,by omega,by go_num,Lib.hid (by rw [← HNX.out];exact HK.out)⟩
      case measure=>simp [intOf];omega
    ·obtain rfl:p=n:=by omega
     have hpn':decide (p<p)=false:=by simp
     rw [HLF.out] at HK
     go_wp2
     go_meet
     exact HK
  case rest=>
   rename World=>w7
   have HF7:=hcut
   have hb7:=HF7.out.box.get
   have hf7:=HF7.out.box.frozen
   have hr7:=HF7.out.res.get
   have hg7:=HF7.out.res.frozen
   have l7:=HF7.out.box.lt
   have m7:=HF7.out.res.lt
   have HFIN:Hid (∀ wx,Stays w7 wx (fun k=>k=w.heap.size+1)→DeedRes w B G (sd.doIt s ⟨dk,dd,da,dw,ds⟩) D K (.returned (.agg #[.int .i64 c,.int .i64 f,.slice E dt.length ec,.bool b1,.bool b2,.bool b3,.int .i64 (sd.leftOf s')])) wx):=Lib.hid (fun wx hs=>by
    unfold sd.doIt
    rw [HST.out]
    simp only
    have hM:=HF7.out
    have hlt:=hM.own.lt
    have hd:=hM.own.stays hs (fun k hk e=>by have:=(hlt k hk).1;omega)
    refine ⟨[.int .i64 c,.int .i64 f,.slice E dt.length ec,.bool b1,.bool b2,.bool b3,.int .i64 (sd.leftOf s')],kl1,td1,D1,dc1,K1,kc1,rfl,Sent.rep_iff.2 ⟨E,ec,rfl,?_⟩,hM.os.stays hs (fun k hk e=>(hM.nohf hk).2 e),hM.stay.trans hs (fun k hk e=>by omega),fun k hk=>(hM.nm k hk).imp id (fun e=>by omega)⟩
    exact ((Own.u8 hd).2.tight flat_u8).keep fun k hk=>⟨⟨by have:=(hlt k hk).1;omega,(hd.lt k hk).2,hM.far k hk⟩,rfl⟩)
   clear HM HM6 HLF hcut
   go_wp2
   refine bodyPost_ret (v:=.agg #[.int .i64 c,.int .i64 f,.slice E dt.length ec,.bool b1,.bool b2,.bool b3,.int .i64 (sd.leftOf s')]) (by simp [results,Try.results27,go_sem, *]) rfl (HFIN.out _ ?_)
   exact Stays.seven _ _ _ _ _ _ _ _ _
end
end Go.Proofs.Ytdldfllllgogoaa
namespace Go.Proofs.Ytdldfllllgogoaa
open Go.RowKit Go.Maps Go.WideShapes Go.ChangeMaps Go.MapKept
/-- an element reads as itself -/
def selfElem (v:Value):Option (DataW Value × List MemPlace):=some (.held v,[])
def viewOf (o:Option Value) (zd:DataW Value):DataW Value:=match o with | some v=>.held v | none=>zd
/-- the block b is a map of at most n entries, which is m -/
def MapV (w:World) (P:Program) (k:TypeId) (b n:Nat) (m:Lit→Option Value):Prop:=
 ∃ D:DataW Value,w.ownsMap P k selfElem b n D∧IsMap D∧∀ kl,WideAt.IsKeyLit kl→∀ zd,D.atKey kl zd=viewOf (m kl) zd
section
variable {P:Program} {k e t:TypeId} {w w':World} {b n:Nat} {m:Lit→Option Value}
theorem MapV.made (w:World) (P:Program) (k:TypeId):MapV (w.alloc (.map #[] 0)) P k w.heap.size 0 (fun _=>none):=
 ⟨_,World.ownsMap_made w P k _,isMap_empty,fun _ _ _=>rfl⟩
theorem MapV.lt (h:MapV w P k b n m):b<w.heap.size:=by obtain ⟨D,h1,_⟩:=h;exact h1.lt
theorem MapV.same (h:MapV w P k b n m) (hs:w'.heap[b]? = w.heap[b]?):MapV w' P k b n m:=by
 obtain ⟨D,⟨es,clock,hb,F,hs',hD⟩,h2⟩:=h
 exact ⟨D,⟨es,clock,hs.trans hb,F,hs',hD⟩,h2⟩
theorem MapV.next (h:MapV w P k b n m) (hb:Below w.heap.size w w'):MapV w' P k b n m:=h.same (hb.block b h.lt)
theorem MapV.drewN (h:MapV w P k b n m) (j:Nat):MapV (w.drewN j) P k b n m:=h.same rfl
theorem MapV.alloc (h:MapV w P k b n m) (o:Obj):MapV (w.alloc o) P k b n m:=h.same (Below.heap_alloc w o b h.lt)
theorem MapV.setCell (h:MapV w P k b n m) {p:Addr} (hp:p.block≠b) (v:Value):MapV (w.setCell p v) P k b n m:=h.same (Below.heap_setCell w p v b (fun e=>hp e.symm))
theorem MapV.stays {No:Nat→Prop} (h:MapV w P k b n m) (hs:Stays w w' No) (hn:¬ No b):MapV w' P k b n m:=h.same (hs.block b h.lt hn)
theorem MapV.kept {row:Option Nat} (h:MapV w P k b n m) (hg:w.grownBy w' row) (hne:row≠some b):MapV w' P k b n m:=h.same (hg.block b h.lt (fun e=>hne e.symm))
theorem MapV.ne_cells (h:MapV w P k b n m) {F:Nat} {T:TypeId} {cs:Array Value} {u:Nat × Nat} (hF:w.heap[F]? = some (.cells cs T u)):b≠F:=by
 rintro rfl
 obtain ⟨D,⟨es,clock,hb,_⟩,_⟩:=h
 rw [hb] at hF
 simp at hF
theorem MapV.look_ok (h:MapV w P k b n m) (K:Keyed P k) (ht:P.underlying t=some (.map k e)) {z:Value} (hz:(zeroValue e).run P w=.ok z w) {key:Value} {kl:Lit} (hkey:keyOf P k key=some kl) :
  (Instr.lookup t (.map (some b)) key true).run P w=.ok (.tuple #[(m kl).getD z,.bool (m kl).isSome]) w:=by
 obtain ⟨D,h1,h2,h3⟩:=h
 have h1':=h1
 obtain ⟨es,clock,hb,F,_,rfl⟩:=h1
 have h4:=h3 kl (K.key hkey)
 rcases Maps.fit_look true K ht hz hb F hkey with ⟨hr,_,hat⟩ | ⟨e0,y,_,_,hr,hR,hat,_⟩
 ·rw [hr]
  cases hm:m kl with
  | none=>rfl
  | some u=>
   have:=h4 .nil
   rw [hat,hm] at this
   simp [viewOf] at this
 ·rw [hr]
  unfold selfElem at hR
  simp only [Option.some.injEq] at hR
  subst hR
  cases hm:m kl with
  | none=>
   have:=h4 .nil
   rw [hat,hm] at this
   simp [viewOf] at this
  | some u=>
   have:=h4 .nil
   rw [hat,hm] at this
   simp only [viewOf,DataW.held.injEq] at this
   rw [this];rfl
open Classical in
/-- what a map is behind a store -/
noncomputable def mapPut (m:Lit→Option Value) (kl:Lit) (v:Value):Lit→Option Value:=fun x=>if x=kl then some v else m x
open Classical in
noncomputable def mapDel (m:Lit→Option Value) (kl:Lit):Lit→Option Value:=fun x=>if x=kl then none else m x
theorem MapV.put (h:MapV w P k b n m) (K:Keyed P k) (ht:P.underlying t=some (.map k e)) (hn:n<maxLen) {key:Value} {kl:Lit} (hkey:keyOf P k key=some kl) (v:Value) :
  ∃ w',(Instr.mapUpdate t (.map (some b)) key v).run P w=.ok () w'∧MapV w' P k b (n+1) (mapPut m kl v)∧w.grownBy w' (some b):=by
 obtain ⟨D,h1,h2,h3⟩:=h
 obtain ⟨w',hr,h4,h5⟩:=h1.update K ht hn hkey (val:=v) (d:=.held v) (ps:=[]) rfl
 refine ⟨w',hr,⟨_,h4,h2.put _ _,fun kl' hk zd=>?_⟩,h5⟩
 unfold mapPut
 by_cases hkk:kl'=kl
 ·subst hkk
  rw [if_pos rfl,atKey_put_same h2 hk];rfl
 ·rw [if_neg hkk,atKey_put_other hkk]
  exact h3 kl' hk zd
theorem MapV.del (h:MapV w P k b n m) {ty:TypeId} (K:Keyed P k) (ht:P.underlying t=some (.map k e)) {key:Value} {kl:Lit} (hkey:keyOf P k key=some kl) :
  ∃ w',(Builtin.delete_ #[t,k] ty #[.map (some b),key]).run P w=.ok (.tuple #[]) w'∧MapV w' P k b n (mapDel m kl)∧w.grownBy w' (some b):=by
 obtain ⟨D,⟨es,clock,hb,F,hs,rfl⟩,h2,h3⟩:=h
 obtain ⟨es',hr,F',hle,hD,_⟩:=Maps.fit_drop (ty:=ty) K ht hb F hkey
 refine ⟨_,hr,⟨_,⟨es',clock,heap_setBlock_same hb _,F',Nat.le_trans hle hs,rfl⟩,⟨_,rfl⟩,fun kl' hk zd=>?_⟩,⟨rfl,rfl,rfl,by simp [setBlock],fun i _ hi=>heap_setBlock_other hb _ (fun e=>hi (by rw [e]))⟩⟩
 have e1:(DataW.map ((es'.toList.map (WideElems.rg P k selfElem)).foldr DataW.insert []))=(DataW.map ((es.toList.map (WideElems.rg P k selfElem)).foldr DataW.insert [])).del kl:=by rw [hD];rfl
 rw [e1]
 unfold mapDel
 by_cases hkk:kl'=kl
 ·subst hkk
  rw [if_pos rfl,atKey_del_same];rfl
 ·rw [if_neg hkk,atKey_del_other hkk]
  exact h3 kl' hk zd
/-! ### At the operation -/
variable {ops:Array Oper} {rest:List Oper} {o:Oper} {a:Act} {Q:Exit→Act→World→Prop}
theorem wp_mlook_ok (w:World) (hg:o.guard=none) (mm x:Operand) (t:TypeId) (hop:o.op=Op.lookup t mm x true) (K:Keyed P k) (ht:P.underlying t=some (.map k e)) {z:Value} (hz:(zeroValue e).run P w=.ok z w) (hm:a.eval mm=.map (some b)) (h:MapV w P k b n m)
  (key:Value) (hx:a.eval x=key) {kl:Lit} (hkey:keyOf P k key=some kl) (hK:wpList P ops Q rest (a.put o.dst (.tuple #[(m kl).getD z,.bool (m kl).isSome])) w):wpList P ops Q (o :: rest) a w:=by
 refine wpList_plain hg fun K' hK'=>?_
 have hr:=h.look_ok K ht hz hkey
 unfold Oper.wp
 simp [execOp,hop,hm,hx,hr,Result.andThen]
 exact hK' _ _ hK
theorem wp_mdel (w:World) (hg:o.guard=none) (mm x:Operand) (t:TypeId) (hop:o.op=.call { callee:=.builtin .delete,args:=#[mm,x],argTypes:=#[t,k] }) (K:Keyed P k) (ht:P.underlying t=some (.map k e)) (hm:a.eval mm=.map (some b)) (h:MapV w P k b n m)
  (key:Value) (hx:a.eval x=key) {kl:Lit} (hkey:keyOf P k key=some kl) (hK:∀ w',MapV w' P k b n (mapDel m kl)→w.grownBy w' (some b)→wpList P ops Q rest (a.put o.dst (.tuple #[])) w'):wpList P ops Q (o :: rest) a w:=by
 refine wpList_plain hg fun K' hK'=>?_
 obtain ⟨w',hr,h1,h2⟩:=h.del (ty:=o.type) K ht hkey
 unfold Oper.wp
 simp [execOp,hop,resolve,invoke,builtin,hm,hx,hr,Result.andThen]
 exact hK' _ _ (hK w' h1 h2)
end
/-- a map keyed by ints -/
def mapI (f:Int→Option Value):Lit→Option Value:=fun x=>match x with | .int .i64 a=>f a | _=>none
theorem mapI_at (f:Int→Option Value) (a:Int):mapI f (.int .i64 a)=f a:=rfl
theorem mapI_none:(fun _=>none:Lit→Option Value)=mapI (fun _=>none):=by
 funext x
 cases x with
 | int k a=>cases k <;> rfl
 | _=>rfl
theorem mapI_put (f:Int→Option Value) (a:Int) (v:Value):mapPut (mapI f) (.int .i64 a) v=mapI (fun i=>if i=a then some v else f i):=by
 funext x
 unfold mapPut
 cases x with
 | int k c=>
  cases k <;> simp [mapI]
 | _=>simp [mapI]
theorem mapI_del (f:Int→Option Value) (a:Int):mapDel (mapI f) (.int .i64 a)=mapI (fun i=>if i=a then none else f i):=by
 funext x
 unfold mapDel
 cases x with
 | int k c=>
  cases k <;> simp [mapI]
 | _=>simp [mapI]
theorem wf_i64 {a:Int} (h:IntOk a):(Lit.int .i64 a).wf=true:=by
 unfold IntOk at h
 simp [Lit.wf,IntKind.min,IntKind.max,IntKind.signed,IntKind.bits]
 omega
end Go.Proofs.Ytdldfllllgogoaa
namespace Go.Proofs.Ytdldfllllgogoaa
open Go.RowKit Go.Maps Go.WideShapes Go.ChangeMaps Go.MapKept
set_option linter.unusedSimpArgs false
/-- the reference's hearer, in the block G: its map in the block Mb -/
structure IAt (w:World) (G Mb n:Nat) (room taken end_:Int) (known:Bool) (f:Int→Option Value):Prop where
 blk:BlkA w G 107 #[.int .i64 room,.map (some Mb),.int .i64 taken,.int .i64 end_,.bool known]
 map:MapV w Try.prog 3 Mb n (mapI f)
theorem IAt.next {w w':World} {G Mb n:Nat} {room taken end_:Int} {known:Bool} {f:Int→Option Value} (h:IAt w G Mb n room taken end_ known f) (hb:Below w.heap.size w w'):IAt w' G Mb n room taken end_ known f:=⟨h.blk.next hb,h.map.next hb⟩
set_option maxRecDepth 100000 in
set_option maxHeartbeats 1000000 in
theorem ref_Low (G Mb n:Nat) (room taken end_ d:Int) (known:Bool) (f:Int→Option Value) (w:World) (h:IAt w G Mb n room taken end_ known f) (h0:0≤taken) (h1:taken≤d) (h2:d≤4000000) (hf:∀ k,taken≤k→k<d→f k≠none) (hd:f d=none) :
  Calls Try.prog 43 #[.pointer (some ⟨G,0,none⟩)] w fun e w'=>e=.returned (.int .i64 d)∧Below w.heap.size w w':=by
 have H:=Lib.hid h
 have HF:=Lib.hid hf
 have HD:=Lib.hid hd
 have c1:=h.blk.get 1
 have c2:=h.blk.get 2
 simp only [List.getElem?_toArray,List.getElem?_cons_succ,List.getElem?_cons_zero] at c1 c2
 clear h hf hd
 go_enter Try.func43,Try.ntmps43
 go_wp2
 go_loopw [3] (fun s wr=>∃ k:Int,taken≤k∧k≤d∧s=.int .i64 k∧Below w.heap.size w wr) (fun s _=>(d - intOf s).toNat)
 case atStart=>exact ⟨taken,Int.le_refl _,h1,rfl,Below.refl _ _⟩
 case round=>
  obtain ⟨k,hk1,hk2,rfl,hB⟩:=hrel
  rename World=>wr
  have HN:=Lib.hid (H.out.next hB)
  have c1:=HN.out.blk.get 1
  simp only [List.getElem?_toArray,List.getElem?_cons_succ,List.getElem?_cons_zero] at c1
  have HWF:Hid ((Lit.int .i64 k).wf=true):=Lib.hid (wf_i64 (by unfold IntOk;omega))
  by_cases hkd:k=d
  ·subst hkd
   have HV:Hid (mapI f (.int .i64 k)=none):=Lib.hid (by rw [mapI_at];exact HD.out)
   go_wp2_with (at_lookup;refine wp_mlook_ok _ rfl _ _ _ rfl (Go.Maps.int_keyed Try.underlying3) Try.underlying68 (z:=.int .u8 0) (by kernel_rfl) rfl HN.out.map _ rfl (Go.Maps.keyOf_int_mk Try.underlying3 HWF.out) ?_;rw [HV.out])
   go_ret
   exact ⟨rfl,hB⟩
  ·obtain ⟨u,hu⟩:∃ u,f k=some u:=by
    cases h:f k with
    | none=>exact absurd h (HF.out k hk1 (by omega))
    | some u=>exact ⟨u,rfl⟩
   have HV:Hid (mapI f (.int .i64 k)=some u):=Lib.hid (by rw [mapI_at];exact hu)
   clear hu
   go_wp2_with (at_lookup;refine wp_mlook_ok _ rfl _ _ _ rfl (Go.Maps.int_keyed Try.underlying3) Try.underlying68 (z:=.int .u8 0) (by kernel_rfl) rfl HN.out.map _ rfl (Go.Maps.keyOf_int_mk Try.underlying3 HWF.out) ?_;rw [HV.out])
   go_roundw
   case rel=>exact ⟨k+1,by omega,by omega,by go_num,hB⟩
   case measure=>simp [intOf];omega
end Go.Proofs.Ytdldfllllgogoaa
namespace Go.Proofs.Ytdldfllllgogoaa
open Go.RowKit Go.Maps Go.WideShapes Go.ChangeMaps Go.MapKept
set_option linter.unusedSimpArgs false
def rv.isP (f:Int→Option Value) (n:Int):Bool:=(f n).isSome
theorem rv.runs_no {P:Int→Bool} {lo:Int} {k:Nat} (h:P (lo+k)=false):rv.runs P lo (k+1)=rv.runs P lo k:=by rw [rv.runs,if_neg (by rw [h];decide)]
theorem rv.runs_first {P:Int→Bool} {lo:Int} {k:Nat} (h:P (lo+k)=true) (h0:rv.runs P lo k=[]):rv.runs P lo (k+1)=[⟨lo+k,lo+k+1⟩]:=by rw [rv.runs,if_pos h,h0];rfl
theorem rv.runs_on {P:Int→Bool} {lo:Int} {k:Nat} (h:P (lo+k)=true) {o:List Rng} {x:Rng} (h0:rv.runs P lo k=o ++ [x]) (e:x.hi=lo+k):rv.runs P lo (k+1)=o ++ [⟨x.lo,lo+k+1⟩]:=by
 rw [rv.runs,if_pos h,h0]
 simp only [List.getLast?_append,List.getLast?_singleton,Option.some_or]
 rw [if_pos e,List.dropLast_concat]
theorem rv.runs_new {P:Int→Bool} {lo:Int} {k:Nat} (h:P (lo+k)=true) {o:List Rng} {x:Rng} (h0:rv.runs P lo k=o ++ [x]) (e:x.hi≠lo+k):rv.runs P lo (k+1)=(o ++ [x]) ++ [⟨lo+k,lo+k+1⟩]:=by
 rw [rv.runs,if_pos h,h0]
 simp only [List.getLast?_append,List.getLast?_singleton,Option.some_or]
 rw [if_neg e]
end Go.Proofs.Ytdldfllllgogoaa
