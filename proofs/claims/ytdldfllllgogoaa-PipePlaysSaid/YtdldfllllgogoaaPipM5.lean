/- Texts in one: TailS, Send2, Play, Send8, Send3, Send4. No condition. -/
import Derived.Test.YtdldfllllgogoaaPipM4
import Derived.Test.YtdldfllllgogoaaPipM1
namespace Go.Proofs.Ytdldfllllgogoaa
section
variable {P:Program} {ops:Array Oper} {Q:Exit→Act→World→Prop} {md:Region.Mode} {S:World→Prop} {late:List Nat}
theorem zA {α:Type} {xs:List α} {i:Nat} (h:i<xs.toArray.size):xs.toArray[i]=xs[i]'(by simpa using h):=List.getElem_toArray h
theorem zB {α:Type} {a:α} {l:List α} {i:Nat} (h:i+1<(a :: l).length):(a :: l)[i+1]=l[i]'(Nat.lt_of_succ_lt_succ h):=List.getElem_cons_succ ..
theorem zC {α:Type} {a:α} {l:List α} (h:0<(a :: l).length):(a :: l)[0]=a:=List.getElem_cons_zero _ _ h
theorem zD {α:Type} (xs:List α) (i:Nat) (a:α):xs.toArray.setIfInBounds i a=(xs.set i a).toArray:=List.setIfInBounds_toArray ..
theorem zE {α:Type} {x:α} {xs:List α} {a:α}:(x :: xs).set 0 a=a :: xs:=List.set_cons_zero
theorem zF {α:Type} {x:α} {xs:List α} {n:Nat} {a:α}:(x :: xs).set (n+1) a=x :: xs.set n a:=List.set_cons_succ
theorem zN {a:Bool} {p:Prop} (h0:false=a) (h:a=true):p:=absurd (h0.trans h) Bool.false_ne_true
theorem zP (i:Nat) {oi:Oper} {v:Value} {fuel:Nat} {listed:Array Bool} {a:Act} {w:World} (hy:∀ w,(execOp a.eval oi).run P w=.ok (.value v) w) (hS:early late (listed.setIfInBounds i true)=true→S w)
  (h:wpAnyT P md ops Q S late fuel (listed.setIfInBounds i true) (a.put oi.dst v) w)
  (hi:ops[i]? = some oi:=by rfl) (hs:Region.noSelect ops=true:=by kernel_rfl) (hf:Region.free md ops listed i=true:=by kernel_rfl) (hr:(Region.ready md ops listed).contains i=true:=by kernel_rfl)
  (hQ:∀ c a w,Q (.panic c) (a.put oi.dst v) w→Q (.panic c) a w:=by exact fun _ _ _ h=>h) (hw:Region.wanted oi (yielded ops a.tmps)=true:=by kernel_rfl) (hE:¬ i ∈ late:=by decide):wpAnyT P md ops Q S late (fuel+1) listed a w:=
 wpAnyT_pure hi hs hf hr hQ (.inl ⟨hw,hy⟩) hS h hE
theorem zT (i:Nat) {oi:Oper} {v:Value} (B:List Nat) {fuel:Nat} {listed:Array Bool} {a:Act} {w:World} (hy:∀ w,S w→(execOp a.eval oi).run P w=.ok (.value v) w) (hS:S w)
  (h:wpAnyT P md ops Q S late fuel (listed.setIfInBounds i true) (a.put oi.dst v) w)
  (hi:ops[i]? = some oi:=by rfl) (hs:Region.noSelect ops=true:=by kernel_rfl) (hf:Region.free md ops listed i=true:=by kernel_rfl) (hr:(Region.ready md ops listed).contains i=true:=by kernel_rfl)
  (hB:(behindB md ops i B listed && late.all (fun k=>B.contains k) && !B.contains i)=true:=by kernel_rfl) (hQ:∀ c a w,Q (.panic c) (a.put oi.dst v) w→Q (.panic c) a w:=by exact fun _ _ _ h=>h) (hw:Region.wanted oi (yielded ops a.tmps)=true:=by kernel_rfl):wpAnyT P md ops Q S late (fuel+1) listed a w:=
 wpAnyT_take B hi hs hf hr hB hQ (.inl ⟨hw,hy⟩) hS h
end
end Go.Proofs.Ytdldfllllgogoaa
namespace Go.Proofs.Ytdldfllllgogoaa
open Go.RowKit
set_option linter.unusedSimpArgs false
set_option maxHeartbeats 1000000 in
theorem send_first (B F:Nat) (s:sd.St) (D:Option Addr) (dc:Nat) (M:Option Addr) (mc:Nat) (f t:Int) (w:World) (h:SAt w B F s D dc M mc) (hi:sd.Inv s) (hf:0≤f∧f≤s.next) (ht:0≤t∧t≤1048576) :
  Calls Try.prog 79 #[.pointer (some ⟨F,0,none⟩),.int .i64 f,.int .i64 t] w fun e w'=>e=.returned (.int .i64 (sd.first s f t))∧Below w.heap.size w w':=by
 have H:=Lib.hid h
 have HI:=Lib.hid hi
 have c2:=h.blk.get 2
 have c3:=h.blk.get 3
 simp only [List.getElem?_toArray,List.getElem?_cons_succ,List.getElem?_cons_zero] at c2 c3
 have hF:=h.blk.lt
 have hfew:=hi.few
 have hlo:=hi.lo
 have hen:=hi.end_
 obtain ⟨f0,hf0⟩:∃ f0,f0=max f s.done:=⟨_,rfl⟩
 have hfb:0≤f0∧f0≤s.next:=by omega
 have HRES:Hid (sd.first s f t=min (sd.firstFrom s.more f0) t):=Lib.hid (by unfold sd.first;rw [hf0])
 have HF0:=Lib.hid hf0
 have HFL:=Lib.hid (fun k=>sd.firstFrom_le (l:=s.more.take k) (f:=f0) (t:=s.next) hfb.2 (fun r hr=>hi.hi r (List.mem_of_mem_take hr)))
 obtain ⟨nx,hnx⟩:∃ nx,s.next=nx:=⟨_,rfl⟩
 rw [hnx] at HFL hlo hfb hf
 have hnxb:nx≤1048576:=by omega
 clear h hi hf0 hnx hlo hen
 go_enter Try.func79,Try.ntmps79
 go_upto_region 1 with (fail)
 go_cut [1] (fun s1 wx=>s1=.int .i64 f0∧w=wx)
 case first=>
  go_wp2
  all_goals
   go_meet
   exact ⟨by rw [HF0.out];congr 1;omega,rfl⟩
 case rest=>
  obtain ⟨rfl,rfl⟩:=hcut
  go_wp2
  go_loopw [1,20] (fun n i wr=>∃ k:Nat,k≤s.more.length∧i=.int .i64 k∧n=.int .i64 (sd.firstFrom (s.more.take k) f0)∧Below w.heap.size w wr) (fun _ i _=>s.more.length - (intOf i).toNat)
  case atStart=>exact ⟨0,by omega,rfl,rfl,bself _⟩
  case round=>
   obtain ⟨k,hk,rfl,rfl,hB⟩:=hrel
   rename World=>wr
   have hbd:=HFL.out k
   have hge:=sd.firstFrom_ge (s.more.take k) f0
   by_cases hlt:k<s.more.length
   ·obtain ⟨g,o,rfl,hg,e0,e1⟩:=Rng.cells_at Rng.z (H.out.moreLt.below hB) hlt
    have hlt':(k:Int)<(s.more.length:Int):=by omega
    have hgr:g<wr.heap.size:=Nat.lt_of_lt_of_le hg hB.size
    have HSN:Hid (sd.firstFrom (s.more.take (k+1)) f0=if (s.more.getD k Rng.z).lo≤sd.firstFrom (s.more.take k) f0∧sd.firstFrom (s.more.take k) f0<(s.more.getD k Rng.z).hi then (s.more.getD k Rng.z).hi else sd.firstFrom (s.more.take k) f0):=Lib.hid (by rw [sd.take_getD hlt,sd.firstFrom_snoc])
    generalize s.more.getD k Rng.z=r at *
    generalize sd.firstFrom (s.more.take k) f0=tt at *
    obtain ⟨rl,rh⟩:=r
    dsimp only at e0 e1 HSN
    by_cases k1:rl≤tt
    ·by_cases k2:tt<rh
     ·go_wp2
      go_roundw
      case rel=>exact ⟨k+1,by omega,by go_num,by rw [HSN.out,if_pos ⟨k1,k2⟩],balloc hB _⟩
      case measure=>simp [intOf];omega
     ·go_wp2
      go_roundw
      case rel=>exact ⟨k+1,by omega,by go_num,by rw [HSN.out,if_neg (fun e=>k2 e.2)],balloc hB _⟩
      case measure=>simp [intOf];omega
    ·have k1':decide (rl≤tt)=false:=by simpa using k1
     go_wp2
     go_roundw
     case rel=>exact ⟨k+1,by omega,by go_num,by rw [HSN.out,if_neg (fun e=>k1 e.1)],balloc hB _⟩
     case measure=>simp [intOf];omega
   ·obtain rfl:k=s.more.length:=by omega
    have HT:Hid (s.more.take s.more.length=s.more):=Lib.hid List.take_length
    rw [HT.out] at hbd hge
    go_wp2
    all_goals
     go_ret
     refine ⟨?_,hB⟩
     rw [HRES.out]
     show Ending.returned (.int .i64 _)=Ending.returned (.int .i64 _)
     congr 2
     omega
set_option maxHeartbeats 400000 in
theorem send_after (p:Sent) (G:Option Addr) (gc:Nat) (F:Nat) (w:World) (hl:0≤p.from_∧p.from_≤1048576) (hd:p.data.length≤64) :
  Calls Try.prog 82 #[.pointer (some ⟨F,0,none⟩),.agg #[.int .i64 p.code,.int .i64 p.from_,.slice G p.data.length gc,.bool p.fin,.bool p.again,.bool p.idle,.int .i64 p.left]] w fun e w'=>e=.returned (.int .i64 (sd.after p))∧Below w.heap.size w w':=by
 obtain ⟨pc,pf,pd,pn,pa,pi,pl⟩:=p
 dsimp only at hl hd ⊢
 cases pn with
 | true=>
  have HE:Hid (sd.after ⟨pc,pf,pd,true,pa,pi,pl⟩=pf+(pd.length:Int)+1):=Lib.hid rfl
  go_enter Try.func82,Try.ntmps82
  go_wp2
  go_ret
  exact ⟨by rw [HE.out];rfl,(by repeat (first | (with_reducible first | exact Below.refl _ _ | assumption | refine bset ?_ ?_ _ | refine balloc ?_ _ | refine Below.drew ?_ | refine bdrewN ?_ _ | refine bnext ?_ (by with_reducible assumption)) | exact Nat.le_refl _ | (simp;done) | omega | (simp;omega)))⟩
 | false=>
  have HE:Hid (sd.after ⟨pc,pf,pd,false,pa,pi,pl⟩=pf+(pd.length:Int)):=Lib.hid (by unfold sd.after;simp [sd.fin1])
  go_enter Try.func82,Try.ntmps82
  go_wp2
  go_ret
  exact ⟨by rw [HE.out];rfl,(by repeat (first | (with_reducible first | exact Below.refl _ _ | assumption | refine bset ?_ ?_ _ | refine balloc ?_ _ | refine Below.drew ?_ | refine bdrewN ?_ _ | refine bnext ?_ (by with_reducible assumption)) | exact Nat.le_refl _ | (simp;done) | omega | (simp;omega)))⟩
def SndRes (w:World) (B F:Nat) (l:List Rng) (r:Int × sd.St) (D M:Option Addr) (e:Ending) (w':World):Prop:=
 ∃ D1 dc1 M1 mc1,e=.returned (.int .i64 r.1)∧SAt w' B F r.2 D1 dc1 M1 mc1∧Stays w w' (HF F D M l)∧∀ k,HF F D1 M1 r.2.more k→HF F D M l k∨w.heap.size≤k
theorem SndRes.no {w w':World} {B F:Nat} {s:sd.St} {D M:Option Addr} {dc mc:Nat} {r:Int × sd.St} {c:Int} (h:SAt w B F s D dc M mc) (hr:r=(c,s)) (hb:Below w.heap.size w w'):SndRes w B F s.more r D M (.returned (.int .i64 c)) w':=by
 subst hr
 exact ⟨D,dc,M,mc,rfl,h.next hb,Stays.of_below hb _,fun k hk=>.inl hk⟩
set_option maxHeartbeats 1000000 in
theorem send_submit (B F:Nat) (s:sd.St) (D:Option Addr) (dc:Nat) (M:Option Addr) (mc:Nat) (b:List UInt8) (G:Option Addr) (gc:Nat) (S:Nat→Prop) (w:World) (h:SAt w B F s D dc M mc) (hi:sd.Inv s) (hG:SlRep Rep.u8 w S b G gc) (hb:b.length≤140737488351232) :
  Calls Try.prog 46 #[.pointer (some ⟨F,0,none⟩),.slice G b.length gc] w (SndRes w B F s.more (sd.submit s b) D M):=by
 have H:=Lib.hid h
 have HG:=Lib.hid hG
 have c0:=h.blk.get 0
 have c1:=h.blk.get 1
 have f0:=h.blk.frozen 0
 simp only [List.getElem?_toArray,List.getElem?_cons_succ,List.getElem?_cons_zero] at c0 c1
 have hF:=h.blk.lt
 have hsz:=hi.size
 have hlo:=h.lo
 have KEY:=Lib.hid (fun (c:Int) (hc:sd.submit s b=(c,s))=>(SndRes.no h hc (bself w):SndRes w B F s.more (sd.submit s b) D M (.returned (.int .i64 c)) w))
 clear h hG hi
 cases hc:s.closed with
 | true=>
  have HR:Hid (sd.submit s b=(10,s)):=Lib.hid (by unfold sd.submit;rw [if_pos hc])
  rw [hc] at c1
  clear hc
  go_enter Try.func46,Try.ntmps46
  go_wp2
  go_ret
  exact KEY.out _ HR.out
 | false=>
  rw [hc] at c1
  by_cases k1:4096<b.length
  ·have HR:Hid (sd.submit s b=(1,s)):=Lib.hid (by unfold sd.submit;rw [if_neg (by rw [hc];decide),if_pos k1])
   have k1':(4096:Int)<(b.length:Int):=by omega
   clear hc
   go_enter Try.func46,Try.ntmps46
   go_wp2
   go_ret
   exact KEY.out _ HR.out
  have k1':¬ (4096:Int)<(b.length:Int):=by omega
  by_cases k2:1048576≤s.data.length+b.length
  ·have HR:Hid (sd.submit s b=(9,s)):=Lib.hid (by unfold sd.submit;rw [if_neg (by rw [hc];decide),if_neg k1,if_pos k2])
   have k2':(s.data.length:Int)+(b.length:Int) ≥ 1048576:=by omega
   clear hc
   go_enter Try.func46,Try.ntmps46
   go_wp2
   go_ret
   exact KEY.out _ HR.out
  have k2':¬ (s.data.length:Int)+(b.length:Int) ≥ 1048576:=by omega
  have HR:Hid (sd.submit s b=(0,{ s with data:=s.data ++ b })):=Lib.hid (by unfold sd.submit;rw [if_neg (by rw [hc];decide),if_neg k1,if_neg k2])
  have hap:=H.out.apart
  have HCE:Hid (Cells w G (b.map fun x=>Value.int .u8 (x.toNat:Int))):=Lib.hid (SlRep.cells_u8 HG.out)
  clear hc
  go_enter Try.func46,Try.ntmps46
  go_wp2_with (first
   | (at_builtin;refine wp_app _ rfl _ _ _ rfl elemU8 B D s.data.length dc (s.data.map rv.u8v) rfl H.out.data G b.length gc (b.map rv.u8v) rfl (by simp) HCE.out (oneCell_u8 b) (by omega) (by unfold maxLen;omega) (by omega) ?_;intro D1 dc1 w6 ho6 hg6;have x3:=H.out.blk.kept hg6.grown hap;have z1:=x3.get 0;have z2:=x3.frozen 0;clear x3;have HO6:=Lib.hid ho6;have HG6:=Lib.hid hg6;clear ho6 hg6)
   | fail)
  go_ret
  obtain ⟨k1,k2,k3⟩:=H.out.grow (d:=s.data ++ b) (bself w) HG6.out (by rw [List.map_append];exact HO6.out)
  rw [HR.out]
  refine ⟨D1,dc1,M,mc,rfl,k1,k2.mono fun k _ hk=>hk.hf,fun k hk=>?_⟩
  rcases hk with e | e | e
  ·exact .inl (.inl e)
  ·exact (k3.inf e).imp (fun e=>.inr (.inl e)) id
  ·exact .inl (.inr (.inr e))
end Go.Proofs.Ytdldfllllgogoaa
namespace Go.Proofs.Ytdldfllllgogoaa
theorem drop_getD {α:Type} (l:List α) (z:α) {k:Nat} (h:k<l.length):l.drop k=l.getD k z :: l.drop (k+1):=by
 rw [List.drop_eq_getElem_cons h,List.getD_eq_getElem?_getD,List.getElem?_eq_getElem h]
 rfl
end Go.Proofs.Ytdldfllllgogoaa
namespace Go.Proofs.Ytdldfllllgogoaa
open Go.RowKit
set_option linter.unusedSimpArgs false
theorem sd.heard_range {s:sd.St} {d:Deed} (h:d.ack<0∨s.next<d.ack∨d.window<0∨65535<d.window):sd.heard s d=(2,s):=by unfold sd.heard;rw [if_pos h]
theorem sd.heard_size {s:sd.St} {d:Deed} (h:¬ (d.ack<0∨s.next<d.ack∨d.window<0∨65535<d.window)) (h2:3<d.sacks.length):sd.heard s d=(1,s):=by unfold sd.heard;rw [if_neg h,if_pos h2]
theorem sd.heard_odd {s:sd.St} {d:Deed} (h:¬ (d.ack<0∨s.next<d.ack∨d.window<0∨65535<d.window)) (h2:¬ 3<d.sacks.length) (h3:sd.anyB d.sacks s.next=true):sd.heard s d=(2,s):=by
 unfold sd.heard
 rw [if_neg h,if_neg h2,if_pos]
 unfold sd.anyB at h3
 obtain ⟨r,hr,ho⟩:=List.any_eq_true.1 h3
 exact ⟨r,hr,of_decide_eq_true ho⟩
theorem sd.not_odd {l:List Rng} {p:Int} (h:sd.anyB l p=false):∀ r,r ∈ l→¬ sd.odd p r:=fun r hr=>by
 unfold sd.anyB at h
 have:=List.any_eq_false.1 h r hr
 unfold sd.oddB at this
 simpa using this
/-- what comes of the ranges added -/
def sd.heardOf (s:sd.St) (x:Int):Except Int (Int × List Rng)→Int × sd.St
 | .error e=>(e,s)
 | .ok y=>(0,{ s with done:=y.1,more:=y.2,edge:=max s.edge x })
theorem sd.heard_adds {s:sd.St} {d:Deed} (h:¬ (d.ack<0∨s.next<d.ack∨d.window<0∨65535<d.window)) (h2:¬ 3<d.sacks.length) (h3:sd.anyB d.sacks s.next=false) :
  sd.heard s d=sd.heardOf s (d.ack+d.window) (sd.adds s.done s.more (⟨0,d.ack⟩ :: d.sacks)):=by
 unfold sd.heard
 rw [if_neg h,if_neg h2,if_neg (fun ⟨r,hr,ho⟩=>sd.not_odd h3 r hr ho)]
 cases sd.adds s.done s.more (⟨0,d.ack⟩ :: d.sacks) <;> rfl
theorem sd.ans_of {done:Int} {more:List Rng} {r:Rng} (hm:HoleMay done more) (h0:0≤r.lo) (h1:r.lo≤r.hi) (h3:r.hi≤1048576) :
  had.ans done more r=if 16<(had.addTo done more r).2.length then (0,[],9) else ((had.addTo done more r).1,(had.addTo done more r).2,0):=by
 unfold had.ans
 rw [if_neg (by simp [holeMayB_true hm]),if_neg (by omega)]
/-- so many ranges were added -/
structure AddsAt (w wr:World) (N:Int) (done:Int) (more:List Rng) (all:List Rng) (k:Nat) (d:Int) (m:List Rng) (M:Option Addr) (mc:Nat):Prop where
 low:Below w.heap.size w wr
 same:sd.adds d m (all.drop k)=sd.adds done more all
 rng:0≤d∧d≤N
 canon:had.Canon d m
 hi:∀ r,r ∈ m→r.hi≤N
 few:m.length≤16
 row:SlRep Rng.rep wr (· < wr.heap.size) m M mc
set_option maxRecDepth 100000 in
set_option maxHeartbeats 4000000 in
theorem send_heard (B F:Nat) (s:sd.St) (D:Option Addr) (dc:Nat) (M:Option Addr) (mc:Nat) (d:Deed) (G:Option Addr) (gc:Nat) (R:Option Addr) (rc:Nat) (w:World) (h:SAt w B F s D dc M mc) (hi:sd.Inv s) (hR:SlRep Rng.rep w (· < w.heap.size) d.sacks R rc) (ha:IntOk d.ack) (hwn:IntOk d.window) (hd:d.sacks.length≤140737488351232) :
  Calls Try.prog 47 #[.pointer (some ⟨F,0,none⟩),.agg #[.int .i64 d.kind,.slice G d.data.length gc,.int .i64 d.ack,.int .i64 d.window,.slice R d.sacks.length rc]] w (SndRes w B F s.more (sd.heard s d) D M):=by
 obtain ⟨dk,dd,da,dw,ds⟩:=d
 simp only at hR ha hwn hd ⊢
 unfold IntOk at ha hwn
 have H:=Lib.hid h
 have HI:=Lib.hid hi
 have HR:=Lib.hid hR
 have hlo:=hi.lo
 have hen:=hi.end_
 have hed:=hi.edge
 have hfew:=hi.few
 have hF:=h.blk.lt
 have c4:=h.blk.get 4
 simp only [List.getElem?_toArray,List.getElem?_cons_succ,List.getElem?_cons_zero] at c4
 have HNO:=Lib.hid (fun (c:Int) (hc:sd.heard s ⟨dk,dd,da,dw,ds⟩=(c,s)) w' (hb:Below w.heap.size w w')=>(SndRes.no h hc hb:SndRes w B F s.more (sd.heard s ⟨dk,dd,da,dw,ds⟩) D M (.returned (.int .i64 c)) w'))
 clear h hi hR
 by_cases k1:da<0
 ·have HE:=Lib.hid (sd.heard_range (s:=s) (d:=⟨dk,dd,da,dw,ds⟩) (.inl k1))
  go_enter Try.func47,Try.ntmps47
  go_wp2
  go_quiet (fail)
  go_wp2
  go_ret
  exact HNO.out _ HE.out _ (by repeat (first | (with_reducible first | exact Below.refl _ _ | assumption | refine bset ?_ ?_ _ | refine balloc ?_ _ | refine Below.drew ?_ | refine bdrewN ?_ _ | refine bnext ?_ (by with_reducible assumption)) | exact Nat.le_refl _ | (simp;done) | omega | (simp;omega)))
 have q1:decide (da<0)=false:=by simpa using k1
 by_cases k2:s.next<da
 ·have HE:=Lib.hid (sd.heard_range (s:=s) (d:=⟨dk,dd,da,dw,ds⟩) (.inr (.inl k2)))
  have q2:decide (s.next<da)=true:=by simpa using k2
  go_enter Try.func47,Try.ntmps47
  go_wp2
  go_quiet (fail)
  go_wp2
  go_ret
  exact HNO.out _ HE.out _ (by repeat (first | (with_reducible first | exact Below.refl _ _ | assumption | refine bset ?_ ?_ _ | refine balloc ?_ _ | refine Below.drew ?_ | refine bdrewN ?_ _ | refine bnext ?_ (by with_reducible assumption)) | exact Nat.le_refl _ | (simp;done) | omega | (simp;omega)))
 have q2:decide (s.next<da)=false:=by simpa using k2
 by_cases k3:dw<0
 ·have HE:=Lib.hid (sd.heard_range (s:=s) (d:=⟨dk,dd,da,dw,ds⟩) (.inr (.inr (.inl k3))))
  have q3:decide (dw<0)=true:=by simpa using k3
  go_enter Try.func47,Try.ntmps47
  go_wp2
  go_quiet (fail)
  go_wp2
  go_ret
  exact HNO.out _ HE.out _ (by repeat (first | (with_reducible first | exact Below.refl _ _ | assumption | refine bset ?_ ?_ _ | refine balloc ?_ _ | refine Below.drew ?_ | refine bdrewN ?_ _ | refine bnext ?_ (by with_reducible assumption)) | exact Nat.le_refl _ | (simp;done) | omega | (simp;omega)))
 have q3:decide (dw<0)=false:=by simpa using k3
 by_cases k4:65535<dw
 ·have HE:=Lib.hid (sd.heard_range (s:=s) (d:=⟨dk,dd,da,dw,ds⟩) (.inr (.inr (.inr k4))))
  have q4:decide (65535<dw)=true:=by simpa using k4
  go_enter Try.func47,Try.ntmps47
  go_wp2
  go_quiet (fail)
  go_wp2
  go_ret
  exact HNO.out _ HE.out _ (by repeat (first | (with_reducible first | exact Below.refl _ _ | assumption | refine bset ?_ ?_ _ | refine balloc ?_ _ | refine Below.drew ?_ | refine bdrewN ?_ _ | refine bnext ?_ (by with_reducible assumption)) | exact Nat.le_refl _ | (simp;done) | omega | (simp;omega)))
 have q4:decide (65535<dw)=false:=by simpa using k4
 have HN4:Hid (¬ (da<0∨s.next<da∨dw<0∨65535<dw)):=Lib.hid (by omega)
 by_cases k5:3<ds.length
 ·have HE:=Lib.hid (sd.heard_size (s:=s) (d:=⟨dk,dd,da,dw,ds⟩) HN4.out k5)
  have q5:(3:Int)<(ds.length:Int):=by omega
  go_enter Try.func47,Try.ntmps47
  go_wp2
  go_quiet (fail)
  go_wp2
  go_ret
  exact HNO.out _ HE.out _ (by repeat (first | (with_reducible first | exact Below.refl _ _ | assumption | refine bset ?_ ?_ _ | refine balloc ?_ _ | refine Below.drew ?_ | refine bdrewN ?_ _ | refine bnext ?_ (by with_reducible assumption)) | exact Nat.le_refl _ | (simp;done) | omega | (simp;omega)))
 have q5:¬ (3:Int)<(ds.length:Int):=by omega
 obtain ⟨w1,hw1⟩:∃ w1,w1=(w.alloc (.cells #[.pointer (some ⟨F,0,none⟩)] 79)).alloc (.cells #[.int .i64 dk,.slice G dd.length gc,.int .i64 da,.int .i64 dw,.slice R ds.length rc] 82):=⟨_,rfl⟩
 have hb1:Below w.heap.size w w1:=by rw [hw1];exact balloc (balloc (bself w) _) _
 have hS1:BlkA w1 w.heap.size 79 #[.pointer (some ⟨F,0,none⟩)]:=by rw [hw1];exact (BlkA.new w _ _).alloc _
 have hD1:BlkA w1 (w.heap.size+1) 82 #[.int .i64 dk,.slice G dd.length gc,.int .i64 da,.int .i64 dw,.slice R ds.length rc]:=by
  rw [hw1]
  have h:=BlkA.new (w.alloc (.cells #[.pointer (some ⟨F,0,none⟩)] 79)) 82 #[.int .i64 dk,.slice G dd.length gc,.int .i64 da,.int .i64 dw,.slice R ds.length rc]
  simpa using h
 have HB1:=Lib.hid hb1
 have HS1:=Lib.hid hS1
 have HD1:=Lib.hid hD1
 go_enter Try.func47,Try.ntmps47
 go_upto_region 2 with (fail)
 rw [← hw1]
 clear hw1 hb1 hS1 hD1
 have hF1:F<w1.heap.size:=Nat.lt_of_lt_of_le hF HB1.out.size
 have g0:=HS1.out.get 0
 have g2:=HD1.out.get 2
 have g3:=HD1.out.get 3
 have g4:=HD1.out.get 4
 have c4:=(HB1.out.cell (p:=⟨F,4,none⟩) hF).trans c4
 simp only [List.getElem?_toArray,List.getElem?_cons_succ,List.getElem?_cons_zero] at g0 g2 g3 g4
 have l0:=HS1.out.lt
 have l1:=HD1.out.lt
 go_cut [12] (fun s12 wx=>s12=.bool false∧Hid (Below w1.heap.size w1 wx))
 case first=>
  go_quiet (fail)
  go_wp2
  go_meet
  exact ⟨rfl,Lib.hid (by repeat (first | (with_reducible first | exact Below.refl _ _ | assumption | refine bset ?_ ?_ _ | refine balloc ?_ _ | refine Below.drew ?_ | refine bdrewN ?_ _ | refine bnext ?_ (by with_reducible assumption)) | exact Nat.le_refl _ | (simp;done) | omega | (simp;omega)))⟩
 case rest=>
  obtain ⟨rfl,HB2⟩:=hcut
  rename World=>w2
  have hb2:Below w.heap.size w w2:=HB1.out.trans (HB2.out.mono HB1.out.size)
  have HB02:=Lib.hid hb2
  have HS2:=Lib.hid (HS1.out.next HB2.out)
  have HD2:=Lib.hid (HD1.out.next HB2.out)
  have g0:=HS2.out.get 0
  have g2:=HD2.out.get 2
  have g3:=HD2.out.get 3
  have g4:=HD2.out.get 4
  simp only [List.getElem?_toArray,List.getElem?_cons_succ,List.getElem?_cons_zero] at g0 g2 g3 g4
  have l0:=HS2.out.lt
  have l1:=HD2.out.lt
  have hF2:F<w2.heap.size:=Nat.lt_of_lt_of_le hF hb2.size
  have HCT:=Lib.hid (send_contains ds s.next R rc w.heap.size F w2 (HR.out.next hb2) (by omega) g0 ((hb2.cell (p:=⟨F,4,none⟩) hF).trans (by have h:=H.out.blk.get 4;simpa using h)) l0 hF2)
  clear hb2 c4
  cases hany:sd.anyB ds s.next with
  | true=>
   have HE:=Lib.hid (sd.heard_odd (s:=s) (d:=⟨dk,dd,da,dw,ds⟩) HN4.out k5 hany)
   rw [hany] at HCT
   clear hany
   go_wp2_with (first
    | (go_at_call 77;((with_reducible refine HCT.out.mono ?_);rintro e w3 ⟨rfl,hb3⟩;have HB3:=Lib.hid hb3;clear hb3))
    | fail)
   go_ret
   exact HNO.out _ HE.out _ (HB02.out.trans (HB3.out.mono HB02.out.size))
  | false=>
   have HE:=Lib.hid (sd.heard_adds (s:=s) (d:=⟨dk,dd,da,dw,ds⟩) HN4.out k5 hany)
   have HOD:=Lib.hid (sd.not_odd hany)
   rw [hany] at HCT
   clear hany
   go_upto_region 8 with (first
    | (go_at_call 77;((with_reducible refine HCT.out.mono ?_);rintro e w3 ⟨rfl,hb3⟩;have HB3:=Lib.hid hb3;clear hb3))
    | fail)
   have hb03:Below w.heap.size w w3:=HB02.out.trans (HB3.out.mono HB02.out.size)
   have HB03:=Lib.hid hb03
   have HS3:=Lib.hid (HS2.out.next HB3.out)
   have HD3:=Lib.hid (HD2.out.next HB3.out)
   have g0:=HS3.out.get 0
   simp only [List.getElem?_toArray,List.getElem?_cons_zero] at g0
   have a3:=(H.out.next hb03).blk.get 3
   have a2:=(H.out.next hb03).blk.get 2
   simp only [List.getElem?_toArray,List.getElem?_cons_succ,List.getElem?_cons_zero] at a2 a3
   have l0:=HS3.out.lt
   have hF3:F<w3.heap.size:=Nat.lt_of_lt_of_le hF hb03.size
   clear hb03 g2 g3 g4 l1 HCT
   go_cut [6,7] (fun s6 s7 wx=>s6=.int .i64 s.done∧s7=.slice M s.more.length mc∧Hid (Below w3.heap.size w3 wx))
   case first=>
    go_quiet (fail)
    go_wp2
    go_meet
    exact ⟨rfl,rfl,Lib.hid (by repeat (first | (with_reducible first | exact Below.refl _ _ | assumption | refine bset ?_ ?_ _ | refine balloc ?_ _ | refine Below.drew ?_ | refine bdrewN ?_ _ | refine bnext ?_ (by with_reducible assumption)) | exact Nat.le_refl _ | (simp;done) | omega | (simp;omega)))⟩
   case rest=>
    obtain ⟨rfl,rfl,HB4⟩:=hcut
    rename World=>w4
    have hb04:Below w.heap.size w w4:=HB03.out.trans (HB4.out.mono HB03.out.size)
    have HB04:=Lib.hid hb04
    have HS4:=Lib.hid (HS3.out.next HB4.out)
    have HD4:=Lib.hid (HD3.out.next HB4.out)
    have g2:=HD4.out.get 2
    have g4:=HD4.out.get 4
    simp only [List.getElem?_toArray,List.getElem?_cons_succ,List.getElem?_cons_zero] at g2 g4
    have l1:=HD4.out.lt
    clear a2 a3 g0 l0 hb04
    have hb41:Below w4.heap.size w4 ((w4.alloc (.cells #[.int .i64 0,.int .i64 da] 78)).alloc (.cells #[.slice (some ⟨w4.heap.size,0,none⟩) 1 1,.slice R ds.length rc] 39)):=balloc (balloc (bself w4) _) _
    have HCC:=Lib.hid (concat2_rng [⟨0,da⟩] ds (some ⟨w4.heap.size,0,none⟩) R 1 rc (w4.heap.size+1) ((w4.alloc (.cells #[.int .i64 0,.int .i64 da] 78)).alloc (.cells #[.slice (some ⟨w4.heap.size,0,none⟩) 1 1,.slice R ds.length rc] 39)) (by simp)
     (by simp)
     (by simp)
     (((Own.flat Rng.cells rfl (fun S a=>Rng.enc _ S a) (by decide) ((Own.lit w4 w4.heap.size 78 2 1 ([(⟨0,da⟩:Rng)].flatMap Rng.cells) (Nat.le_refl _) rfl (by decide)).alloc (.cells #[.slice (some ⟨w4.heap.size,0,none⟩) 1 1,.slice R ds.length rc] 39))).2).within fun k hk=>hk.2)
     ((HR.out.next HB04.out).next hb41) (by simp only [List.length_cons,List.length_nil];omega))
    have hwc:w4.heap.size+1+1=((w4.alloc (.cells #[.int .i64 0,.int .i64 da] 78)).alloc (.cells #[.slice (some ⟨w4.heap.size,0,none⟩) 1 1,.slice R ds.length rc] 39)).heap.size:=by simp
    have HWC:=Lib.hid hwc
    have HB41:=Lib.hid hb41
    clear hwc hb41
    go_wp2_with fail
    refine HCC.out.mono ?_
    rintro e w5 ⟨A5,c5,rfl,hO5,hb5⟩
    have hb45:Below w4.heap.size w4 w5:=bnext HB41.out hb5
    obtain ⟨al,hal⟩:∃ al:List Rng,al=[⟨0,da⟩] ++ ds:=⟨_,rfl⟩
    rw [← hal] at hO5 ⊢
    have HAL:=Lib.hid hal
    have haln:al.length≤4:=by rw [hal,List.length_append,List.length_cons,List.length_nil];omega
    have HBND:Hid (∀ r,r ∈ al→0≤r.lo∧r.lo≤r.hi∧r.hi≤s.next):=Lib.hid (fun r hr=>by
     rw [hal] at hr
     rcases List.mem_append.1 hr with hr | hr
     ·rw [List.mem_singleton] at hr
      subst hr
      simp only
      omega
     ·have:=HOD.out r hr
      unfold sd.odd at this
      omega)
    have hrow5:=((Own.flat Rng.cells rfl (fun S a=>Rng.enc w5 S a) (by decide) hO5).2)
    have HROW:=Lib.hid (hrow5.within (S':=(· < w5.heap.size)) fun k hk=>hk.2)
    have HB45:=Lib.hid hb45
    have HADD:Hid (sd.heard s ⟨dk,dd,da,dw,ds⟩=sd.heardOf s (da+dw) (sd.adds s.done s.more al)):=Lib.hid (by rw [HE.out,hal];rfl)
    clear hal hO5 hb5 hrow5 HCC HE HOD hb45 HWC HB41
    go_wp2
    go_loopw [6,7,62] (fun s6 s7 i wr=>∃ (k:Nat) (d1:Int) (m1:List Rng) (M1:Option Addr) (mc1:Nat),k≤al.length∧i=.int .i64 k∧s6=.int .i64 d1∧s7=.slice M1 m1.length mc1∧Hid (AddsAt w5 wr s.next s.done s.more al k d1 m1 M1 mc1)∧Hid (SlRep Rng.rep wr (rv.InM wr B F D) m1 M1 mc1∧∀ q,m1≠[]→blkOf M1=some q→(s.more≠[]∧blkOf M=some q)∨w.heap.size≤q)) (fun _ _ i _=>al.length - (intOf i).toNat)
    case atStart=>exact ⟨0,s.done,s.more,M,mc,by omega,rfl,rfl,rfl,Lib.hid ⟨bself _,by rw [List.drop_zero],⟨hlo.1,hlo.2.1⟩,HI.out.canon,HI.out.hi,hfew,((H.out.next HB04.out).next HB45.out).moreLt⟩,Lib.hid ⟨((H.out.next HB04.out).next HB45.out).more,fun q h1 h2=>.inl ⟨h1,h2⟩⟩⟩
    case round=>
     obtain ⟨k,d1,m1,M1,mc1,hk,rfl,rfl,rfl,HA,HX⟩:=hrel
     rename World=>wr
     by_cases hlt:k<al.length
     ·obtain ⟨g,o,rfl,hg,e0,e1⟩:=Rng.cells_at Rng.z (HROW.out.below HA.out.low) hlt
      have hlt':(k:Int)<(al.length:Int):=by omega
      have hgr:g<wr.heap.size:=Nat.lt_of_lt_of_le hg HA.out.low.size
      have hrb:=HBND.out (al.getD k Rng.z) (by rw [List.getD_eq_getElem?_getD,List.getElem?_eq_getElem hlt];exact List.getElem_mem hlt)
      have HDR:Hid (al.drop k=al.getD k Rng.z :: al.drop (k+1)):=Lib.hid (by rw [drop_getD al Rng.z hlt])
      generalize al.getD k Rng.z=r at *
      have hrg:=HA.out.rng
      have hmay:HoleMay d1 m1:=rv.may_of HA.out.canon hrg.1 (by omega) HA.out.few (fun q hq=>by have:=HA.out.hi q hq;omega)
      have HADR:=Lib.hid (hole_Add_res d1 m1 r M1 mc1 (wr.alloc (.cells #[.int .i64 r.lo,.int .i64 r.hi] 78)) (HA.out.row.next (balloc (bself wr) _)) (by have:=HA.out.few;omega))
      rw [sd.ans_of hmay hrb.1 hrb.2.1 (by omega)] at HADR
      have HONE:=Lib.hid (sd.add_one hrg.1 hrg.2 HA.out.canon HA.out.hi hrb)
      have hsm:w5.heap.size≤wr.heap.size:=HA.out.low.size
      by_cases hfull:16<(had.addTo d1 m1 r).2.length
      ·have HR9:Hid (sd.heard s ⟨dk,dd,da,dw,ds⟩=(9,s)):=Lib.hid (by
        rw [HADD.out,← HA.out.same,HDR.out,sd.adds,if_pos hfull]
        rfl)
       rw [if_pos hfull] at HADR
       clear hfull hmay HONE HX
       go_wp2_with (first
        | (go_at_call 71;((with_reducible refine HADR.out.mono ?_);rintro e w6 ⟨A6,c6,rfl,hm6,hb6⟩;have HB6:=Lib.hid hb6;clear hm6 hb6))
        | fail)
       go_ret
       exact HNO.out _ HR9.out _ ((HB04.out.trans (HB45.out.mono HB04.out.size)).trans ((HA.out.low.trans ((balloc (bself wr) _).trans (HB6.out.mono (by simp)) |>.mono hsm)).mono (Nat.le_trans HB04.out.size HB45.out.size)))
      ·have HSM:Hid (sd.adds (had.addTo d1 m1 r).1 (had.addTo d1 m1 r).2 (al.drop (k+1))=sd.adds s.done s.more al):=Lib.hid (by
        rw [← HA.out.same,HDR.out,sd.adds,if_neg hfull])
       have HF16:Hid ((had.addTo d1 m1 r).2.length≤16):=Lib.hid (by omega)
       rw [if_neg hfull] at HADR
       generalize (had.addTo d1 m1 r).1=d2 at *
       generalize (had.addTo d1 m1 r).2=m2 at *
       clear hfull hmay HX
       go_wp2_with (first
        | (go_at_call 71;((with_reducible refine HADR.out.mono ?_);rintro e w6 ⟨A6,c6,rfl,hm6,hb6⟩;have HM6:=Lib.hid hm6;have HB6:=Lib.hid hb6;clear hm6 hb6))
        | fail)
       go_roundw
       case rel=>
        have hb:Below wr.heap.size wr w6:=bnext (balloc (bself wr) _) HB6.out
        refine ⟨k+1,d2,m2,A6,c6,by omega,by go_num,rfl,rfl,Lib.hid ⟨HA.out.low.trans (hb.mono hsm),HSM.out,⟨HONE.out.lo.1,HONE.out.lo.2.2⟩,HONE.out.canon,HONE.out.hi,HF16.out,HM6.out.within fun _ hk=>hk.2⟩,Lib.hid ⟨HM6.out.within fun q hq=>?_,fun q h1 h2=>?_⟩⟩
        ·have h3:=hq.1
         simp only [World.size_alloc] at h3
         have h4:=HB04.out.size
         have h5:=HB45.out.size
         have h6:=H.out.lo
         exact ⟨by omega,hq.2,by omega,fun e=>by have:=(H.out.data.lt q e).2;omega⟩
        ·rcases HM6.out.blk with e | ⟨q',hq,hq2⟩
         ·exact absurd e h1
         ·rw [hq] at h2
          cases h2
          have h3:=hq2.1
          simp only [World.size_alloc] at h3
          have h4:=HB04.out.size
          have h5:=HB45.out.size
          exact .inr (by omega)
       case measure=>simp [intOf];omega
     ·obtain rfl:k=al.length:=by omega
      have hb5r:Below w5.heap.size w5 wr:=HA.out.low
      have hb0r:Below w.heap.size w wr:=(HB04.out.trans (HB45.out.mono HB04.out.size)).trans (hb5r.mono (Nat.le_trans HB04.out.size HB45.out.size))
      have HB0R:=Lib.hid hb0r
      have HSR:=Lib.hid ((HS4.out.next HB45.out).next hb5r)
      have HDR:=Lib.hid ((HD4.out.next HB45.out).next hb5r)
      have HHR:=Lib.hid (H.out.next hb0r)
      have HRES:Hid (sd.heard s ⟨dk,dd,da,dw,ds⟩=(0,{ s with done:=d1,more:=m1,edge:=max s.edge (da+dw) })):=Lib.hid (by
       have h:=HA.out.same
       rw [List.drop_length,sd.adds] at h
       rw [HADD.out,← h]
       rfl)
      have g0:=HSR.out.get 0
      simp only [List.getElem?_toArray,List.getElem?_cons_zero] at g0
      have a2:=HHR.out.blk.get 2
      have a3:=HHR.out.blk.get 3
      have f2:=HHR.out.blk.frozen 2
      have f3:=HHR.out.blk.frozen 3
      simp only [List.getElem?_toArray,List.getElem?_cons_succ,List.getElem?_cons_zero] at a2 a3
      have hFr:=HHR.out.blk.lt
      have l0:=HSR.out.lt
      have l1:=HDR.out.lt
      have n1:F≠w.heap.size:=by omega
      have n2:w.heap.size≠F:=by omega
      have n3:F≠w.heap.size+1:=by omega
      have n4:w.heap.size+1≠F:=by omega
      clear hb5r hb0r g2 g4
      go_upto_region 17 with (fail)
      go_cut [] (fun wx=>Hid (SAt wx B F { s with done:=d1,more:=m1 } D dc M1 mc1∧Stays wr wx (fun q=>q=F)))
      case first=>
       go_region_held3 (fun w'=>w'.cell? ⟨w.heap.size,0,none⟩=some (.pointer (some ⟨F,0,none⟩))) ((first | (go_keep;done) | (simp [go_sem, *];done) | fail)) (fail)
       all_goals
        (try go_wp2)
        go_meet
        exact Lib.hid ⟨((HHR.out.putDone d1).putMore (HHR.out.rowKeep 2 (.int .i64 d1) HX.out.1)).next (Below.drew (bself _)),((Stays.set _ _ _ _).comp (Stays.set _ _ _ _)).comp (Stays.of_below (Below.drew (bself _)) _)⟩
      case rest=>
       rename World=>w6
       have HA6:=Lib.hid hcut.out.1
       have HT6:=Lib.hid hcut.out.2
       have b0:=(HSR.out.stays HT6.out (fun e=>n2 e)).get 0
       have hd6:=HDR.out.stays HT6.out (fun e=>n4 e)
       have g2:=hd6.get 2
       have g3:=hd6.get 3
       have b6:=HA6.out.blk.get 6
       have f6:=HA6.out.blk.frozen 6
       simp only [List.getElem?_toArray,List.getElem?_cons_succ,List.getElem?_cons_zero] at b0 g2 g3 b6
       have hFx:=HA6.out.blk.lt
       have hnm:=HX.out.2
       have HNM:=Lib.hid hnm
       have HEND:Hid (∀ wx v,wx=w6.setCell ⟨F,6,none⟩ (.int .i64 v)→v=max s.edge (da+dw)→∀ wy,Below wx.heap.size wx wy→SndRes w B F s.more (sd.heard s ⟨dk,dd,da,dw,ds⟩) D M (.returned (.int .i64 0)) wy):=Lib.hid (fun wx v hw hv wy hb=>by
        rw [HRES.out,← hv]
        refine ⟨D,dc,M1,mc1,rfl,?_,?_,fun q hq=>?_⟩
        ·have h:=HA6.out.putEdge v
         rw [← hw] at h
         exact h.next hb
        ·have st:Stays w6 wx (fun q=>q=F):=by rw [hw];exact Stays.set _ _ _ _
         exact (((Stays.of_below HB0R.out (fun q=>q=F)).comp HT6.out).comp (st.comp (Stays.of_below hb _))).mono fun q _ e=>.inl e
        ·rcases hq with e | e | ⟨e1,e2⟩
         ·exact .inl (.inl e)
         ·exact .inl (.inr (.inl e))
         ·exact (HNM.out q e1 e2).imp (fun e=>.inr (.inr e)) id)
       clear hcut hnm hd6 g0 a2 a3 f2 f3 HX HRES HA
       by_cases hmx:s.edge<da+dw
       ·have HV:Hid (da+dw=max s.edge (da+dw)):=Lib.hid (by omega)
        go_upto_region 18 with (fail)
        have e1:IntKind.i64.wrap (da+dw)=da+dw:=IntWalk.i64_in _ (by omega)
        refine wp_region_tail [13] (fun wx=>wx.cell? ⟨w.heap.size,0,none⟩=some (.pointer (some ⟨F,0,none⟩))∧wx.cell? ⟨F,6,none⟩=some (.int .i64 s.edge)∧wx.cell? ⟨w.heap.size+1,2,none⟩=some (.int .i64 da)∧wx.cell? ⟨w.heap.size+1,3,none⟩=some (.int .i64 dw)) (by kernel_rfl) (⟨b0,b6,g2,g3⟩) ?_
        intro hHeld
        refine zT 0 [11,12,13] (v:=?_) ?_ hHeld ?_
        rotate_left
        ·intro w9 hS9;(try dsimp only at hS9);obtain ⟨q1,q2,q3,q4⟩:=hS9;go_simp;try with_reducible rfl
        try simp only [Act.put,zA,zB,zC,zD,zE,zF]
        refine zT 1 [2,3,4,10,13] (v:=?_) ?_ hHeld ?_
        rotate_left
        ·intro w9 hS9;(try dsimp only at hS9);obtain ⟨q1,q2,q3,q4⟩:=hS9;go_simp;try with_reducible rfl
        try simp only [Act.put,zA,zB,zC,zD,zE,zF]
        refine zP 2 (v:=?_) ?_ (fun _=>hHeld) ?_
        rotate_left
        ·intro w9;go_simp;try with_reducible rfl
        try simp only [Act.put,zA,zB,zC,zD,zE,zF]
        refine zP 3 (v:=?_) ?_ (fun _=>hHeld) ?_
        rotate_left
        ·intro w9;go_simp;try with_reducible rfl
        try simp only [Act.put,zA,zB,zC,zD,zE,zF]
        refine zT 4 [10,13] (v:=?_) ?_ hHeld ?_
        rotate_left
        ·intro w9 hS9;(try dsimp only at hS9);obtain ⟨q1,q2,q3,q4⟩:=hS9;go_simp;try with_reducible rfl
        try simp only [Act.put,zA,zB,zC,zD,zE,zF]
        refine zP 5 (v:=?_) ?_ (fun _=>hHeld) ?_
        rotate_left
        ·intro w9;go_simp;try with_reducible rfl
        try simp only [Act.put,zA,zB,zC,zD,zE,zF]
        refine zT 6 [9,10,13] (v:=?_) ?_ hHeld ?_
        rotate_left
        ·intro w9 hS9;(try dsimp only at hS9);obtain ⟨q1,q2,q3,q4⟩:=hS9;go_simp;try with_reducible rfl
        try simp only [Act.put,zA,zB,zC,zD,zE,zF]
        refine zP 7 (v:=?_) ?_ (fun _=>hHeld) ?_
        rotate_left
        ·intro w9;go_simp;try with_reducible rfl
        try simp only [Act.put,zA,zB,zC,zD,zE,zF]
        refine zT 8 [9,10,13] (v:=?_) ?_ hHeld ?_
        rotate_left
        ·intro w9 hS9;(try dsimp only at hS9);obtain ⟨q1,q2,q3,q4⟩:=hS9;go_simp;try with_reducible rfl
        try simp only [Act.put,zA,zB,zC,zD,zE,zF]
        refine zP 9 (v:=?_) ?_ (fun _=>hHeld) ?_
        rotate_left
        ·intro w9;go_simp;try with_reducible rfl
        try simp only [Act.put,zA,zB,zC,zD,zE,zF]
        refine zP 10 (v:=?_) ?_ (fun _=>hHeld) ?_
        rotate_left
        ·intro w9;go_simp;try with_reducible rfl
        try simp only [Act.put,zA,zB,zC,zD,zE,zF]
        refine zP 11 (v:=?_) ?_ (fun _=>hHeld) ?_
        rotate_left
        ·intro w9;go_simp;try with_reducible rfl
        try simp only [Act.put,zA,zB,zC,zD,zE,zF]
        refine zP 12 (v:=?_) ?_ (fun _=>hHeld) ?_
        rotate_left
        ·intro w9;go_simp;try with_reducible rfl
        try simp only [Act.put,zA,zB,zC,zD,zE,zF]
        refine wpAnyT_next (i:=13) (by kernel_rfl) rfl ?_
        intro K hK
        go_simp
        refine hK.out _ _ (zN (by kernel_rfl)) ?_
        clear hK K
        refine wpAnyT_done (by kernel_rfl) ?_ _
        clear e1
        go_wp2
        go_ret
        exact HEND.out _ _ rfl HV.out _ (by first | exact Below.drew (bself _) | exact bself _)
       ·have HV:Hid (s.edge=max s.edge (da+dw)):=Lib.hid (by omega)
        go_upto_region 18 with (fail)
        have e1:IntKind.i64.wrap (da+dw)=da+dw:=IntWalk.i64_in _ (by omega)
        refine wp_region_tail [13] (fun wx=>wx.cell? ⟨w.heap.size,0,none⟩=some (.pointer (some ⟨F,0,none⟩))∧wx.cell? ⟨F,6,none⟩=some (.int .i64 s.edge)∧wx.cell? ⟨w.heap.size+1,2,none⟩=some (.int .i64 da)∧wx.cell? ⟨w.heap.size+1,3,none⟩=some (.int .i64 dw)) (by kernel_rfl) (⟨b0,b6,g2,g3⟩) ?_
        intro hHeld
        refine zT 0 [11,12,13] (v:=?_) ?_ hHeld ?_
        rotate_left
        ·intro w9 hS9;(try dsimp only at hS9);obtain ⟨q1,q2,q3,q4⟩:=hS9;go_simp;try with_reducible rfl
        try simp only [Act.put,zA,zB,zC,zD,zE,zF]
        refine zT 1 [2,3,4,10,13] (v:=?_) ?_ hHeld ?_
        rotate_left
        ·intro w9 hS9;(try dsimp only at hS9);obtain ⟨q1,q2,q3,q4⟩:=hS9;go_simp;try with_reducible rfl
        try simp only [Act.put,zA,zB,zC,zD,zE,zF]
        refine zP 2 (v:=?_) ?_ (fun _=>hHeld) ?_
        rotate_left
        ·intro w9;go_simp;try with_reducible rfl
        try simp only [Act.put,zA,zB,zC,zD,zE,zF]
        refine zP 3 (v:=?_) ?_ (fun _=>hHeld) ?_
        rotate_left
        ·intro w9;go_simp;try with_reducible rfl
        try simp only [Act.put,zA,zB,zC,zD,zE,zF]
        refine zT 4 [10,13] (v:=?_) ?_ hHeld ?_
        rotate_left
        ·intro w9 hS9;(try dsimp only at hS9);obtain ⟨q1,q2,q3,q4⟩:=hS9;go_simp;try with_reducible rfl
        try simp only [Act.put,zA,zB,zC,zD,zE,zF]
        refine zP 5 (v:=?_) ?_ (fun _=>hHeld) ?_
        rotate_left
        ·intro w9;go_simp;try with_reducible rfl
        try simp only [Act.put,zA,zB,zC,zD,zE,zF]
        refine zT 6 [9,10,13] (v:=?_) ?_ hHeld ?_
        rotate_left
        ·intro w9 hS9;(try dsimp only at hS9);obtain ⟨q1,q2,q3,q4⟩:=hS9;go_simp;try with_reducible rfl
        try simp only [Act.put,zA,zB,zC,zD,zE,zF]
        refine zP 7 (v:=?_) ?_ (fun _=>hHeld) ?_
        rotate_left
        ·intro w9;go_simp;try with_reducible rfl
        try simp only [Act.put,zA,zB,zC,zD,zE,zF]
        refine zT 8 [9,10,13] (v:=?_) ?_ hHeld ?_
        rotate_left
        ·intro w9 hS9;(try dsimp only at hS9);obtain ⟨q1,q2,q3,q4⟩:=hS9;go_simp;try with_reducible rfl
        try simp only [Act.put,zA,zB,zC,zD,zE,zF]
        refine zP 9 (v:=?_) ?_ (fun _=>hHeld) ?_
        rotate_left
        ·intro w9;go_simp;try with_reducible rfl
        try simp only [Act.put,zA,zB,zC,zD,zE,zF]
        refine zP 10 (v:=?_) ?_ (fun _=>hHeld) ?_
        rotate_left
        ·intro w9;go_simp;try with_reducible rfl
        try simp only [Act.put,zA,zB,zC,zD,zE,zF]
        refine zP 11 (v:=?_) ?_ (fun _=>hHeld) ?_
        rotate_left
        ·intro w9;go_simp;try with_reducible rfl
        try simp only [Act.put,zA,zB,zC,zD,zE,zF]
        refine zP 12 (v:=?_) ?_ (fun _=>hHeld) ?_
        rotate_left
        ·intro w9;go_simp;try with_reducible rfl
        try simp only [Act.put,zA,zB,zC,zD,zE,zF]
        refine wpAnyT_next (i:=13) (by kernel_rfl) rfl ?_
        intro K hK
        go_simp
        refine hK.out _ _ (zN (by kernel_rfl)) ?_
        clear hK K
        refine wpAnyT_done (by kernel_rfl) ?_ _
        clear e1
        go_wp2
        go_ret
        exact HEND.out _ _ rfl HV.out _ (by first | exact Below.drew (bself _) | exact bself _)
end Go.Proofs.Ytdldfllllgogoaa
namespace Go.Proofs.Ytdldfllllgogoaa
open Go.RowKit
set_option linter.unusedSimpArgs false
def PieceRes (w:World) (p:Sent) (e:Ending) (w':World):Prop:=
 ∃ E ec,e=.returned (.agg #[.int .i64 0,.int .i64 p.from_,.slice E p.data.length ec,.bool p.fin,.bool false,.bool false,.int .i64 0])∧Own w' w.heap.size 5 1 E p.data.length ec (p.data.map rv.u8v)∧Below w.heap.size w w'
theorem BlkA.seven {w:World} {F:Nat} {T:TypeId} {a0 a1 a2 a3 a4 a5 a6:Value} (h:BlkA w F T #[a0,a1,a2,a3,a4,a5,a6]) (v0 v1 v2 v3 v4 v5 v6:Value):BlkA (((((((w.setCell ⟨F,0,none⟩ v0).setCell ⟨F,1,none⟩ v1).setCell ⟨F,2,none⟩ v2).setCell ⟨F,3,none⟩ v3).setCell ⟨F,4,none⟩ v4).setCell ⟨F,5,none⟩ v5).setCell ⟨F,6,none⟩ v6) F T #[v0,v1,v2,v3,v4,v5,v6]:=by
 have h:=((((((h.set 0 v0).set 1 v1).set 2 v2).set 3 v3).set 4 v4).set 5 v5).set 6 v6
 simpa using h
theorem Stays.seven (w:World) (F:Nat) (v0 v1 v2 v3 v4 v5 v6:Value):Stays w (((((((w.setCell ⟨F,0,none⟩ v0).setCell ⟨F,1,none⟩ v1).setCell ⟨F,2,none⟩ v2).setCell ⟨F,3,none⟩ v3).setCell ⟨F,4,none⟩ v4).setCell ⟨F,5,none⟩ v5).setCell ⟨F,6,none⟩ v6) (fun k=>k=F):=
 (((((((Stays.set _ _ _ _).comp (Stays.set _ _ _ _)).comp (Stays.set _ _ _ _)).comp (Stays.set _ _ _ _)).comp (Stays.set _ _ _ _)).comp (Stays.set _ _ _ _)).comp (Stays.set _ _ _ _))
set_option maxRecDepth 100000 in
set_option maxHeartbeats 2000000 in
theorem send_piece (B F:Nat) (s:sd.St) (D:Option Addr) (dc:Nat) (M:Option Addr) (mc:Nat) (f t:Int) (w:World) (h:SAt w B F s D dc M mc) (hi:sd.Inv s) (hf:0≤f) (hft:f<t) (hl:f≤s.data.length) (ht:t≤s.data.length+1) :
  Calls Try.prog 81 #[.pointer (some ⟨F,0,none⟩),.int .i64 f,.int .i64 t] w (PieceRes w (sd.piece s f t)):=by
 have hF:=h.blk.lt
 have d0:=h.blk.get 0
 simp only [List.getElem?_toArray,List.getElem?_cons_zero] at d0
 have hsz:=hi.size
 have hDc:s.data.length≤dc:=h.data.cap.1
 obtain ⟨n,hn⟩:∃ n,n=min (min t s.data.length) (f+64):=⟨_,rfl⟩
 obtain ⟨fn,rfl⟩:∃ fn:Nat,f=(fn:Int):=⟨f.toNat,by omega⟩
 obtain ⟨m,hm⟩:∃ m:Nat,n=(fn:Int)+(m:Int):=⟨(n - fn).toNat,by omega⟩
 have htn:fn+m≤s.data.length:=by omega
 have hm64:m≤64:=by omega
 have hsl:SlRep Rep.u8 w (fun k=>B≤k∧k<w.heap.size) ((s.data.drop fn).take m) (cutA D dc fn 1) (dc - fn):=(Own.u8 h.data).2.cut htn
 have hpl:((s.data.drop fn).take m).length=m:=by rw [List.length_take,List.length_drop];omega
 have HCL:=Lib.hid (fun wz (hb:Below w.heap.size w wz)=>clone_u8 m (cutA D dc fn 1) (dc - fn) (((s.data.drop fn).take m).map rv.u8v) wz (by rw [List.length_map];exact hpl) (fun w' hb'=>SlRep.cells_u8 (hsl.keep fun k hk=>⟨hk,(hb'.block k (Nat.lt_of_lt_of_le hk.2 hb.size)).trans (hb.block k hk.2)⟩)) (oneCell_u8 _) (by omega))
 have c1:=fun W=>run_cut_lh elemU8 D s.data.length dc fn m (by omega) (fn:Int) n rfl hm W
 have HPC:Hid (sd.piece s fn t=⟨0,fn,(s.data.drop fn).take m,decide (n=s.data.length∧n<t),false,false,0⟩):=Lib.hid (by
  unfold sd.piece
  simp only
  rw [← hn,Int.toNat_natCast,show (n - (fn:Int)).toNat=m by omega])
 have HPL:=Lib.hid hpl
 generalize (s.data.drop fn).take m=xs at *
 generalize hdl:s.data.length=dl at *
 have HN:=Lib.hid hn
 have hnb:0≤n∧n≤1048576∧n≤dl∧n≤t:=by omega
 have htb:t≤1048576:=by omega
 have hE:∀ (b:Bool),b=decide (n=dl∧n<t)→∀ (E:Option Addr) (ec:Nat) wx,Own wx w.heap.size 5 1 E m ec (xs.map rv.u8v)→Below w.heap.size w wx→PieceRes w (sd.piece s fn t) (.returned (.agg #[.int .i64 0,.int .i64 fn,.slice E m ec,.bool b,.bool false,.bool false,.int .i64 0])) wx:=fun b hb E ec wx ho hw=>by
  rw [HPC.out,hb]
  exact ⟨E,ec,by rw [HPL.out],by rw [HPL.out];exact ho,hw⟩
 have HEND:=Lib.hid hE
 clear h hi hE hsl hpl hm hn hDc hdl
 go_enter Try.func81,Try.ntmps81
 go_upto_region 1 with (fail)
 go_cut [7] (fun s7 wx=>s7=.int .i64 n∧Hid (Below w.heap.size w wx∧BlkA wx w.heap.size 49 #[.int .i64 0,.int .i64 0,.slice none 0 0,.bool false,.bool false,.bool false,.int .i64 0]))
 case first=>
  go_wp2
  all_goals
   go_meet
   refine ⟨?_,Lib.hid ⟨(by repeat (first | (with_reducible first | exact Below.refl _ _ | assumption | refine bset ?_ ?_ _ | refine balloc ?_ _ | refine Below.drew ?_ | refine bdrewN ?_ _ | refine bnext ?_ (by with_reducible assumption)) | exact Nat.le_refl _ | (simp;done) | omega | (simp;omega))),BlkA.new w _ _⟩⟩
   rw [HN.out];congr 1;omega
 case rest=>
  obtain ⟨rfl,HB1⟩:=hcut
  rename World=>w1
  have d0:=(HB1.out.1.cell (p:=⟨F,0,none⟩) hF).trans d0
  have hF1:F<w1.heap.size:=Nat.lt_of_lt_of_le hF HB1.out.1.size
  have hb1:Below w.heap.size w w1:=HB1.out.1
  have hz1:=HB1.out.2.lt
  by_cases k1:n=(dl:Int)
  ·have k1b:(n == (dl:Int))=true:=by simpa using k1
   by_cases k2:n<t
   ·have k3:decide (n=dl∧n<t)=true:=by simpa using ⟨k1,k2⟩
    have HK:=Lib.hid k3
    have k2':decide (n<t)=true:=by simpa using k2
    have k2'':t > n:=k2
    clear k1 k3
    go_upto_region 2 with (fail)
    refine wp_region_tail [22] (fun wx=>wx.cell? ⟨F,0,none⟩=some (.slice D dl dc)) (by kernel_rfl) (d0) ?_
    intro hHeld
    refine zP 0 (v:=?_) ?_ (fun _=>hHeld) ?_
    rotate_left
    ·intro w9;go_simp;try with_reducible rfl
    try simp only [Act.put,List.setIfInBounds_toArray,List.set_cons_zero,List.set_cons_succ]
    refine zP 1 (v:=?_) ?_ (fun _=>hHeld) ?_
    rotate_left
    ·intro w9;go_simp;try with_reducible rfl
    try simp only [Act.put,List.setIfInBounds_toArray,List.set_cons_zero,List.set_cons_succ]
    refine zP 2 (v:=?_) ?_ (fun _=>hHeld) ?_
    rotate_left
    ·intro w9;go_simp;try with_reducible rfl
    try simp only [Act.put,List.setIfInBounds_toArray,List.set_cons_zero,List.set_cons_succ]
    refine zP 3 (v:=?_) ?_ (fun _=>hHeld) ?_
    rotate_left
    ·intro w9;go_simp;try with_reducible rfl
    try simp only [Act.put,List.setIfInBounds_toArray,List.set_cons_zero,List.set_cons_succ]
    refine zT 4 [7,8,21,22] (v:=?_) ?_ hHeld ?_
    rotate_left
    ·intro w9 hS9;(try dsimp only at hS9);go_simp;try with_reducible rfl
    try simp only [Act.put,List.setIfInBounds_toArray,List.set_cons_zero,List.set_cons_succ]
    refine zP 5 (v:=?_) ?_ (fun _=>hHeld) ?_
    rotate_left
    ·intro w9;go_simp;try with_reducible rfl
    try simp only [Act.put,List.setIfInBounds_toArray,List.set_cons_zero,List.set_cons_succ]
    refine zP 6 (v:=?_) ?_ (fun _=>hHeld) ?_
    rotate_left
    ·intro w9;go_simp;try with_reducible rfl
    try simp only [Act.put,List.setIfInBounds_toArray,List.set_cons_zero,List.set_cons_succ]
    refine zP 7 (v:=?_) ?_ (fun _=>hHeld) ?_
    rotate_left
    ·intro w9;go_simp;try with_reducible rfl
    try simp only [Act.put,List.setIfInBounds_toArray,List.set_cons_zero,List.set_cons_succ]
    refine zP 9 (v:=?_) ?_ (fun _=>hHeld) ?_
    rotate_left
    ·intro w9;go_simp;try with_reducible rfl
    try simp only [Act.put,List.setIfInBounds_toArray,List.set_cons_zero,List.set_cons_succ]
    refine zP 10 (v:=?_) ?_ (fun _=>hHeld) ?_
    rotate_left
    ·intro w9;go_simp;try with_reducible rfl
    try simp only [Act.put,List.setIfInBounds_toArray,List.set_cons_zero,List.set_cons_succ]
    refine zP 11 (v:=?_) ?_ (fun _=>hHeld) ?_
    rotate_left
    ·intro w9;go_simp;try with_reducible rfl
    try simp only [Act.put,List.setIfInBounds_toArray,List.set_cons_zero,List.set_cons_succ]
    refine zP 12 (v:=?_) ?_ (fun _=>hHeld) ?_
    rotate_left
    ·intro w9;go_simp;try with_reducible rfl
    try simp only [Act.put,List.setIfInBounds_toArray,List.set_cons_zero,List.set_cons_succ]
    refine zT 13 [14,15,16,20,21,22] (v:=?_) ?_ hHeld ?_
    rotate_left
    ·intro w9 hS9;(try dsimp only at hS9);go_simp;try with_reducible rfl
    try simp only [Act.put,List.setIfInBounds_toArray,List.set_cons_zero,List.set_cons_succ]
    refine zP 14 (v:=?_) ?_ (fun _=>hHeld) ?_
    rotate_left
    ·intro w9;go_simp;try with_reducible rfl
    try simp only [Act.put,List.setIfInBounds_toArray,List.set_cons_zero,List.set_cons_succ]
    refine zP 15 (v:=?_) ?_ (fun _=>hHeld) ?_
    rotate_left
    ·intro w9;go_simp;try with_reducible rfl
    try simp only [Act.put,List.setIfInBounds_toArray,List.set_cons_zero,List.set_cons_succ]
    refine wpAnyT_next (i:=8) (by kernel_rfl) rfl ?_
    intro K hK
    go_simp
    go_at_call 36
    refine (HCL.out _ (by exact (by repeat (first | (with_reducible first | exact Below.refl _ _ | assumption | refine bset ?_ ?_ _ | refine balloc ?_ _ | refine Below.drew ?_ | refine bdrewN ?_ _ | refine bnext ?_ (by with_reducible assumption)) | exact Nat.le_refl _ | (simp;done) | omega | (simp;omega))))).mono ?_
    rintro e w4 ⟨E,ec,rfl,hE,hb4⟩
    have B4:Below w1.heap.size w1 w4:=(by repeat (first | (with_reducible first | exact Below.refl _ _ | assumption | refine bset ?_ ?_ _ | refine balloc ?_ _ | refine Below.drew ?_ | refine bdrewN ?_ _ | refine bnext ?_ (by with_reducible assumption)) | exact Nat.le_refl _ | (simp;done) | omega | (simp;omega)))
    have HE:=Lib.hid (hE.base_le (b':=w1.heap.size) (by first | (simp;done) | exact Nat.le_refl _))
    clear hE hb4
    have b4:=HB1.out.2.next B4
    have tc:=b4.get
    have tf:=b4.frozen
    have HB4:=Lib.hid b4
    clear b4
    go_simp
    have hHeld2:=(B4.cell (p:=⟨F,0,none⟩) hF1).trans d0
    refine hK.out _ _ (fun _=>hHeld2) ?_
    clear hK K hHeld
    have hHeld:=hHeld2
    clear hHeld2
    try simp only [Act.put,List.setIfInBounds_toArray,List.set_cons_zero,List.set_cons_succ]
    refine zP 16 (v:=?_) ?_ (fun _=>hHeld) ?_
    rotate_left
    ·intro w9;go_simp;try with_reducible rfl
    try simp only [Act.put,List.setIfInBounds_toArray,List.set_cons_zero,List.set_cons_succ]
    refine zP 17 (v:=?_) ?_ (fun _=>hHeld) ?_
    rotate_left
    ·intro w9;go_simp;try with_reducible rfl
    try simp only [Act.put,List.setIfInBounds_toArray,List.set_cons_zero,List.set_cons_succ]
    refine zP 18 (v:=?_) ?_ (fun _=>hHeld) ?_
    rotate_left
    ·intro w9;go_simp;try with_reducible rfl
    try simp only [Act.put,List.setIfInBounds_toArray,List.set_cons_zero,List.set_cons_succ]
    refine zP 19 (v:=?_) ?_ (fun _=>hHeld) ?_
    rotate_left
    ·intro w9;go_simp;try with_reducible rfl
    try simp only [Act.put,List.setIfInBounds_toArray,List.set_cons_zero,List.set_cons_succ]
    refine zP 20 (v:=?_) ?_ (fun _=>hHeld) ?_
    rotate_left
    ·intro w9;go_simp;try with_reducible rfl
    try simp only [Act.put,List.setIfInBounds_toArray,List.set_cons_zero,List.set_cons_succ]
    refine zP 21 (v:=?_) ?_ (fun _=>hHeld) ?_
    rotate_left
    ·intro w9;go_simp;try with_reducible rfl
    try simp only [Act.put,List.setIfInBounds_toArray,List.set_cons_zero,List.set_cons_succ]
    refine wpAnyT_next (i:=22) (by kernel_rfl) rfl ?_
    intro K hK
    go_simp
    refine hK.out _ _ (zN (by kernel_rfl)) ?_
    clear hK K
    refine wpAnyT_done (by kernel_rfl) ?_ _
    (try go_wp2)
    refine bodyPost_ret (v:=.agg #[.int .i64 0,.int .i64 fn,.slice E m ec,.bool true,.bool false,.bool false,.int .i64 0]) (by simp [results,Try.results81,go_sem, *]) rfl (HEND.out true HK.out.symm E ec _ ?_ ?_)
    ·exact (HE.out.base_le hb1.size).stays (Stays.seven _ _ _ _ _ _ _ _ _) (fun k hk e=>by have:=(HE.out.lt k hk).1;omega)
    ·exact (hb1.trans (B4.mono hb1.size)).trans ((Stays.seven _ _ _ _ _ _ _ _ _).below (Nat.le_trans hb1.size B4.size) (fun k hk=>Nat.le_of_eq hk.symm))
   ·have k3:decide (n=dl∧n<t)=false:=by simp [k2]
    have HK:=Lib.hid k3
    have k2':decide (n<t)=false:=by simpa using k2
    clear k1 k2 k3
    go_upto_region 2 with (fail)
    refine wp_region_tail [22] (fun wx=>wx.cell? ⟨F,0,none⟩=some (.slice D dl dc)) (by kernel_rfl) (d0) ?_
    intro hHeld
    refine zP 0 (v:=?_) ?_ (fun _=>hHeld) ?_
    rotate_left
    ·intro w9;go_simp;try with_reducible rfl
    try simp only [Act.put,List.setIfInBounds_toArray,List.set_cons_zero,List.set_cons_succ]
    refine zP 1 (v:=?_) ?_ (fun _=>hHeld) ?_
    rotate_left
    ·intro w9;go_simp;try with_reducible rfl
    try simp only [Act.put,List.setIfInBounds_toArray,List.set_cons_zero,List.set_cons_succ]
    refine zP 2 (v:=?_) ?_ (fun _=>hHeld) ?_
    rotate_left
    ·intro w9;go_simp;try with_reducible rfl
    try simp only [Act.put,List.setIfInBounds_toArray,List.set_cons_zero,List.set_cons_succ]
    refine zP 3 (v:=?_) ?_ (fun _=>hHeld) ?_
    rotate_left
    ·intro w9;go_simp;try with_reducible rfl
    try simp only [Act.put,List.setIfInBounds_toArray,List.set_cons_zero,List.set_cons_succ]
    refine zT 4 [7,8,21,22] (v:=?_) ?_ hHeld ?_
    rotate_left
    ·intro w9 hS9;(try dsimp only at hS9);go_simp;try with_reducible rfl
    try simp only [Act.put,List.setIfInBounds_toArray,List.set_cons_zero,List.set_cons_succ]
    refine zP 5 (v:=?_) ?_ (fun _=>hHeld) ?_
    rotate_left
    ·intro w9;go_simp;try with_reducible rfl
    try simp only [Act.put,List.setIfInBounds_toArray,List.set_cons_zero,List.set_cons_succ]
    refine zP 6 (v:=?_) ?_ (fun _=>hHeld) ?_
    rotate_left
    ·intro w9;go_simp;try with_reducible rfl
    try simp only [Act.put,List.setIfInBounds_toArray,List.set_cons_zero,List.set_cons_succ]
    refine zP 7 (v:=?_) ?_ (fun _=>hHeld) ?_
    rotate_left
    ·intro w9;go_simp;try with_reducible rfl
    try simp only [Act.put,List.setIfInBounds_toArray,List.set_cons_zero,List.set_cons_succ]
    refine zP 9 (v:=?_) ?_ (fun _=>hHeld) ?_
    rotate_left
    ·intro w9;go_simp;try with_reducible rfl
    try simp only [Act.put,List.setIfInBounds_toArray,List.set_cons_zero,List.set_cons_succ]
    refine zP 10 (v:=?_) ?_ (fun _=>hHeld) ?_
    rotate_left
    ·intro w9;go_simp;try with_reducible rfl
    try simp only [Act.put,List.setIfInBounds_toArray,List.set_cons_zero,List.set_cons_succ]
    refine zP 11 (v:=?_) ?_ (fun _=>hHeld) ?_
    rotate_left
    ·intro w9;go_simp;try with_reducible rfl
    try simp only [Act.put,List.setIfInBounds_toArray,List.set_cons_zero,List.set_cons_succ]
    refine zP 12 (v:=?_) ?_ (fun _=>hHeld) ?_
    rotate_left
    ·intro w9;go_simp;try with_reducible rfl
    try simp only [Act.put,List.setIfInBounds_toArray,List.set_cons_zero,List.set_cons_succ]
    refine zT 13 [14,15,16,20,21,22] (v:=?_) ?_ hHeld ?_
    rotate_left
    ·intro w9 hS9;(try dsimp only at hS9);go_simp;try with_reducible rfl
    try simp only [Act.put,List.setIfInBounds_toArray,List.set_cons_zero,List.set_cons_succ]
    refine zP 14 (v:=?_) ?_ (fun _=>hHeld) ?_
    rotate_left
    ·intro w9;go_simp;try with_reducible rfl
    try simp only [Act.put,List.setIfInBounds_toArray,List.set_cons_zero,List.set_cons_succ]
    refine zP 15 (v:=?_) ?_ (fun _=>hHeld) ?_
    rotate_left
    ·intro w9;go_simp;try with_reducible rfl
    try simp only [Act.put,List.setIfInBounds_toArray,List.set_cons_zero,List.set_cons_succ]
    refine wpAnyT_next (i:=8) (by kernel_rfl) rfl ?_
    intro K hK
    go_simp
    go_at_call 36
    refine (HCL.out _ (by exact (by repeat (first | (with_reducible first | exact Below.refl _ _ | assumption | refine bset ?_ ?_ _ | refine balloc ?_ _ | refine Below.drew ?_ | refine bdrewN ?_ _ | refine bnext ?_ (by with_reducible assumption)) | exact Nat.le_refl _ | (simp;done) | omega | (simp;omega))))).mono ?_
    rintro e w4 ⟨E,ec,rfl,hE,hb4⟩
    have B4:Below w1.heap.size w1 w4:=(by repeat (first | (with_reducible first | exact Below.refl _ _ | assumption | refine bset ?_ ?_ _ | refine balloc ?_ _ | refine Below.drew ?_ | refine bdrewN ?_ _ | refine bnext ?_ (by with_reducible assumption)) | exact Nat.le_refl _ | (simp;done) | omega | (simp;omega)))
    have HE:=Lib.hid (hE.base_le (b':=w1.heap.size) (by first | (simp;done) | exact Nat.le_refl _))
    clear hE hb4
    have b4:=HB1.out.2.next B4
    have tc:=b4.get
    have tf:=b4.frozen
    have HB4:=Lib.hid b4
    clear b4
    go_simp
    have hHeld2:=(B4.cell (p:=⟨F,0,none⟩) hF1).trans d0
    refine hK.out _ _ (fun _=>hHeld2) ?_
    clear hK K hHeld
    have hHeld:=hHeld2
    clear hHeld2
    try simp only [Act.put,List.setIfInBounds_toArray,List.set_cons_zero,List.set_cons_succ]
    refine zP 16 (v:=?_) ?_ (fun _=>hHeld) ?_
    rotate_left
    ·intro w9;go_simp;try with_reducible rfl
    try simp only [Act.put,List.setIfInBounds_toArray,List.set_cons_zero,List.set_cons_succ]
    refine zP 17 (v:=?_) ?_ (fun _=>hHeld) ?_
    rotate_left
    ·intro w9;go_simp;try with_reducible rfl
    try simp only [Act.put,List.setIfInBounds_toArray,List.set_cons_zero,List.set_cons_succ]
    refine zP 18 (v:=?_) ?_ (fun _=>hHeld) ?_
    rotate_left
    ·intro w9;go_simp;try with_reducible rfl
    try simp only [Act.put,List.setIfInBounds_toArray,List.set_cons_zero,List.set_cons_succ]
    refine zP 19 (v:=?_) ?_ (fun _=>hHeld) ?_
    rotate_left
    ·intro w9;go_simp;try with_reducible rfl
    try simp only [Act.put,List.setIfInBounds_toArray,List.set_cons_zero,List.set_cons_succ]
    refine zP 20 (v:=?_) ?_ (fun _=>hHeld) ?_
    rotate_left
    ·intro w9;go_simp;try with_reducible rfl
    try simp only [Act.put,List.setIfInBounds_toArray,List.set_cons_zero,List.set_cons_succ]
    refine zP 21 (v:=?_) ?_ (fun _=>hHeld) ?_
    rotate_left
    ·intro w9;go_simp;try with_reducible rfl
    try simp only [Act.put,List.setIfInBounds_toArray,List.set_cons_zero,List.set_cons_succ]
    refine wpAnyT_next (i:=22) (by kernel_rfl) rfl ?_
    intro K hK
    go_simp
    refine hK.out _ _ (zN (by kernel_rfl)) ?_
    clear hK K
    refine wpAnyT_done (by kernel_rfl) ?_ _
    (try go_wp2)
    refine bodyPost_ret (v:=.agg #[.int .i64 0,.int .i64 fn,.slice E m ec,.bool false,.bool false,.bool false,.int .i64 0]) (by simp [results,Try.results81,go_sem, *]) rfl (HEND.out false HK.out.symm E ec _ ?_ ?_)
    ·exact (HE.out.base_le hb1.size).stays (Stays.seven _ _ _ _ _ _ _ _ _) (fun k hk e=>by have:=(HE.out.lt k hk).1;omega)
    ·exact (hb1.trans (B4.mono hb1.size)).trans ((Stays.seven _ _ _ _ _ _ _ _ _).below (Nat.le_trans hb1.size B4.size) (fun k hk=>Nat.le_of_eq hk.symm))
  ·have k3:decide (n=dl∧n<t)=false:=by simp [k1]
   have HK:=Lib.hid k3
   have k1b:(n == (dl:Int))=false:=by simpa using k1
   clear k1 k3
   go_upto_region 2 with (fail)
   refine wp_region_tail [22] (fun wx=>wx.cell? ⟨F,0,none⟩=some (.slice D dl dc)) (by kernel_rfl) (d0) ?_
   intro hHeld
   refine zP 0 (v:=?_) ?_ (fun _=>hHeld) ?_
   rotate_left
   ·intro w9;go_simp;try with_reducible rfl
   try simp only [Act.put,List.setIfInBounds_toArray,List.set_cons_zero,List.set_cons_succ]
   refine zP 1 (v:=?_) ?_ (fun _=>hHeld) ?_
   rotate_left
   ·intro w9;go_simp;try with_reducible rfl
   try simp only [Act.put,List.setIfInBounds_toArray,List.set_cons_zero,List.set_cons_succ]
   refine zP 2 (v:=?_) ?_ (fun _=>hHeld) ?_
   rotate_left
   ·intro w9;go_simp;try with_reducible rfl
   try simp only [Act.put,List.setIfInBounds_toArray,List.set_cons_zero,List.set_cons_succ]
   refine zP 3 (v:=?_) ?_ (fun _=>hHeld) ?_
   rotate_left
   ·intro w9;go_simp;try with_reducible rfl
   try simp only [Act.put,List.setIfInBounds_toArray,List.set_cons_zero,List.set_cons_succ]
   refine zT 4 [7,8,21,22] (v:=?_) ?_ hHeld ?_
   rotate_left
   ·intro w9 hS9;(try dsimp only at hS9);go_simp;try with_reducible rfl
   try simp only [Act.put,List.setIfInBounds_toArray,List.set_cons_zero,List.set_cons_succ]
   refine zP 5 (v:=?_) ?_ (fun _=>hHeld) ?_
   rotate_left
   ·intro w9;go_simp;try with_reducible rfl
   try simp only [Act.put,List.setIfInBounds_toArray,List.set_cons_zero,List.set_cons_succ]
   refine zP 6 (v:=?_) ?_ (fun _=>hHeld) ?_
   rotate_left
   ·intro w9;go_simp;try with_reducible rfl
   try simp only [Act.put,List.setIfInBounds_toArray,List.set_cons_zero,List.set_cons_succ]
   refine zP 7 (v:=?_) ?_ (fun _=>hHeld) ?_
   rotate_left
   ·intro w9;go_simp;try with_reducible rfl
   try simp only [Act.put,List.setIfInBounds_toArray,List.set_cons_zero,List.set_cons_succ]
   refine zP 9 (v:=?_) ?_ (fun _=>hHeld) ?_
   rotate_left
   ·intro w9;go_simp;try with_reducible rfl
   try simp only [Act.put,List.setIfInBounds_toArray,List.set_cons_zero,List.set_cons_succ]
   refine zP 10 (v:=?_) ?_ (fun _=>hHeld) ?_
   rotate_left
   ·intro w9;go_simp;try with_reducible rfl
   try simp only [Act.put,List.setIfInBounds_toArray,List.set_cons_zero,List.set_cons_succ]
   refine zP 11 (v:=?_) ?_ (fun _=>hHeld) ?_
   rotate_left
   ·intro w9;go_simp;try with_reducible rfl
   try simp only [Act.put,List.setIfInBounds_toArray,List.set_cons_zero,List.set_cons_succ]
   refine zP 12 (v:=?_) ?_ (fun _=>hHeld) ?_
   rotate_left
   ·intro w9;go_simp;try with_reducible rfl
   try simp only [Act.put,List.setIfInBounds_toArray,List.set_cons_zero,List.set_cons_succ]
   refine zT 13 [14,15,16,20,21,22] (v:=?_) ?_ hHeld ?_
   rotate_left
   ·intro w9 hS9;(try dsimp only at hS9);go_simp;try with_reducible rfl
   try simp only [Act.put,List.setIfInBounds_toArray,List.set_cons_zero,List.set_cons_succ]
   refine zP 14 (v:=?_) ?_ (fun _=>hHeld) ?_
   rotate_left
   ·intro w9;go_simp;try with_reducible rfl
   try simp only [Act.put,List.setIfInBounds_toArray,List.set_cons_zero,List.set_cons_succ]
   refine zP 15 (v:=?_) ?_ (fun _=>hHeld) ?_
   rotate_left
   ·intro w9;go_simp;try with_reducible rfl
   try simp only [Act.put,List.setIfInBounds_toArray,List.set_cons_zero,List.set_cons_succ]
   refine wpAnyT_next (i:=8) (by kernel_rfl) rfl ?_
   intro K hK
   go_simp
   go_at_call 36
   refine (HCL.out _ (by exact (by repeat (first | (with_reducible first | exact Below.refl _ _ | assumption | refine bset ?_ ?_ _ | refine balloc ?_ _ | refine Below.drew ?_ | refine bdrewN ?_ _ | refine bnext ?_ (by with_reducible assumption)) | exact Nat.le_refl _ | (simp;done) | omega | (simp;omega))))).mono ?_
   rintro e w4 ⟨E,ec,rfl,hE,hb4⟩
   have B4:Below w1.heap.size w1 w4:=(by repeat (first | (with_reducible first | exact Below.refl _ _ | assumption | refine bset ?_ ?_ _ | refine balloc ?_ _ | refine Below.drew ?_ | refine bdrewN ?_ _ | refine bnext ?_ (by with_reducible assumption)) | exact Nat.le_refl _ | (simp;done) | omega | (simp;omega)))
   have HE:=Lib.hid (hE.base_le (b':=w1.heap.size) (by first | (simp;done) | exact Nat.le_refl _))
   clear hE hb4
   have b4:=HB1.out.2.next B4
   have tc:=b4.get
   have tf:=b4.frozen
   have HB4:=Lib.hid b4
   clear b4
   go_simp
   have hHeld2:=(B4.cell (p:=⟨F,0,none⟩) hF1).trans d0
   refine hK.out _ _ (fun _=>hHeld2) ?_
   clear hK K hHeld
   have hHeld:=hHeld2
   clear hHeld2
   try simp only [Act.put,List.setIfInBounds_toArray,List.set_cons_zero,List.set_cons_succ]
   refine zP 16 (v:=?_) ?_ (fun _=>hHeld) ?_
   rotate_left
   ·intro w9;go_simp;try with_reducible rfl
   try simp only [Act.put,List.setIfInBounds_toArray,List.set_cons_zero,List.set_cons_succ]
   refine wpAnyT_pure (i:=17) (v:=undef) rfl (by kernel_rfl) (by kernel_rfl) (by kernel_rfl) (fun _ _ _ h=>h) (.inr ⟨by kernel_rfl,rfl⟩) (fun _=>hHeld) ?_ (by decide)
   try simp only [Act.put,List.setIfInBounds_toArray,List.set_cons_zero,List.set_cons_succ]
   refine wpAnyT_pure (i:=18) (v:=undef) rfl (by kernel_rfl) (by kernel_rfl) (by kernel_rfl) (fun _ _ _ h=>h) (.inr ⟨by kernel_rfl,rfl⟩) (fun _=>hHeld) ?_ (by decide)
   try simp only [Act.put,List.setIfInBounds_toArray,List.set_cons_zero,List.set_cons_succ]
   refine wpAnyT_pure (i:=19) (v:=undef) rfl (by kernel_rfl) (by kernel_rfl) (by kernel_rfl) (fun _ _ _ h=>h) (.inr ⟨by kernel_rfl,rfl⟩) (fun _=>hHeld) ?_ (by decide)
   try simp only [Act.put,List.setIfInBounds_toArray,List.set_cons_zero,List.set_cons_succ]
   refine zP 20 (v:=?_) ?_ (fun _=>hHeld) ?_
   rotate_left
   ·intro w9;go_simp;try with_reducible rfl
   try simp only [Act.put,List.setIfInBounds_toArray,List.set_cons_zero,List.set_cons_succ]
   refine zP 21 (v:=?_) ?_ (fun _=>hHeld) ?_
   rotate_left
   ·intro w9;go_simp;try with_reducible rfl
   try simp only [Act.put,List.setIfInBounds_toArray,List.set_cons_zero,List.set_cons_succ]
   refine wpAnyT_next (i:=22) (by kernel_rfl) rfl ?_
   intro K hK
   go_simp
   refine hK.out _ _ (zN (by kernel_rfl)) ?_
   clear hK K
   refine wpAnyT_done (by kernel_rfl) ?_ _
   (try go_wp2)
   refine bodyPost_ret (v:=.agg #[.int .i64 0,.int .i64 fn,.slice E m ec,.bool false,.bool false,.bool false,.int .i64 0]) (by simp [results,Try.results81,go_sem, *]) rfl (HEND.out false HK.out.symm E ec _ ?_ ?_)
   ·exact (HE.out.base_le hb1.size).stays (Stays.seven _ _ _ _ _ _ _ _ _) (fun k hk e=>by have:=(HE.out.lt k hk).1;omega)
   ·exact (hb1.trans (B4.mono hb1.size)).trans ((Stays.seven _ _ _ _ _ _ _ _ _).below (Nat.le_trans hb1.size B4.size) (fun k hk=>Nat.le_of_eq hk.symm))
end Go.Proofs.Ytdldfllllgogoaa
namespace Go.Proofs.Ytdldfllllgogoaa
open Go.RowKit
set_option linter.unusedSimpArgs false
def TimeRes (w:World) (B F:Nat) (s':sd.St) (D:Option Addr) (dc:Nat) (M:Option Addr) (mc:Nat) (e:Ending) (w':World):Prop:=
 e=.returned (.tuple #[])∧SAt w' B F s' D dc M mc∧Stays w w' (fun k=>k=F)
set_option maxRecDepth 100000 in
set_option maxHeartbeats 2000000 in
theorem send_timeout (B F:Nat) (s:sd.St) (D:Option Addr) (dc:Nat) (M:Option Addr) (mc:Nat) (w:World) (h:SAt w B F s D dc M mc) (hi:sd.Inv s) :
  Calls Try.prog 48 #[.pointer (some ⟨F,0,none⟩)] w (TimeRes w B F (sd.timeout s) D dc M mc):=by
 have H:=Lib.hid h
 have c2:=h.blk.get 2
 have c5:=h.blk.get 5
 have f5:=h.blk.frozen 5
 simp only [List.getElem?_toArray,List.getElem?_cons_succ,List.getElem?_cons_zero] at c2 c5
 have hF:=h.blk.lt
 have hlo:=hi.lo
 have hen:=hi.end_
 have hed:=hi.edge
 have HI1:Hid (sd.Inv { s with again:=s.done }):=Lib.hid ⟨hi.lo,hi.canon,hi.few,hi.hi,hi.size,⟨hi.lo.1,hi.lo.2.1⟩,hi.edge⟩
 obtain ⟨w1,hw1⟩:∃ w1,w1=w.setCell ⟨F,5,none⟩ (.int .i64 s.done):=⟨_,rfl⟩
 have h1:SAt w1 B F { s with again:=s.done } D dc M mc:=by rw [hw1];exact h.putAgain s.done
 have HW1:Hid (Stays w w1 (fun k=>k=F)):=Lib.hid (by rw [hw1];exact Stays.set _ _ _ _)
 have H1:=Lib.hid h1
 have hF1:=h1.blk.lt
 have b2:=h1.blk.get 2
 have b4:=h1.blk.get 4
 have b6:=h1.blk.get 6
 simp only [List.getElem?_toArray,List.getElem?_cons_succ,List.getElem?_cons_zero] at b2 b4 b6
 have HFI:=Lib.hid (fun wz (hb:Below w1.heap.size w1 wz)=>send_first B F { s with again:=s.done } D dc M mc s.done s.next wz (h1.next hb) HI1.out ⟨hi.lo.1,hi.lo.2.1⟩ (by omega))
 have HEN:=Lib.hid (fun wz (hb:Below w1.heap.size w1 wz)=>send_end B F { s with again:=s.done } D dc M mc wz (h1.next hb) hi.size)
 have hfe:sd.first { s with again:=s.done } s.done s.next=sd.first s s.done s.next:=rfl
 have hee:sd.endOf { s with again:=s.done }=sd.endOf s:=rfl
 rw [hfe] at HFI
 rw [hee] at HEN
 obtain ⟨ev,hev⟩:∃ ev,ev=if sd.first s s.done s.next=s.next∧s.next<sd.endOf s∧s.edge≤s.next then s.next+1 else s.edge:=⟨_,rfl⟩
 have HT:Hid (sd.timeout s={ s with again:=s.done,edge:=ev }):=Lib.hid (by rw [hev];rfl)
 obtain ⟨dn,hdn⟩:∃ dn,s.done=dn:=⟨_,rfl⟩
 obtain ⟨nx,hnx⟩:∃ nx,s.next=nx:=⟨_,rfl⟩
 obtain ⟨eg,heg⟩:∃ eg,s.edge=eg:=⟨_,rfl⟩
 obtain ⟨fi,hfi⟩:∃ fi,sd.first s s.done s.next=fi:=⟨_,rfl⟩
 obtain ⟨en,henn⟩:∃ en,sd.endOf s=en:=⟨_,rfl⟩
 rw [hfi,henn,hnx,heg] at hev
 rw [hfi,hdn,hnx] at HFI
 rw [henn] at HEN hlo hen
 rw [hdn] at c2 b2 hlo hw1
 rw [hnx] at b4 hlo
 rw [heg] at b6 hed
 have HDN:=Lib.hid hdn
 have HNX:=Lib.hid hnx
 have HEND:Hid (∀ wx,Below w1.heap.size w1 wx→eg=(if fi=nx∧nx<en∧eg≤nx then nx+1 else eg)→TimeRes w B F (sd.timeout s) D dc M mc (.returned (.tuple #[])) wx):=Lib.hid (fun wx hb hv=>by
  have e:ev=s.edge:=by rw [hev,← hv,heg]
  rw [HT.out,e]
  exact ⟨rfl,H1.out.next hb,HW1.out.comp (Stays.of_below hb _)⟩)
 have HEND2:Hid (∀ wx wy,Below w1.heap.size w1 wx→(fi=nx∧nx<en∧eg≤nx)→wy=wx.setCell ⟨F,6,none⟩ (.int .i64 (nx+1))→TimeRes w B F (sd.timeout s) D dc M mc (.returned (.tuple #[])) wy):=Lib.hid (fun wx wy hb hc hy=>by
  rw [HT.out,hev,if_pos hc,hy]
  exact ⟨rfl,(H1.out.next hb).putEdge (nx+1),(HW1.out.comp (Stays.of_below hb _)).comp (Stays.set _ _ _ _)⟩)
 have hf6:∀ wx,Below w1.heap.size w1 wx→wx.frozen? ⟨F,6,none⟩=false:=fun wx hb=>(H1.out.next hb).blk.frozen 6
 have HF6:=Lib.hid hf6
 clear h h1 hi hdn hnx heg hfi henn hfe hee HT hf6 hev
 go_enter Try.func48,Try.ntmps48
 go_upto_region 1 with (fail)
 rw [← hw1]
 clear hw1 c2 c5 f5
 by_cases k1:fi=nx
 ·have k1b:(fi == nx)=true:=by simpa using k1
  by_cases k2:nx<en
  ·have k2b:decide (nx<en)=true:=by simpa using k2
   by_cases k3:eg≤nx
   ·have HK:=Lib.hid (And.intro k1 (And.intro k2 k3))
    have k3b:decide (eg≤nx)=true:=by simpa using k3
    clear k1
    refine wp_region_tail [] (fun wx=>wx.cell? ⟨F,2,none⟩=some (.int .i64 dn)∧wx.cell? ⟨F,4,none⟩=some (.int .i64 nx)∧wx.cell? ⟨F,6,none⟩=some (.int .i64 eg)) (by kernel_rfl) (⟨b2,b4,b6⟩) ?_
    intro hHeld
    refine zP 0 (v:=?_) ?_ (fun _=>hHeld) ?_
    rotate_left
    ·intro w9;go_simp;try with_reducible rfl
    try simp only [Act.put,zA,zB,zC,zD,zE,zF]
    refine zP 1 (v:=?_) ?_ (fun _=>hHeld) ?_
    rotate_left
    ·intro w9;go_simp;try with_reducible rfl
    try simp only [Act.put,zA,zB,zC,zD,zE,zF]
    refine zP 2 (v:=?_) ?_ (fun _=>hHeld) ?_
    rotate_left
    ·intro w9;go_simp;try with_reducible rfl
    try simp only [Act.put,zA,zB,zC,zD,zE,zF]
    refine zP 3 (v:=?_) ?_ (fun _=>hHeld) ?_
    rotate_left
    ·intro w9;go_simp;try with_reducible rfl
    try simp only [Act.put,zA,zB,zC,zD,zE,zF]
    refine zT 4 [] (v:=?_) ?_ hHeld ?_
    rotate_left
    ·intro w9 hS9;(try dsimp only at hS9);obtain ⟨q1,q2,q3⟩:=hS9;go_simp;try with_reducible rfl
    try simp only [Act.put,zA,zB,zC,zD,zE,zF]
    refine zP 5 (v:=?_) ?_ (fun _=>hHeld) ?_
    rotate_left
    ·intro w9;go_simp;try with_reducible rfl
    try simp only [Act.put,zA,zB,zC,zD,zE,zF]
    refine zP 6 (v:=?_) ?_ (fun _=>hHeld) ?_
    rotate_left
    ·intro w9;go_simp;try with_reducible rfl
    try simp only [Act.put,zA,zB,zC,zD,zE,zF]
    refine zP 7 (v:=?_) ?_ (fun _=>hHeld) ?_
    rotate_left
    ·intro w9;go_simp;try with_reducible rfl
    try simp only [Act.put,zA,zB,zC,zD,zE,zF]
    refine zT 8 [] (v:=?_) ?_ hHeld ?_
    rotate_left
    ·intro w9 hS9;(try dsimp only at hS9);obtain ⟨q1,q2,q3⟩:=hS9;go_simp;try with_reducible rfl
    try simp only [Act.put,zA,zB,zC,zD,zE,zF]
    refine zP 10 (v:=?_) ?_ (fun _=>hHeld) ?_
    rotate_left
    ·intro w9;go_simp;try with_reducible rfl
    try simp only [Act.put,zA,zB,zC,zD,zE,zF]
    refine zP 11 (v:=?_) ?_ (fun _=>hHeld) ?_
    rotate_left
    ·intro w9;go_simp;try with_reducible rfl
    try simp only [Act.put,zA,zB,zC,zD,zE,zF]
    refine zP 12 (v:=?_) ?_ (fun _=>hHeld) ?_
    rotate_left
    ·intro w9;go_simp;try with_reducible rfl
    try simp only [Act.put,zA,zB,zC,zD,zE,zF]
    refine zT 13 [] (v:=?_) ?_ hHeld ?_
    rotate_left
    ·intro w9 hS9;(try dsimp only at hS9);obtain ⟨q1,q2,q3⟩:=hS9;go_simp;try with_reducible rfl
    try simp only [Act.put,zA,zB,zC,zD,zE,zF]
    refine wpAnyT_next (i:=9) (by kernel_rfl) rfl ?_
    intro K hK
    go_simp
    go_at_call 79
    refine (HFI.out _ (by exact (by repeat (first | (with_reducible first | exact Below.refl _ _ | assumption | refine bset ?_ ?_ _ | refine balloc ?_ _ | refine Below.drew ?_ | refine bdrewN ?_ _ | refine bnext ?_ (by with_reducible assumption)) | exact Nat.le_refl _ | (simp;done) | omega | (simp;omega))))).mono ?_
    rintro e w4 ⟨rfl,hb4⟩
    have B4:Below w1.heap.size w1 w4:=(by repeat (first | (with_reducible first | exact Below.refl _ _ | assumption | refine bset ?_ ?_ _ | refine balloc ?_ _ | refine Below.drew ?_ | refine bdrewN ?_ _ | refine bnext ?_ (by with_reducible assumption)) | exact Nat.le_refl _ | (simp;done) | omega | (simp;omega)))
    have c2:=(B4.cell (p:=⟨F,2,none⟩) hF1).trans b2
    have c4:=(B4.cell (p:=⟨F,4,none⟩) hF1).trans b4
    have c6:=(B4.cell (p:=⟨F,6,none⟩) hF1).trans b6
    clear hb4
    go_simp
    have hHeld2:=And.intro c2 (And.intro c4 c6)
    refine hK.out _ _ (fun _=>hHeld2) ?_
    clear hK K hHeld
    have hHeld:=hHeld2
    clear hHeld2
    try simp only [Act.put,zA,zB,zC,zD,zE,zF]
    refine zP 14 (v:=?_) ?_ (fun _=>hHeld) ?_
    rotate_left
    ·intro w9;go_simp;try with_reducible rfl
    try simp only [Act.put,zA,zB,zC,zD,zE,zF]
    refine zP 15 (v:=?_) ?_ (fun _=>hHeld) ?_
    rotate_left
    ·intro w9;go_simp;try with_reducible rfl
    try simp only [Act.put,zA,zB,zC,zD,zE,zF]
    refine zP 16 (v:=?_) ?_ (fun _=>hHeld) ?_
    rotate_left
    ·intro w9;go_simp;try with_reducible rfl
    try simp only [Act.put,zA,zB,zC,zD,zE,zF]
    refine zP 17 (v:=?_) ?_ (fun _=>hHeld) ?_
    rotate_left
    ·intro w9;go_simp;try with_reducible rfl
    try simp only [Act.put,zA,zB,zC,zD,zE,zF]
    refine zP 18 (v:=?_) ?_ (fun _=>hHeld) ?_
    rotate_left
    ·intro w9;go_simp;try with_reducible rfl
    try simp only [Act.put,zA,zB,zC,zD,zE,zF]
    refine zT 19 [] (v:=?_) ?_ hHeld ?_
    rotate_left
    ·intro w9 hS9;(try dsimp only at hS9);obtain ⟨q1,q2,q3⟩:=hS9;go_simp;try with_reducible rfl
    try simp only [Act.put,zA,zB,zC,zD,zE,zF]
    refine zP 20 (v:=?_) ?_ (fun _=>hHeld) ?_
    rotate_left
    ·intro w9;go_simp;try with_reducible rfl
    try simp only [Act.put,zA,zB,zC,zD,zE,zF]
    refine wpAnyT_next (i:=21) (by kernel_rfl) rfl ?_
    intro K hK
    go_simp
    go_at_call 80
    refine (HEN.out _ (by exact (by repeat (first | (with_reducible first | exact Below.refl _ _ | assumption | refine bset ?_ ?_ _ | refine balloc ?_ _ | refine Below.drew ?_ | refine bdrewN ?_ _ | refine bnext ?_ (by with_reducible assumption)) | exact Nat.le_refl _ | (simp;done) | omega | (simp;omega))))).mono ?_
    rintro e _ ⟨rfl,rfl⟩
    go_simp
    have hHeld2:=And.intro c2 (And.intro c4 c6)
    refine hK.out _ _ (fun _=>hHeld2) ?_
    clear hK K hHeld
    have hHeld:=hHeld2
    clear hHeld2
    try simp only [Act.put,zA,zB,zC,zD,zE,zF]
    refine zP 22 (v:=?_) ?_ (fun _=>hHeld) ?_
    rotate_left
    ·intro w9;go_simp;try with_reducible rfl
    try simp only [Act.put,zA,zB,zC,zD,zE,zF]
    refine zP 23 (v:=?_) ?_ (fun _=>hHeld) ?_
    rotate_left
    ·intro w9;go_simp;try with_reducible rfl
    try simp only [Act.put,zA,zB,zC,zD,zE,zF]
    refine zP 24 (v:=?_) ?_ (fun _=>hHeld) ?_
    rotate_left
    ·intro w9;go_simp;try with_reducible rfl
    try simp only [Act.put,zA,zB,zC,zD,zE,zF]
    refine zP 25 (v:=?_) ?_ (fun _=>hHeld) ?_
    rotate_left
    ·intro w9;go_simp;try with_reducible rfl
    try simp only [Act.put,zA,zB,zC,zD,zE,zF]
    refine zP 26 (v:=?_) ?_ (fun _=>hHeld) ?_
    rotate_left
    ·intro w9;go_simp;try with_reducible rfl
    try simp only [Act.put,zA,zB,zC,zD,zE,zF]
    refine zP 27 (v:=?_) ?_ (fun _=>hHeld) ?_
    rotate_left
    ·intro w9;go_simp;try with_reducible rfl
    try simp only [Act.put,zA,zB,zC,zD,zE,zF]
    refine zT 28 [] (v:=?_) ?_ hHeld ?_
    rotate_left
    ·intro w9 hS9;(try dsimp only at hS9);obtain ⟨q1,q2,q3⟩:=hS9;go_simp;try with_reducible rfl
    try simp only [Act.put,zA,zB,zC,zD,zE,zF]
    refine zP 29 (v:=?_) ?_ (fun _=>hHeld) ?_
    rotate_left
    ·intro w9;go_simp;try with_reducible rfl
    try simp only [Act.put,zA,zB,zC,zD,zE,zF]
    refine zP 30 (v:=?_) ?_ (fun _=>hHeld) ?_
    rotate_left
    ·intro w9;go_simp;try with_reducible rfl
    try simp only [Act.put,zA,zB,zC,zD,zE,zF]
    refine zP 31 (v:=?_) ?_ (fun _=>hHeld) ?_
    rotate_left
    ·intro w9;go_simp;try with_reducible rfl
    try simp only [Act.put,zA,zB,zC,zD,zE,zF]
    refine zT 32 [] (v:=?_) ?_ hHeld ?_
    rotate_left
    ·intro w9 hS9;(try dsimp only at hS9);obtain ⟨q1,q2,q3⟩:=hS9;go_simp;try with_reducible rfl
    try simp only [Act.put,zA,zB,zC,zD,zE,zF]
    refine zP 33 (v:=?_) ?_ (fun _=>hHeld) ?_
    rotate_left
    ·intro w9;go_simp;try with_reducible rfl
    try simp only [Act.put,zA,zB,zC,zD,zE,zF]
    refine zP 34 (v:=?_) ?_ (fun _=>hHeld) ?_
    rotate_left
    ·intro w9;go_simp;try with_reducible rfl
    try simp only [Act.put,zA,zB,zC,zD,zE,zF]
    refine wpAnyT_done (by kernel_rfl) ?_ _
    have f6:=HF6.out w4 B4
    have HB4:=Lib.hid B4
    clear B4
    go_wp2
    go_end0
    exact HEND2.out _ _ (by first | exact HB4.out | exact Below.drew HB4.out) HK.out rfl
   ·have HK:Hid (eg=if fi=nx∧nx<en∧eg≤nx then nx+1 else eg):=Lib.hid (by rw [if_neg (fun e=>k3 e.2.2)])
    have k3b:decide (eg≤nx)=false:=by simpa using k3
    clear k1 k3
    refine wp_region_tail [] (fun wx=>wx.cell? ⟨F,2,none⟩=some (.int .i64 dn)∧wx.cell? ⟨F,4,none⟩=some (.int .i64 nx)∧wx.cell? ⟨F,6,none⟩=some (.int .i64 eg)) (by kernel_rfl) (⟨b2,b4,b6⟩) ?_
    intro hHeld
    refine zP 0 (v:=?_) ?_ (fun _=>hHeld) ?_
    rotate_left
    ·intro w9;go_simp;try with_reducible rfl
    try simp only [Act.put,zA,zB,zC,zD,zE,zF]
    refine zP 1 (v:=?_) ?_ (fun _=>hHeld) ?_
    rotate_left
    ·intro w9;go_simp;try with_reducible rfl
    try simp only [Act.put,zA,zB,zC,zD,zE,zF]
    refine zP 2 (v:=?_) ?_ (fun _=>hHeld) ?_
    rotate_left
    ·intro w9;go_simp;try with_reducible rfl
    try simp only [Act.put,zA,zB,zC,zD,zE,zF]
    refine zP 3 (v:=?_) ?_ (fun _=>hHeld) ?_
    rotate_left
    ·intro w9;go_simp;try with_reducible rfl
    try simp only [Act.put,zA,zB,zC,zD,zE,zF]
    refine zT 4 [] (v:=?_) ?_ hHeld ?_
    rotate_left
    ·intro w9 hS9;(try dsimp only at hS9);obtain ⟨q1,q2,q3⟩:=hS9;go_simp;try with_reducible rfl
    try simp only [Act.put,zA,zB,zC,zD,zE,zF]
    refine zP 5 (v:=?_) ?_ (fun _=>hHeld) ?_
    rotate_left
    ·intro w9;go_simp;try with_reducible rfl
    try simp only [Act.put,zA,zB,zC,zD,zE,zF]
    refine zP 6 (v:=?_) ?_ (fun _=>hHeld) ?_
    rotate_left
    ·intro w9;go_simp;try with_reducible rfl
    try simp only [Act.put,zA,zB,zC,zD,zE,zF]
    refine zP 7 (v:=?_) ?_ (fun _=>hHeld) ?_
    rotate_left
    ·intro w9;go_simp;try with_reducible rfl
    try simp only [Act.put,zA,zB,zC,zD,zE,zF]
    refine zT 8 [] (v:=?_) ?_ hHeld ?_
    rotate_left
    ·intro w9 hS9;(try dsimp only at hS9);obtain ⟨q1,q2,q3⟩:=hS9;go_simp;try with_reducible rfl
    try simp only [Act.put,zA,zB,zC,zD,zE,zF]
    refine zP 10 (v:=?_) ?_ (fun _=>hHeld) ?_
    rotate_left
    ·intro w9;go_simp;try with_reducible rfl
    try simp only [Act.put,zA,zB,zC,zD,zE,zF]
    refine zP 11 (v:=?_) ?_ (fun _=>hHeld) ?_
    rotate_left
    ·intro w9;go_simp;try with_reducible rfl
    try simp only [Act.put,zA,zB,zC,zD,zE,zF]
    refine zP 12 (v:=?_) ?_ (fun _=>hHeld) ?_
    rotate_left
    ·intro w9;go_simp;try with_reducible rfl
    try simp only [Act.put,zA,zB,zC,zD,zE,zF]
    refine zT 13 [] (v:=?_) ?_ hHeld ?_
    rotate_left
    ·intro w9 hS9;(try dsimp only at hS9);obtain ⟨q1,q2,q3⟩:=hS9;go_simp;try with_reducible rfl
    try simp only [Act.put,zA,zB,zC,zD,zE,zF]
    refine wpAnyT_next (i:=9) (by kernel_rfl) rfl ?_
    intro K hK
    go_simp
    go_at_call 79
    refine (HFI.out _ (by exact (by repeat (first | (with_reducible first | exact Below.refl _ _ | assumption | refine bset ?_ ?_ _ | refine balloc ?_ _ | refine Below.drew ?_ | refine bdrewN ?_ _ | refine bnext ?_ (by with_reducible assumption)) | exact Nat.le_refl _ | (simp;done) | omega | (simp;omega))))).mono ?_
    rintro e w4 ⟨rfl,hb4⟩
    have B4:Below w1.heap.size w1 w4:=(by repeat (first | (with_reducible first | exact Below.refl _ _ | assumption | refine bset ?_ ?_ _ | refine balloc ?_ _ | refine Below.drew ?_ | refine bdrewN ?_ _ | refine bnext ?_ (by with_reducible assumption)) | exact Nat.le_refl _ | (simp;done) | omega | (simp;omega)))
    have c2:=(B4.cell (p:=⟨F,2,none⟩) hF1).trans b2
    have c4:=(B4.cell (p:=⟨F,4,none⟩) hF1).trans b4
    have c6:=(B4.cell (p:=⟨F,6,none⟩) hF1).trans b6
    clear hb4
    go_simp
    have hHeld2:=And.intro c2 (And.intro c4 c6)
    refine hK.out _ _ (fun _=>hHeld2) ?_
    clear hK K hHeld
    have hHeld:=hHeld2
    clear hHeld2
    try simp only [Act.put,zA,zB,zC,zD,zE,zF]
    refine zP 14 (v:=?_) ?_ (fun _=>hHeld) ?_
    rotate_left
    ·intro w9;go_simp;try with_reducible rfl
    try simp only [Act.put,zA,zB,zC,zD,zE,zF]
    refine zP 15 (v:=?_) ?_ (fun _=>hHeld) ?_
    rotate_left
    ·intro w9;go_simp;try with_reducible rfl
    try simp only [Act.put,zA,zB,zC,zD,zE,zF]
    refine zP 16 (v:=?_) ?_ (fun _=>hHeld) ?_
    rotate_left
    ·intro w9;go_simp;try with_reducible rfl
    try simp only [Act.put,zA,zB,zC,zD,zE,zF]
    refine zP 17 (v:=?_) ?_ (fun _=>hHeld) ?_
    rotate_left
    ·intro w9;go_simp;try with_reducible rfl
    try simp only [Act.put,zA,zB,zC,zD,zE,zF]
    refine zP 18 (v:=?_) ?_ (fun _=>hHeld) ?_
    rotate_left
    ·intro w9;go_simp;try with_reducible rfl
    try simp only [Act.put,zA,zB,zC,zD,zE,zF]
    refine zT 19 [] (v:=?_) ?_ hHeld ?_
    rotate_left
    ·intro w9 hS9;(try dsimp only at hS9);obtain ⟨q1,q2,q3⟩:=hS9;go_simp;try with_reducible rfl
    try simp only [Act.put,zA,zB,zC,zD,zE,zF]
    refine zP 20 (v:=?_) ?_ (fun _=>hHeld) ?_
    rotate_left
    ·intro w9;go_simp;try with_reducible rfl
    try simp only [Act.put,zA,zB,zC,zD,zE,zF]
    refine wpAnyT_next (i:=21) (by kernel_rfl) rfl ?_
    intro K hK
    go_simp
    go_at_call 80
    refine (HEN.out _ (by exact (by repeat (first | (with_reducible first | exact Below.refl _ _ | assumption | refine bset ?_ ?_ _ | refine balloc ?_ _ | refine Below.drew ?_ | refine bdrewN ?_ _ | refine bnext ?_ (by with_reducible assumption)) | exact Nat.le_refl _ | (simp;done) | omega | (simp;omega))))).mono ?_
    rintro e _ ⟨rfl,rfl⟩
    go_simp
    have hHeld2:=And.intro c2 (And.intro c4 c6)
    refine hK.out _ _ (fun _=>hHeld2) ?_
    clear hK K hHeld
    have hHeld:=hHeld2
    clear hHeld2
    try simp only [Act.put,zA,zB,zC,zD,zE,zF]
    refine zP 22 (v:=?_) ?_ (fun _=>hHeld) ?_
    rotate_left
    ·intro w9;go_simp;try with_reducible rfl
    try simp only [Act.put,zA,zB,zC,zD,zE,zF]
    refine zP 23 (v:=?_) ?_ (fun _=>hHeld) ?_
    rotate_left
    ·intro w9;go_simp;try with_reducible rfl
    try simp only [Act.put,zA,zB,zC,zD,zE,zF]
    refine zP 24 (v:=?_) ?_ (fun _=>hHeld) ?_
    rotate_left
    ·intro w9;go_simp;try with_reducible rfl
    try simp only [Act.put,zA,zB,zC,zD,zE,zF]
    refine zP 25 (v:=?_) ?_ (fun _=>hHeld) ?_
    rotate_left
    ·intro w9;go_simp;try with_reducible rfl
    try simp only [Act.put,zA,zB,zC,zD,zE,zF]
    refine zP 26 (v:=?_) ?_ (fun _=>hHeld) ?_
    rotate_left
    ·intro w9;go_simp;try with_reducible rfl
    try simp only [Act.put,zA,zB,zC,zD,zE,zF]
    refine zP 27 (v:=?_) ?_ (fun _=>hHeld) ?_
    rotate_left
    ·intro w9;go_simp;try with_reducible rfl
    try simp only [Act.put,zA,zB,zC,zD,zE,zF]
    refine zT 28 [] (v:=?_) ?_ hHeld ?_
    rotate_left
    ·intro w9 hS9;(try dsimp only at hS9);obtain ⟨q1,q2,q3⟩:=hS9;go_simp;try with_reducible rfl
    try simp only [Act.put,zA,zB,zC,zD,zE,zF]
    refine zP 29 (v:=?_) ?_ (fun _=>hHeld) ?_
    rotate_left
    ·intro w9;go_simp;try with_reducible rfl
    try simp only [Act.put,zA,zB,zC,zD,zE,zF]
    refine zP 30 (v:=?_) ?_ (fun _=>hHeld) ?_
    rotate_left
    ·intro w9;go_simp;try with_reducible rfl
    try simp only [Act.put,zA,zB,zC,zD,zE,zF]
    refine zP 31 (v:=?_) ?_ (fun _=>hHeld) ?_
    rotate_left
    ·intro w9;go_simp;try with_reducible rfl
    try simp only [Act.put,zA,zB,zC,zD,zE,zF]
    refine zT 32 [] (v:=?_) ?_ hHeld ?_
    rotate_left
    ·intro w9 hS9;(try dsimp only at hS9);obtain ⟨q1,q2,q3⟩:=hS9;go_simp;try with_reducible rfl
    try simp only [Act.put,zA,zB,zC,zD,zE,zF]
    refine zP 33 (v:=?_) ?_ (fun _=>hHeld) ?_
    rotate_left
    ·intro w9;go_simp;try with_reducible rfl
    try simp only [Act.put,zA,zB,zC,zD,zE,zF]
    refine zP 34 (v:=?_) ?_ (fun _=>hHeld) ?_
    rotate_left
    ·intro w9;go_simp;try with_reducible rfl
    try simp only [Act.put,zA,zB,zC,zD,zE,zF]
    refine wpAnyT_done (by kernel_rfl) ?_ _
    have HB4:=Lib.hid B4
    clear B4
    go_wp2
    go_end0
    exact HEND.out _ (by first | exact HB4.out | exact Below.drew HB4.out) HK.out
  ·have HK:Hid (eg=if fi=nx∧nx<en∧eg≤nx then nx+1 else eg):=Lib.hid (by rw [if_neg (fun e=>k2 e.2.1)])
   have k2b:decide (nx<en)=false:=by simpa using k2
   clear k1 k2
   refine wp_region_tail [] (fun wx=>wx.cell? ⟨F,2,none⟩=some (.int .i64 dn)∧wx.cell? ⟨F,4,none⟩=some (.int .i64 nx)∧wx.cell? ⟨F,6,none⟩=some (.int .i64 eg)) (by kernel_rfl) (⟨b2,b4,b6⟩) ?_
   intro hHeld
   refine zP 0 (v:=?_) ?_ (fun _=>hHeld) ?_
   rotate_left
   ·intro w9;go_simp;try with_reducible rfl
   try simp only [Act.put,zA,zB,zC,zD,zE,zF]
   refine zP 1 (v:=?_) ?_ (fun _=>hHeld) ?_
   rotate_left
   ·intro w9;go_simp;try with_reducible rfl
   try simp only [Act.put,zA,zB,zC,zD,zE,zF]
   refine zP 2 (v:=?_) ?_ (fun _=>hHeld) ?_
   rotate_left
   ·intro w9;go_simp;try with_reducible rfl
   try simp only [Act.put,zA,zB,zC,zD,zE,zF]
   refine zP 3 (v:=?_) ?_ (fun _=>hHeld) ?_
   rotate_left
   ·intro w9;go_simp;try with_reducible rfl
   try simp only [Act.put,zA,zB,zC,zD,zE,zF]
   refine zT 4 [] (v:=?_) ?_ hHeld ?_
   rotate_left
   ·intro w9 hS9;(try dsimp only at hS9);obtain ⟨q1,q2,q3⟩:=hS9;go_simp;try with_reducible rfl
   try simp only [Act.put,zA,zB,zC,zD,zE,zF]
   refine zP 5 (v:=?_) ?_ (fun _=>hHeld) ?_
   rotate_left
   ·intro w9;go_simp;try with_reducible rfl
   try simp only [Act.put,zA,zB,zC,zD,zE,zF]
   refine zP 6 (v:=?_) ?_ (fun _=>hHeld) ?_
   rotate_left
   ·intro w9;go_simp;try with_reducible rfl
   try simp only [Act.put,zA,zB,zC,zD,zE,zF]
   refine zP 7 (v:=?_) ?_ (fun _=>hHeld) ?_
   rotate_left
   ·intro w9;go_simp;try with_reducible rfl
   try simp only [Act.put,zA,zB,zC,zD,zE,zF]
   refine zT 8 [] (v:=?_) ?_ hHeld ?_
   rotate_left
   ·intro w9 hS9;(try dsimp only at hS9);obtain ⟨q1,q2,q3⟩:=hS9;go_simp;try with_reducible rfl
   try simp only [Act.put,zA,zB,zC,zD,zE,zF]
   refine zP 10 (v:=?_) ?_ (fun _=>hHeld) ?_
   rotate_left
   ·intro w9;go_simp;try with_reducible rfl
   try simp only [Act.put,zA,zB,zC,zD,zE,zF]
   refine zP 11 (v:=?_) ?_ (fun _=>hHeld) ?_
   rotate_left
   ·intro w9;go_simp;try with_reducible rfl
   try simp only [Act.put,zA,zB,zC,zD,zE,zF]
   refine zP 12 (v:=?_) ?_ (fun _=>hHeld) ?_
   rotate_left
   ·intro w9;go_simp;try with_reducible rfl
   try simp only [Act.put,zA,zB,zC,zD,zE,zF]
   refine zT 13 [] (v:=?_) ?_ hHeld ?_
   rotate_left
   ·intro w9 hS9;(try dsimp only at hS9);obtain ⟨q1,q2,q3⟩:=hS9;go_simp;try with_reducible rfl
   try simp only [Act.put,zA,zB,zC,zD,zE,zF]
   refine wpAnyT_next (i:=9) (by kernel_rfl) rfl ?_
   intro K hK
   go_simp
   go_at_call 79
   refine (HFI.out _ (by exact (by repeat (first | (with_reducible first | exact Below.refl _ _ | assumption | refine bset ?_ ?_ _ | refine balloc ?_ _ | refine Below.drew ?_ | refine bdrewN ?_ _ | refine bnext ?_ (by with_reducible assumption)) | exact Nat.le_refl _ | (simp;done) | omega | (simp;omega))))).mono ?_
   rintro e w4 ⟨rfl,hb4⟩
   have B4:Below w1.heap.size w1 w4:=(by repeat (first | (with_reducible first | exact Below.refl _ _ | assumption | refine bset ?_ ?_ _ | refine balloc ?_ _ | refine Below.drew ?_ | refine bdrewN ?_ _ | refine bnext ?_ (by with_reducible assumption)) | exact Nat.le_refl _ | (simp;done) | omega | (simp;omega)))
   have c2:=(B4.cell (p:=⟨F,2,none⟩) hF1).trans b2
   have c4:=(B4.cell (p:=⟨F,4,none⟩) hF1).trans b4
   have c6:=(B4.cell (p:=⟨F,6,none⟩) hF1).trans b6
   clear hb4
   go_simp
   have hHeld2:=And.intro c2 (And.intro c4 c6)
   refine hK.out _ _ (fun _=>hHeld2) ?_
   clear hK K hHeld
   have hHeld:=hHeld2
   clear hHeld2
   try simp only [Act.put,zA,zB,zC,zD,zE,zF]
   refine zP 14 (v:=?_) ?_ (fun _=>hHeld) ?_
   rotate_left
   ·intro w9;go_simp;try with_reducible rfl
   try simp only [Act.put,zA,zB,zC,zD,zE,zF]
   refine zP 15 (v:=?_) ?_ (fun _=>hHeld) ?_
   rotate_left
   ·intro w9;go_simp;try with_reducible rfl
   try simp only [Act.put,zA,zB,zC,zD,zE,zF]
   refine zP 16 (v:=?_) ?_ (fun _=>hHeld) ?_
   rotate_left
   ·intro w9;go_simp;try with_reducible rfl
   try simp only [Act.put,zA,zB,zC,zD,zE,zF]
   refine zP 17 (v:=?_) ?_ (fun _=>hHeld) ?_
   rotate_left
   ·intro w9;go_simp;try with_reducible rfl
   try simp only [Act.put,zA,zB,zC,zD,zE,zF]
   refine zP 18 (v:=?_) ?_ (fun _=>hHeld) ?_
   rotate_left
   ·intro w9;go_simp;try with_reducible rfl
   try simp only [Act.put,zA,zB,zC,zD,zE,zF]
   refine zT 19 [] (v:=?_) ?_ hHeld ?_
   rotate_left
   ·intro w9 hS9;(try dsimp only at hS9);obtain ⟨q1,q2,q3⟩:=hS9;go_simp;try with_reducible rfl
   try simp only [Act.put,zA,zB,zC,zD,zE,zF]
   refine zP 20 (v:=?_) ?_ (fun _=>hHeld) ?_
   rotate_left
   ·intro w9;go_simp;try with_reducible rfl
   try simp only [Act.put,zA,zB,zC,zD,zE,zF]
   refine wpAnyT_next (i:=21) (by kernel_rfl) rfl ?_
   intro K hK
   go_simp
   go_at_call 80
   refine (HEN.out _ (by exact (by repeat (first | (with_reducible first | exact Below.refl _ _ | assumption | refine bset ?_ ?_ _ | refine balloc ?_ _ | refine Below.drew ?_ | refine bdrewN ?_ _ | refine bnext ?_ (by with_reducible assumption)) | exact Nat.le_refl _ | (simp;done) | omega | (simp;omega))))).mono ?_
   rintro e _ ⟨rfl,rfl⟩
   go_simp
   have hHeld2:=And.intro c2 (And.intro c4 c6)
   refine hK.out _ _ (fun _=>hHeld2) ?_
   clear hK K hHeld
   have hHeld:=hHeld2
   clear hHeld2
   try simp only [Act.put,zA,zB,zC,zD,zE,zF]
   refine zP 22 (v:=?_) ?_ (fun _=>hHeld) ?_
   rotate_left
   ·intro w9;go_simp;try with_reducible rfl
   try simp only [Act.put,zA,zB,zC,zD,zE,zF]
   refine zP 23 (v:=?_) ?_ (fun _=>hHeld) ?_
   rotate_left
   ·intro w9;go_simp;try with_reducible rfl
   try simp only [Act.put,zA,zB,zC,zD,zE,zF]
   refine zP 24 (v:=?_) ?_ (fun _=>hHeld) ?_
   rotate_left
   ·intro w9;go_simp;try with_reducible rfl
   try simp only [Act.put,zA,zB,zC,zD,zE,zF]
   refine wpAnyT_pure (i:=25) (v:=undef) rfl (by kernel_rfl) (by kernel_rfl) (by kernel_rfl) (fun _ _ _ h=>h) (.inr ⟨by kernel_rfl,rfl⟩) (fun _=>hHeld) ?_ (by decide)
   try simp only [Act.put,zA,zB,zC,zD,zE,zF]
   refine wpAnyT_pure (i:=26) (v:=undef) rfl (by kernel_rfl) (by kernel_rfl) (by kernel_rfl) (fun _ _ _ h=>h) (.inr ⟨by kernel_rfl,rfl⟩) (fun _=>hHeld) ?_ (by decide)
   try simp only [Act.put,zA,zB,zC,zD,zE,zF]
   refine wpAnyT_pure (i:=27) (v:=undef) rfl (by kernel_rfl) (by kernel_rfl) (by kernel_rfl) (fun _ _ _ h=>h) (.inr ⟨by kernel_rfl,rfl⟩) (fun _=>hHeld) ?_ (by decide)
   try simp only [Act.put,zA,zB,zC,zD,zE,zF]
   refine wpAnyT_pure (i:=28) (v:=undef) rfl (by kernel_rfl) (by kernel_rfl) (by kernel_rfl) (fun _ _ _ h=>h) (.inr ⟨by kernel_rfl,rfl⟩) (fun _=>hHeld) ?_ (by decide)
   try simp only [Act.put,zA,zB,zC,zD,zE,zF]
   refine wpAnyT_pure (i:=29) (v:=undef) rfl (by kernel_rfl) (by kernel_rfl) (by kernel_rfl) (fun _ _ _ h=>h) (.inr ⟨by kernel_rfl,rfl⟩) (fun _=>hHeld) ?_ (by decide)
   try simp only [Act.put,zA,zB,zC,zD,zE,zF]
   refine wpAnyT_pure (i:=30) (v:=undef) rfl (by kernel_rfl) (by kernel_rfl) (by kernel_rfl) (fun _ _ _ h=>h) (.inr ⟨by kernel_rfl,rfl⟩) (fun _=>hHeld) ?_ (by decide)
   try simp only [Act.put,zA,zB,zC,zD,zE,zF]
   refine wpAnyT_pure (i:=31) (v:=undef) rfl (by kernel_rfl) (by kernel_rfl) (by kernel_rfl) (fun _ _ _ h=>h) (.inr ⟨by kernel_rfl,rfl⟩) (fun _=>hHeld) ?_ (by decide)
   try simp only [Act.put,zA,zB,zC,zD,zE,zF]
   refine wpAnyT_pure (i:=32) (v:=undef) rfl (by kernel_rfl) (by kernel_rfl) (by kernel_rfl) (fun _ _ _ h=>h) (.inr ⟨by kernel_rfl,rfl⟩) (fun _=>hHeld) ?_ (by decide)
   try simp only [Act.put,zA,zB,zC,zD,zE,zF]
   refine wpAnyT_pure (i:=33) (v:=undef) rfl (by kernel_rfl) (by kernel_rfl) (by kernel_rfl) (fun _ _ _ h=>h) (.inr ⟨by kernel_rfl,rfl⟩) (fun _=>hHeld) ?_ (by decide)
   try simp only [Act.put,zA,zB,zC,zD,zE,zF]
   refine zP 34 (v:=?_) ?_ (fun _=>hHeld) ?_
   rotate_left
   ·intro w9;go_simp;try with_reducible rfl
   try simp only [Act.put,zA,zB,zC,zD,zE,zF]
   refine wpAnyT_done (by kernel_rfl) ?_ _
   have HB4:=Lib.hid B4
   clear B4
   go_wp2
   go_end0
   exact HEND.out _ (by first | exact HB4.out | exact Below.drew HB4.out) HK.out
 ·have HK:Hid (eg=if fi=nx∧nx<en∧eg≤nx then nx+1 else eg):=Lib.hid (by rw [if_neg (fun e=>k1 e.1)])
  have k1b:(fi == nx)=false:=by simpa using k1
  clear k1
  refine wp_region_tail [] (fun wx=>wx.cell? ⟨F,2,none⟩=some (.int .i64 dn)∧wx.cell? ⟨F,4,none⟩=some (.int .i64 nx)∧wx.cell? ⟨F,6,none⟩=some (.int .i64 eg)) (by kernel_rfl) (⟨b2,b4,b6⟩) ?_
  intro hHeld
  refine zP 0 (v:=?_) ?_ (fun _=>hHeld) ?_
  rotate_left
  ·intro w9;go_simp;try with_reducible rfl
  try simp only [Act.put,zA,zB,zC,zD,zE,zF]
  refine zP 1 (v:=?_) ?_ (fun _=>hHeld) ?_
  rotate_left
  ·intro w9;go_simp;try with_reducible rfl
  try simp only [Act.put,zA,zB,zC,zD,zE,zF]
  refine zP 2 (v:=?_) ?_ (fun _=>hHeld) ?_
  rotate_left
  ·intro w9;go_simp;try with_reducible rfl
  try simp only [Act.put,zA,zB,zC,zD,zE,zF]
  refine zP 3 (v:=?_) ?_ (fun _=>hHeld) ?_
  rotate_left
  ·intro w9;go_simp;try with_reducible rfl
  try simp only [Act.put,zA,zB,zC,zD,zE,zF]
  refine zT 4 [] (v:=?_) ?_ hHeld ?_
  rotate_left
  ·intro w9 hS9;(try dsimp only at hS9);obtain ⟨q1,q2,q3⟩:=hS9;go_simp;try with_reducible rfl
  try simp only [Act.put,zA,zB,zC,zD,zE,zF]
  refine zP 5 (v:=?_) ?_ (fun _=>hHeld) ?_
  rotate_left
  ·intro w9;go_simp;try with_reducible rfl
  try simp only [Act.put,zA,zB,zC,zD,zE,zF]
  refine zP 6 (v:=?_) ?_ (fun _=>hHeld) ?_
  rotate_left
  ·intro w9;go_simp;try with_reducible rfl
  try simp only [Act.put,zA,zB,zC,zD,zE,zF]
  refine zP 7 (v:=?_) ?_ (fun _=>hHeld) ?_
  rotate_left
  ·intro w9;go_simp;try with_reducible rfl
  try simp only [Act.put,zA,zB,zC,zD,zE,zF]
  refine zT 8 [] (v:=?_) ?_ hHeld ?_
  rotate_left
  ·intro w9 hS9;(try dsimp only at hS9);obtain ⟨q1,q2,q3⟩:=hS9;go_simp;try with_reducible rfl
  try simp only [Act.put,zA,zB,zC,zD,zE,zF]
  refine zP 10 (v:=?_) ?_ (fun _=>hHeld) ?_
  rotate_left
  ·intro w9;go_simp;try with_reducible rfl
  try simp only [Act.put,zA,zB,zC,zD,zE,zF]
  refine zP 11 (v:=?_) ?_ (fun _=>hHeld) ?_
  rotate_left
  ·intro w9;go_simp;try with_reducible rfl
  try simp only [Act.put,zA,zB,zC,zD,zE,zF]
  refine zP 12 (v:=?_) ?_ (fun _=>hHeld) ?_
  rotate_left
  ·intro w9;go_simp;try with_reducible rfl
  try simp only [Act.put,zA,zB,zC,zD,zE,zF]
  refine zT 13 [] (v:=?_) ?_ hHeld ?_
  rotate_left
  ·intro w9 hS9;(try dsimp only at hS9);obtain ⟨q1,q2,q3⟩:=hS9;go_simp;try with_reducible rfl
  try simp only [Act.put,zA,zB,zC,zD,zE,zF]
  refine wpAnyT_next (i:=9) (by kernel_rfl) rfl ?_
  intro K hK
  go_simp
  go_at_call 79
  refine (HFI.out _ (by exact (by repeat (first | (with_reducible first | exact Below.refl _ _ | assumption | refine bset ?_ ?_ _ | refine balloc ?_ _ | refine Below.drew ?_ | refine bdrewN ?_ _ | refine bnext ?_ (by with_reducible assumption)) | exact Nat.le_refl _ | (simp;done) | omega | (simp;omega))))).mono ?_
  rintro e w4 ⟨rfl,hb4⟩
  have B4:Below w1.heap.size w1 w4:=(by repeat (first | (with_reducible first | exact Below.refl _ _ | assumption | refine bset ?_ ?_ _ | refine balloc ?_ _ | refine Below.drew ?_ | refine bdrewN ?_ _ | refine bnext ?_ (by with_reducible assumption)) | exact Nat.le_refl _ | (simp;done) | omega | (simp;omega)))
  have c2:=(B4.cell (p:=⟨F,2,none⟩) hF1).trans b2
  have c4:=(B4.cell (p:=⟨F,4,none⟩) hF1).trans b4
  have c6:=(B4.cell (p:=⟨F,6,none⟩) hF1).trans b6
  clear hb4
  go_simp
  have hHeld2:=And.intro c2 (And.intro c4 c6)
  refine hK.out _ _ (fun _=>hHeld2) ?_
  clear hK K hHeld
  have hHeld:=hHeld2
  clear hHeld2
  try simp only [Act.put,zA,zB,zC,zD,zE,zF]
  refine zP 14 (v:=?_) ?_ (fun _=>hHeld) ?_
  rotate_left
  ·intro w9;go_simp;try with_reducible rfl
  try simp only [Act.put,zA,zB,zC,zD,zE,zF]
  refine zP 15 (v:=?_) ?_ (fun _=>hHeld) ?_
  rotate_left
  ·intro w9;go_simp;try with_reducible rfl
  try simp only [Act.put,zA,zB,zC,zD,zE,zF]
  refine wpAnyT_pure (i:=16) (v:=undef) rfl (by kernel_rfl) (by kernel_rfl) (by kernel_rfl) (fun _ _ _ h=>h) (.inr ⟨by kernel_rfl,rfl⟩) (fun _=>hHeld) ?_ (by decide)
  try simp only [Act.put,zA,zB,zC,zD,zE,zF]
  refine wpAnyT_pure (i:=17) (v:=undef) rfl (by kernel_rfl) (by kernel_rfl) (by kernel_rfl) (fun _ _ _ h=>h) (.inr ⟨by kernel_rfl,rfl⟩) (fun _=>hHeld) ?_ (by decide)
  try simp only [Act.put,zA,zB,zC,zD,zE,zF]
  refine wpAnyT_pure (i:=18) (v:=undef) rfl (by kernel_rfl) (by kernel_rfl) (by kernel_rfl) (fun _ _ _ h=>h) (.inr ⟨by kernel_rfl,rfl⟩) (fun _=>hHeld) ?_ (by decide)
  try simp only [Act.put,zA,zB,zC,zD,zE,zF]
  refine wpAnyT_pure (i:=19) (v:=undef) rfl (by kernel_rfl) (by kernel_rfl) (by kernel_rfl) (fun _ _ _ h=>h) (.inr ⟨by kernel_rfl,rfl⟩) (fun _=>hHeld) ?_ (by decide)
  try simp only [Act.put,zA,zB,zC,zD,zE,zF]
  refine wpAnyT_pure (i:=20) (v:=undef) rfl (by kernel_rfl) (by kernel_rfl) (by kernel_rfl) (fun _ _ _ h=>h) (.inr ⟨by kernel_rfl,rfl⟩) (fun _=>hHeld) ?_ (by decide)
  try simp only [Act.put,zA,zB,zC,zD,zE,zF]
  refine wpAnyT_pure (i:=21) (v:=undef) rfl (by kernel_rfl) (by kernel_rfl) (by kernel_rfl) (fun _ _ _ h=>h) (.inr ⟨by kernel_rfl,rfl⟩) (fun _=>hHeld) ?_ (by decide)
  try simp only [Act.put,zA,zB,zC,zD,zE,zF]
  refine wpAnyT_pure (i:=22) (v:=undef) rfl (by kernel_rfl) (by kernel_rfl) (by kernel_rfl) (fun _ _ _ h=>h) (.inr ⟨by kernel_rfl,rfl⟩) (fun _=>hHeld) ?_ (by decide)
  try simp only [Act.put,zA,zB,zC,zD,zE,zF]
  refine zP 23 (v:=?_) ?_ (fun _=>hHeld) ?_
  rotate_left
  ·intro w9;go_simp;try with_reducible rfl
  try simp only [Act.put,zA,zB,zC,zD,zE,zF]
  refine zP 24 (v:=?_) ?_ (fun _=>hHeld) ?_
  rotate_left
  ·intro w9;go_simp;try with_reducible rfl
  try simp only [Act.put,zA,zB,zC,zD,zE,zF]
  refine wpAnyT_pure (i:=25) (v:=undef) rfl (by kernel_rfl) (by kernel_rfl) (by kernel_rfl) (fun _ _ _ h=>h) (.inr ⟨by kernel_rfl,rfl⟩) (fun _=>hHeld) ?_ (by decide)
  try simp only [Act.put,zA,zB,zC,zD,zE,zF]
  refine wpAnyT_pure (i:=26) (v:=undef) rfl (by kernel_rfl) (by kernel_rfl) (by kernel_rfl) (fun _ _ _ h=>h) (.inr ⟨by kernel_rfl,rfl⟩) (fun _=>hHeld) ?_ (by decide)
  try simp only [Act.put,zA,zB,zC,zD,zE,zF]
  refine wpAnyT_pure (i:=27) (v:=undef) rfl (by kernel_rfl) (by kernel_rfl) (by kernel_rfl) (fun _ _ _ h=>h) (.inr ⟨by kernel_rfl,rfl⟩) (fun _=>hHeld) ?_ (by decide)
  try simp only [Act.put,zA,zB,zC,zD,zE,zF]
  refine wpAnyT_pure (i:=28) (v:=undef) rfl (by kernel_rfl) (by kernel_rfl) (by kernel_rfl) (fun _ _ _ h=>h) (.inr ⟨by kernel_rfl,rfl⟩) (fun _=>hHeld) ?_ (by decide)
  try simp only [Act.put,zA,zB,zC,zD,zE,zF]
  refine wpAnyT_pure (i:=29) (v:=undef) rfl (by kernel_rfl) (by kernel_rfl) (by kernel_rfl) (fun _ _ _ h=>h) (.inr ⟨by kernel_rfl,rfl⟩) (fun _=>hHeld) ?_ (by decide)
  try simp only [Act.put,zA,zB,zC,zD,zE,zF]
  refine wpAnyT_pure (i:=30) (v:=undef) rfl (by kernel_rfl) (by kernel_rfl) (by kernel_rfl) (fun _ _ _ h=>h) (.inr ⟨by kernel_rfl,rfl⟩) (fun _=>hHeld) ?_ (by decide)
  try simp only [Act.put,zA,zB,zC,zD,zE,zF]
  refine wpAnyT_pure (i:=31) (v:=undef) rfl (by kernel_rfl) (by kernel_rfl) (by kernel_rfl) (fun _ _ _ h=>h) (.inr ⟨by kernel_rfl,rfl⟩) (fun _=>hHeld) ?_ (by decide)
  try simp only [Act.put,zA,zB,zC,zD,zE,zF]
  refine wpAnyT_pure (i:=32) (v:=undef) rfl (by kernel_rfl) (by kernel_rfl) (by kernel_rfl) (fun _ _ _ h=>h) (.inr ⟨by kernel_rfl,rfl⟩) (fun _=>hHeld) ?_ (by decide)
  try simp only [Act.put,zA,zB,zC,zD,zE,zF]
  refine wpAnyT_pure (i:=33) (v:=undef) rfl (by kernel_rfl) (by kernel_rfl) (by kernel_rfl) (fun _ _ _ h=>h) (.inr ⟨by kernel_rfl,rfl⟩) (fun _=>hHeld) ?_ (by decide)
  try simp only [Act.put,zA,zB,zC,zD,zE,zF]
  refine zP 34 (v:=?_) ?_ (fun _=>hHeld) ?_
  rotate_left
  ·intro w9;go_simp;try with_reducible rfl
  try simp only [Act.put,zA,zB,zC,zD,zE,zF]
  refine wpAnyT_done (by kernel_rfl) ?_ _
  have HB4:=Lib.hid B4
  clear B4
  go_wp2
  go_end0
  exact HEND.out _ (by first | exact HB4.out | exact Below.drew HB4.out) HK.out
end Go.Proofs.Ytdldfllllgogoaa
