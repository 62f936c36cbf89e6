/- Texts in one: RecvR3, RecvR4, Recv4, MapR, RecvR5, RecvR6, Recv5. No condition. -/
import Derived.Test.YtdldfllllgogoaaPipM7
import Derived.Test.YtdldfllllgogoaaPipM4
import Derived.Maps.RangeWalk
namespace Go.Proofs.Ytdldfllllgogoaa
open Go.RowKit Go.Maps Go.WideShapes Go.ChangeMaps Go.MapKept
set_option linter.unusedSimpArgs false
theorem rv.cells_len (l:List Rng):(l.flatMap Rng.cells).length=l.length * 2:=flatMap_len Rng.cells 2 (fun _=>rfl) l
theorem rv.set_last (o:List Rng) (x:Rng) (v:Int):((o ++ [x]).flatMap Rng.cells).set (o.length * 2+1) (.int .i64 v)=(o ++ [(⟨x.lo,v⟩:Rng)]).flatMap Rng.cells:=by
 rw [List.flatMap_append,List.flatMap_append,List.set_append_right _ _ (by rw [rv.cells_len];omega),rv.cells_len,show o.length * 2+1 - o.length * 2=1 by omega]
 rfl
set_option maxRecDepth 100000 in
set_option maxHeartbeats 2000000 in
theorem ref_ranges (G Mb n:Nat) (room taken end_ d:Int) (known:Bool) (f:Int→Option Value) (K:Nat) (w:World) (h:IAt w G Mb n room taken end_ known f) (h0:0≤taken) (h1:taken≤d) (h2:d≤2000000) (hf:∀ k,taken≤k→k<d→f k≠none) (hd:f d=none) (hr:room≤4096) (hK:taken+room+1=d+K) :
  Calls Try.prog 45 #[.pointer (some ⟨G,0,none⟩)] w fun e w'=>∃ A' c',e=.returned (.slice A' (rv.runs (rv.isP f) d K).length c')∧Own w' w.heap.size 78 2 A' (rv.runs (rv.isP f) d K).length c' ((rv.runs (rv.isP f) d K).flatMap Rng.cells)∧Below w.heap.size w w':=by
 have H:=Lib.hid h
 have HLOW:=Lib.hid (ref_Low G Mb n room taken end_ d known f w h h0 h1 (by omega) hf hd)
 have HKK:=Lib.hid hK
 have hKb:K≤4097:=by omega
 have hMG:=h.map.lt
 clear h hf hd hK
 go_enter Try.func45,Try.ntmps45
 go_wp2_with (go_at_call 43;refine HLOW.out.mono ?_;rintro e w1 ⟨rfl,hb1⟩;have HB1:=Lib.hid hb1;clear hb1)
 go_loopw [4,5] (fun out i wr=>∃ (k m c1:Nat) (A1:Option Addr),k≤K∧i=.int .i64 (d+(k:Int))∧out=.slice A1 m c1∧m≤k∧Hid (m=(rv.runs (rv.isP f) d k).length∧Own wr w1.heap.size 78 2 A1 m c1 ((rv.runs (rv.isP f) d k).flatMap Rng.cells)∧Below w1.heap.size w1 wr)) (fun _ i _=>(d+K - intOf i).toNat)
 case atStart=>exact ⟨0,0,0,none,by omega,by simp,rfl,by omega,Lib.hid ⟨rfl,Own.nil _ _ _ _,Below.refl _ _⟩⟩
 case round=>
  obtain ⟨k,m,c1,A1,hk,rfl,rfl,hm,HJ⟩:=hrel
  rename World=>wr
  have HW:Hid (Below w.heap.size w wr):=Lib.hid (HB1.out.trans (HJ.out.2.2.mono HB1.out.size))
  have HN:=Lib.hid (H.out.next HW.out)
  have c0:=HN.out.blk.get 0
  have c1':=HN.out.blk.get 1
  have c2:=HN.out.blk.get 2
  simp only [List.getElem?_toArray,List.getElem?_cons_succ,List.getElem?_cons_zero] at c0 c1' c2
  obtain ⟨q,hq⟩:∃ q:Int,q=d+(k:Int):=⟨_,rfl⟩
  obtain ⟨t,ht⟩:∃ t:Int,taken+room=t:=⟨_,rfl⟩
  have HT:=Lib.hid ht
  have HQ:=Lib.hid hq
  have hqb:0≤q∧q≤3000000:=by omega
  have htb:-5000≤t∧t≤3000000:=by have:=HKK.out;omega
  rw [← hq]
  by_cases hlt:k<K
  ·have hlt':q<t+1:=by have:=HKK.out;omega
   clear hq
   cases hp:f q with
   | none=>
    have HV:Hid (mapI f (.int .i64 q)=none):=Lib.hid (by rw [mapI_at];exact hp)
    have HWF:Hid ((Lit.int .i64 q).wf=true):=Lib.hid (wf_i64 (by unfold IntOk;omega))
    clear hp
    go_wp2
    go_quiet (fail)
    go_wp2_with (at_lookup;refine wp_mlook_ok _ rfl _ _ _ rfl (Go.Maps.int_keyed Try.underlying3) Try.underlying68 (z:=.int .u8 0) (by kernel_rfl) rfl (HN.out.map.drewN _) _ rfl (Go.Maps.keyOf_int_mk Try.underlying3 HWF.out) ?_;rw [HV.out])
    have hr0:=rv.runs_no (P:=rv.isP f) (lo:=d) (k:=k) (by unfold rv.isP;rw [← HQ.out];have:=HV.out;rw [mapI_at] at this;rw [this];rfl)
    exact ⟨⟨k+1,m,c1,A1,by omega,by have:=HQ.out;congr 1;omega,rfl,by omega,Lib.hid (by rw [hr0];exact ⟨HJ.out.1,HJ.out.2.1.drewN _,bdrewN HJ.out.2.2 _⟩)⟩,by have:=HQ.out;simp [intOf];omega⟩
   | some u=>
    have HV:Hid (mapI f (.int .i64 q)=some u):=Lib.hid (by rw [mapI_at];exact hp)
    have HWF:Hid ((Lit.int .i64 q).wf=true):=Lib.hid (wf_i64 (by unfold IntOk;omega))
    have hP:rv.isP f (d+(k:Int))=true:=by unfold rv.isP;rw [← HQ.out,hp];rfl
    clear hp
    have hzz:w1.heap.size≤wr.heap.size:=HJ.out.2.2.size
    rcases List.eq_nil_or_concat (rv.runs (rv.isP f) d k) with e | ⟨o,x,e⟩
    ·have HS:=Lib.hid (rv.runs_first hP e)
     have hm0:m=0:=by rw [HJ.out.1,e];rfl
     subst hm0
     have HO:Hid (Own wr w1.heap.size 78 2 A1 0 c1 []∧Below w1.heap.size w1 wr):=Lib.hid ⟨by have h:=HJ.out.2.1;rw [e] at h;exact h,HJ.out.2.2⟩
     clear HJ e hP
     go_wp2
     go_quiet (fail)
     go_wp2_with (first
      | (at_lookup;refine wp_mlook_ok _ rfl _ _ _ rfl (Go.Maps.int_keyed Try.underlying3) Try.underlying68 (z:=.int .u8 0) (by kernel_rfl) rfl (HN.out.map.drewN _) _ rfl (Go.Maps.keyOf_int_mk Try.underlying3 HWF.out) ?_;rw [HV.out])
      | (at_builtin;refine wp_app _ rfl _ _ _ rfl elemRng w1.heap.size A1 0 c1 [] rfl ((HO.out.1.drewN _).alloc _) _ 1 1 [.int .i64 q,.int .i64 (q+1)] rfl rfl (Cells.newAt _ _ _ (by simp)) (by simp [Value.oneCell']) (by omega) (by unfold maxLen;omega) (by simp;omega) ?_;intro A4 c4 w4 hO4 hg4;have HX4:Hid (Own w4 w1.heap.size 78 2 A4 1 c4 [.int .i64 q,.int .i64 (q+1)]∧Below w1.heap.size w1 w4):=Lib.hid ⟨hO4,Grew.step (balloc (bdrewN HO.out.2 _) _) hg4 (fun g hg=>(HO.out.1.lt g hg).1)⟩;clear hO4 hg4))
     exact ⟨⟨k+1,1,c4,A4,by omega,by have:=HQ.out;congr 1;omega,rfl,by omega,Lib.hid (by rw [HS.out,← HQ.out];exact ⟨rfl,HX4.out.1,HX4.out.2⟩)⟩,by have:=HQ.out;simp [intOf];omega⟩
    ·rw [List.concat_eq_append] at e
     have hm0:m=o.length+1:=by rw [HJ.out.1,e,List.length_append];rfl
     subst hm0
     have hO:=HJ.out.2.1
     rw [e] at hO
     obtain ⟨g,rfl,hg1,hg2,hcl⟩:=Own.cell hO (j:=o.length * 2+1) (u:=.int .i64 x.hi) (by rw [flatMap_at Rng.cells 2 (fun _=>rfl) (o ++ [x]) o.length x (by simp) 1 (by decide)];rfl)
     have hfr:=hO.frozenAt (o.length * 2+1)
     have HO:Hid (Own wr w1.heap.size 78 2 (some ⟨g,0,none⟩) (o.length+1) c1 ((o ++ [x]).flatMap Rng.cells)∧Below w1.heap.size w1 wr):=Lib.hid ⟨hO,HJ.out.2.2⟩
     have ho1:(((o.length+1:Nat):Int)) - 1=(o.length:Int):=by omega
     by_cases hx:x.hi=q
     ·have HS:=Lib.hid (rv.runs_on hP e (by rw [hx];exact HQ.out))
      rw [hx] at hcl
      have HX4:Hid (∀ nq,Own ((wr.drewN nq).setCell ⟨g,o.length * 2+1,none⟩ (.int .i64 (q+1))) w1.heap.size 78 2 (some ⟨g,0,none⟩) (o.length+1) c1 ((o ++ [(⟨x.lo,q+1⟩:Rng)]).flatMap Rng.cells)∧Below w1.heap.size w1 ((wr.drewN nq).setCell ⟨g,o.length * 2+1,none⟩ (.int .i64 (q+1)))):=Lib.hid (fun nq=>⟨by
       have h:=(hO.drewN nq).setAt (j:=o.length * 2+1) (.int .i64 (q+1))
       rw [rv.set_last] at h
       exact h,bset (bdrewN HO.out.2 nq) hg1 _⟩)
      clear HJ e hP hO
      go_wp2
      go_quiet (fail)
      go_wp2_with (at_lookup;refine wp_mlook_ok _ rfl _ _ _ rfl (Go.Maps.int_keyed Try.underlying3) Try.underlying68 (z:=.int .u8 0) (by kernel_rfl) rfl (HN.out.map.drewN _) _ rfl (Go.Maps.keyOf_int_mk Try.underlying3 HWF.out) ?_;rw [HV.out])
      exact ⟨⟨k+1,o.length+1,c1,some ⟨g,0,none⟩,by omega,by have:=HQ.out;congr 1;omega,rfl,by omega,Lib.hid (by rw [HS.out,← HQ.out];exact ⟨by rw [List.length_append];rfl,(HX4.out _).1,(HX4.out _).2⟩)⟩,by have:=HQ.out;simp [intOf];omega⟩
     ·have HS:=Lib.hid (rv.runs_new hP e (fun h=>hx (by rw [h];exact HQ.out.symm)))
      clear HJ e hP hO
      generalize x.hi=xh at *
      go_wp2
      go_quiet (fail)
      go_wp2_with (first
       | (at_lookup;refine wp_mlook_ok _ rfl _ _ _ rfl (Go.Maps.int_keyed Try.underlying3) Try.underlying68 (z:=.int .u8 0) (by kernel_rfl) rfl (HN.out.map.drewN _) _ rfl (Go.Maps.keyOf_int_mk Try.underlying3 HWF.out) ?_;rw [HV.out])
       | (at_builtin;refine wp_app _ rfl _ _ _ rfl elemRng w1.heap.size (some ⟨g,0,none⟩) (o.length+1) c1 ((o ++ [x]).flatMap Rng.cells) rfl ((HO.out.1.drewN _).alloc _) _ 1 1 [.int .i64 q,.int .i64 (q+1)] rfl rfl (Cells.newAt _ _ _ (by simp)) (by simp [Value.oneCell']) (by omega) (by unfold maxLen;omega) (by simp;omega) ?_;intro A4 c4 w4 hO4 hg4;have HX4:Hid (Own w4 w1.heap.size 78 2 A4 (o.length+1+1) c4 ((o ++ [x]).flatMap Rng.cells ++ [.int .i64 q,.int .i64 (q+1)])∧Below w1.heap.size w1 w4):=Lib.hid ⟨hO4,Grew.step (balloc (bdrewN HO.out.2 _) _) hg4 (fun g hg=>(HO.out.1.lt g hg).1)⟩;clear hO4 hg4))
      exact ⟨⟨k+1,o.length+1+1,c4,A4,by omega,by have:=HQ.out;congr 1;omega,rfl,by omega,Lib.hid (by
       rw [HS.out,← HQ.out]
       refine ⟨by rw [List.length_append,List.length_append];rfl,?_,HX4.out.2⟩
       have h:=HX4.out.1
       rw [List.flatMap_append (xs:=o ++ [x])]
       exact h)⟩,by have:=HQ.out;simp [intOf];omega⟩
  ·have hlt':¬ q<t+1:=by have:=HKK.out;omega
   obtain rfl:k=K:=by omega
   have HE:=Lib.hid HJ.out
   clear hq HJ
   go_wp2
   go_quiet (fail)
   go_wp2
   go_ret
   have hE:=HE.out
   obtain ⟨e1,e2,e3⟩:=hE
   subst e1
   exact ⟨A1,c1,rfl,(e2.drewN _).base_le HB1.out.size,bdrewN (HB1.out.trans (e3.mono HB1.out.size)) _⟩
end Go.Proofs.Ytdldfllllgogoaa
namespace Go.Proofs.Ytdldfllllgogoaa
open Go.RowKit Go.Maps Go.WideShapes Go.ChangeMaps Go.MapKept
set_option linter.unusedSimpArgs false
set_option maxHeartbeats 400000 in
theorem ref_NewInlet (room:Int) (w:World) :
  Calls Try.prog 22 #[.int .i64 room] w fun e w'=>∃ G Mb,e=.returned (.pointer (some ⟨G,0,none⟩))∧IAt w' G Mb 0 room 0 0 false (fun _=>none)∧w.heap.size≤G∧w.heap.size≤Mb∧Below w.heap.size w w':=by
 have hmm:=@run_makeMap Try.prog
 go_enter Try.func22,Try.ntmps22
 go_wp2
 go_ret
 refine ⟨w.heap.size+1,w.heap.size,by simp,⟨?_,?_⟩,by omega,by omega,(by repeat (first | (with_reducible first | exact Below.refl _ _ | assumption | refine bset ?_ ?_ _ | refine balloc ?_ _ | refine Below.drew ?_ | refine bdrewN ?_ _ | refine bnext ?_ (by with_reducible assumption)) | exact Nat.le_refl _ | (simp;done) | omega | (simp;omega)))⟩
 ·have h:=BlkA.new (w.alloc (.map #[] 0)) 107 #[.int .i64 room,.map (some w.heap.size),.int .i64 0,.int .i64 0,.bool false]
  simpa using h
 ·rw [← mapI_none]
  exact (MapV.made w _ _).alloc _
end Go.Proofs.Ytdldfllllgogoaa
namespace Go.Proofs.Ytdldfllllgogoaa
open Go.RowKit
set_option linter.unusedSimpArgs false
def ArrRes (w:World) (B F:Nat) (room:Int) (l:List Rng) (r:Int × rv.St) (D M:Option Addr) (e:Ending) (w':World):Prop:=
 ∃ D1 dc1 M1 mc1,e=.returned (.int .i64 r.1)∧HAt w' B F room r.2 D1 dc1 M1 mc1∧Stays w w' (HF F D M l)∧∀ k,HF F D1 M1 r.2.more k→HF F D M l k∨w.heap.size≤k
theorem ArrRes.no {w w':World} {B F:Nat} {room:Int} {s:rv.St} {D M:Option Addr} {dc mc:Nat} {r:Int × rv.St} {c:Int} (h:HAt w B F room s D dc M mc) (hr:r=(c,s)) (hb:Below w.heap.size w w'):ArrRes w B F room s.more r D M (.returned (.int .i64 c)) w':=by
 subst hr
 exact ⟨D,dc,M,mc,rfl,h.next hb,Stays.of_below hb _,fun k hk=>.inl hk⟩
theorem rv.arrive_range {room:Int} {s:rv.St} {a:Arrival} (h:a.from_<0∨1048576≤a.from_∨1048576≤a.from_+a.data.length):rv.arrive room s a=(2,s):=by
 unfold rv.arrive rv.to_
 rw [if_pos h]
theorem rv.arrive_size {room:Int} {s:rv.St} {a:Arrival} (h:¬ (a.from_<0∨1048576≤a.from_∨1048576≤a.from_+a.data.length)) (h2:64<a.data.length):rv.arrive room s a=(1,s):=by
 unfold rv.arrive rv.to_
 rw [if_neg h,if_pos h2]
section
variable {w w':World} {B F:Nat} {room:Int} {s:rv.St} {D M:Option Addr} {dc mc:Nat}
theorem HAt.rowKeep (h:HAt w B F room s D dc M mc) (j:Nat) (v:Value) {l:List Rng} {M1:Option Addr} {mc1:Nat} (hm:SlRep Rng.rep w (rv.InM w B F D) l M1 mc1):SlRep Rng.rep (w.setCell ⟨F,j,none⟩ v) (rv.InM (w.setCell ⟨F,j,none⟩ v) B F D) l M1 mc1:=by
 have hs:=Stays.set w F j v
 exact hm.keep fun k hk=>⟨⟨hk.1,Nat.lt_of_lt_of_le hk.2.1 hs.size,hk.2.2⟩,hs.block k hk.2.1 hk.2.2.1⟩
theorem HAt.put2 (h:HAt w B F room s D dc M mc) (d:Int):HAt (w.setCell ⟨F,2,none⟩ (.int .i64 d)) B F room { s with done:=d } D dc M mc:=
 ⟨h.lo,by simpa using h.blk.set 2 (.int .i64 d),h.data.setCell (by exact h.apart) _,h.rowKeep _ _ h.more⟩
theorem HAt.put3 (h:HAt w B F room s D dc M mc) {l:List Rng} {M1:Option Addr} {mc1:Nat} (hm:SlRep Rng.rep w (rv.InM w B F D) l M1 mc1):HAt (w.setCell ⟨F,3,none⟩ (.slice M1 l.length mc1)) B F room { s with more:=l } D dc M1 mc1:=
 ⟨h.lo,by simpa using h.blk.set 3 (.slice M1 l.length mc1),h.data.setCell (by exact h.apart) _,h.rowKeep _ _ hm⟩
theorem HAt.put4 (h:HAt w B F room s D dc M mc) (d:Int):HAt (w.setCell ⟨F,4,none⟩ (.int .i64 d)) B F room { s with taken:=d } D dc M mc:=
 ⟨h.lo,by simpa using h.blk.set 4 (.int .i64 d),h.data.setCell (by exact h.apart) _,h.rowKeep _ _ h.more⟩
theorem HAt.put5 (h:HAt w B F room s D dc M mc) (d:Int):HAt (w.setCell ⟨F,5,none⟩ (.int .i64 d)) B F room { s with end_:=d } D dc M mc:=
 ⟨h.lo,by simpa using h.blk.set 5 (.int .i64 d),h.data.setCell (by exact h.apart) _,h.rowKeep _ _ h.more⟩
end
/-- ahead of the end of arrive -/
structure ArrEnd (w wx:World) (B F:Nat) (room:Int) (s s1:rv.St) (r:Int × rv.St) (t:Int) (D M:Option Addr) (mc:Nat) (d1:Int) (m1:List Rng) (D1:Option Addr) (dc1:Nat) (M1:Option Addr) (mc1:Nat) (ak af:Int) (G:Option Addr) (al gc:Nat) (an:Bool) (ac:Int):Prop where
 at_:HAt wx B F room s1 D1 dc1 M mc
 res:r=(0,{ s1 with done:=d1,more:=m1,end_:=if an=true then t else s1.end_ })
 more:SlRep Rng.rep wx (rv.InM wx B F D1) m1 M1 mc1
 stay:Stays w wx (HW F D)
 na:Anew w D1 D
 nm:∀ k,m1≠[]→blkOf M1=some k→(s.more≠[]∧blkOf M=some k)∨w.heap.size≤k
 arg:BlkA wx w.heap.size 73 #[.int .i64 ak,.int .i64 af,.slice G al gc,.bool an,.int .i64 ac]
/-- the arrival may be heard -/
structure Pass (s:rv.St) (t:Int) (fin:Bool):Prop where
 le:0≤s.end_→t≤s.end_∧(fin=true→t=s.end_)
 be:fin=true→rv.beyond s≤t
/-- behind the switch of arrive -/
structure ArrMid (w wx:World) (ak af:Int) (G:Option Addr) (al gc:Nat) (an:Bool) (ac:Int):Prop where
 below:Below w.heap.size w wx
 arg:BlkA wx w.heap.size 73 #[.int .i64 ak,.int .i64 af,.slice G al gc,.bool an,.int .i64 ac]
theorem rv.arrive_state {room:Int} {s:rv.St} {a:Arrival} (h:¬ (a.from_<0∨1048576≤a.from_∨1048576≤a.from_+a.data.length)) (h2:¬ 64<a.data.length) (h3:(0≤s.end_∧(s.end_<rv.to_ a∨a.fin=true∧rv.to_ a≠s.end_))∨a.fin=true∧rv.to_ a<rv.beyond s):rv.arrive room s a=(10,s):=by
 unfold rv.arrive
 rw [if_neg (by unfold rv.to_;exact h),if_neg h2,if_pos h3]
section
variable {room:Int} {s:rv.St} {a:Arrival} (h:¬ (a.from_<0∨1048576≤a.from_∨1048576≤a.from_+a.data.length)) (h2:¬ 64<a.data.length) (h3:Pass s (rv.to_ a) a.fin)
include h h2 h3
theorem rv.arrive_past:rv.arrive room s a=if rv.frOf s a<rv.upOf room s a then (if 16<(had.addTo s.done s.more ⟨rv.frOf s a,rv.upOf room s a⟩).2.length then (9,s) else (0,{ s with done:=(had.addTo s.done s.more ⟨rv.frOf s a,rv.upOf room s a⟩).1,more:=(had.addTo s.done s.more ⟨rv.frOf s a,rv.upOf room s a⟩).2,data:=rv.kept s.more s.data (rv.frOf s a).toNat (rv.part room s a),end_:=if a.fin=true then rv.to_ a else s.end_ })) else (0,{ s with end_:=if a.fin=true then rv.to_ a else s.end_ }):=by
 unfold rv.arrive
 rw [if_neg (by unfold rv.to_;exact h),if_neg h2,if_neg]
 rintro (⟨e0,e1 | ⟨e1,e2⟩⟩ | ⟨e1,e2⟩)
 ·have:=(h3.le e0).1;omega
 ·exact e2 ((h3.le e0).2 e1)
 ·have:=h3.be e1;omega
theorem rv.arrive_none (hl:¬ rv.frOf s a<rv.upOf room s a):rv.arrive room s a=(0,{ s with end_:=if a.fin=true then rv.to_ a else s.end_ }):=by
 rw [rv.arrive_past h h2 h3,if_neg hl]
theorem rv.arrive_full (hl:rv.frOf s a<rv.upOf room s a) (hf:16<(had.addTo s.done s.more ⟨rv.frOf s a,rv.upOf room s a⟩).2.length):rv.arrive room s a=(9,s):=by
 rw [rv.arrive_past h h2 h3,if_pos hl,if_pos hf]
theorem rv.arrive_ok (hl:rv.frOf s a<rv.upOf room s a) (hf:¬ 16<(had.addTo s.done s.more ⟨rv.frOf s a,rv.upOf room s a⟩).2.length):rv.arrive room s a=(0,{ s with done:=(had.addTo s.done s.more ⟨rv.frOf s a,rv.upOf room s a⟩).1,more:=(had.addTo s.done s.more ⟨rv.frOf s a,rv.upOf room s a⟩).2,data:=rv.kept s.more s.data (rv.frOf s a).toNat (rv.part room s a),end_:=if a.fin=true then rv.to_ a else s.end_ }):=by
 rw [rv.arrive_past h h2 h3,if_pos hl,if_neg hf]
end
set_option maxRecDepth 100000 in
set_option maxHeartbeats 2000000 in
theorem recv_arrive (B F:Nat) (room:Int) (s:rv.St) (D:Option Addr) (dc:Nat) (M:Option Addr) (mc:Nat) (a:Arrival) (G:Option Addr) (gc:Nat) (S:Nat→Prop) (w:World) (h:HAt w B F room s D dc M mc) (hi:rv.Inv room s) (hr:1≤room∧room≤4096) (hG:SlRep Rep.u8 w S a.data G gc) (hS:∀ k,S k→k<w.heap.size∧¬ HF F D M s.more k) (ha:IntOk a.from_) (hd:a.data.length≤140737488351232) :
  Calls Try.prog 39 #[.pointer (some ⟨F,0,none⟩),.agg #[.int .i64 a.kind,.int .i64 a.from_,.slice G a.data.length gc,.bool a.fin,.int .i64 a.count]] w (ArrRes w B F room s.more (rv.arrive room s a) D M):=by
 obtain ⟨ak,af,ad,an,ac⟩:=a
 simp only at hG ha hd ⊢
 unfold IntOk at ha
 have H:=Lib.hid h
 have HI:=Lib.hid hi
 have HG:=Lib.hid hG
 have HS:=Lib.hid hS
 have hFl:=h.blk.lt
 have d0:=h.blk.get 0
 have d1:=h.blk.get 1
 have d2:=h.blk.get 2
 have d3:=h.blk.get 3
 have d4:=h.blk.get 4
 have d5:=h.blk.get 5
 simp only [List.getElem?_toArray,List.getElem?_cons_succ,List.getElem?_cons_zero] at d0 d1 d2 d3 d4 d5
 obtain ⟨al,hal⟩:∃ al:Nat,al=ad.length:=⟨_,rfl⟩
 have HAL:=Lib.hid hal
 have key:∀ c:Int,rv.arrive room s ⟨ak,af,ad,an,ac⟩=(c,s)→∀ w',Below w.heap.size w w'→ArrRes w B F room s.more (rv.arrive room s ⟨ak,af,ad,an,ac⟩) D M (.returned (.int .i64 c)) w':=fun c hc w' hb=>ArrRes.no h hc hb
 have KEY:=Lib.hid key
 have HA2:Hid (af<0∨1048576≤af∨1048576≤af+al→rv.arrive room s ⟨ak,af,ad,an,ac⟩=(2,s)):=Lib.hid (fun h=>rv.arrive_range (by rw [hal] at h;exact h))
 have HA1:Hid (¬ (af<0∨1048576≤af∨1048576≤af+al)→64<al→rv.arrive room s ⟨ak,af,ad,an,ac⟩=(1,s)):=Lib.hid (fun h h2=>rv.arrive_size (by rw [hal] at h;exact h) (by rw [hal] at h2;exact h2))
 rw [← hal] at hd ⊢
 clear h hi hG hS hal key
 by_cases c1:af<0
 ·have HR:=Lib.hid (HA2.out (.inl c1))
  go_enter Try.func39,Try.ntmps39
  go_wp2
  go_ret
  exact KEY.out _ HR.out _ (by repeat (first | (with_reducible first | exact Below.refl _ _ | assumption | refine bset ?_ ?_ _ | refine balloc ?_ _ | refine Below.drew ?_ | refine bdrewN ?_ _ | refine bnext ?_ (by with_reducible assumption)) | exact Nat.le_refl _ | (simp;done) | omega | (simp;omega)))
 by_cases c2:1048576≤af
 ·have HR:=Lib.hid (HA2.out (.inr (.inl c2)))
  go_enter Try.func39,Try.ntmps39
  go_wp2
  go_ret
  exact KEY.out _ HR.out _ (by repeat (first | (with_reducible first | exact Below.refl _ _ | assumption | refine bset ?_ ?_ _ | refine balloc ?_ _ | refine Below.drew ?_ | refine bdrewN ?_ _ | refine bnext ?_ (by with_reducible assumption)) | exact Nat.le_refl _ | (simp;done) | omega | (simp;omega)))
 by_cases c3:1048576≤af+al
 ·have HR:=Lib.hid (HA2.out (.inr (.inr c3)))
  go_enter Try.func39,Try.ntmps39
  go_wp2
  go_ret
  exact KEY.out _ HR.out _ (by repeat (first | (with_reducible first | exact Below.refl _ _ | assumption | refine bset ?_ ?_ _ | refine balloc ?_ _ | refine Below.drew ?_ | refine bdrewN ?_ _ | refine bnext ?_ (by with_reducible assumption)) | exact Nat.le_refl _ | (simp;done) | omega | (simp;omega)))
 by_cases c4:64<al
 ·have HR:=Lib.hid (HA1.out (by omega) c4)
  have c4':(64:Int)<(al:Int):=by omega
  go_enter Try.func39,Try.ntmps39
  go_wp2
  go_ret
  exact KEY.out _ HR.out _ (by repeat (first | (with_reducible first | exact Below.refl _ _ | assumption | refine bset ?_ ?_ _ | refine balloc ?_ _ | refine Below.drew ?_ | refine bdrewN ?_ _ | refine bnext ?_ (by with_reducible assumption)) | exact Nat.le_refl _ | (simp;done) | omega | (simp;omega)))
 clear HA1 HA2
 have c4':¬ (64:Int)<(al:Int):=by omega
 have HPS:Hid ((0≤s.end_∧(s.end_<af+al∨an=true∧af+al≠s.end_))∨an=true∧af+al<rv.beyond s→rv.arrive room s ⟨ak,af,ad,an,ac⟩=(10,s)):=Lib.hid (fun h=>rv.arrive_state (by simp only;rw [← HAL.out];omega) (by simp only;rw [← HAL.out];exact c4) (by unfold rv.to_;simp only;rw [← HAL.out];exact h))
 have HN:=Lib.hid HI.out.few
 have HBY:=Lib.hid (fun wx (hb:Below w.heap.size w wx)=>recv_beyond B F room s D dc M mc wx (H.out.next hb) HN.out)
 have HFI:=Lib.hid HI.out.fin
 have HEE:Hid (s.end_=s.end_):=Lib.hid rfl
 obtain ⟨t,ht⟩:∃ t,af+(al:Int)=t:=⟨_,rfl⟩
 have htb:0≤t∧t<1048576:=by omega
 have HT:=Lib.hid ht
 go_enter Try.func39,Try.ntmps39
 go_upto_block 0 with fail
 go_cut [5] (fun s5 wx=>s5=.int .i64 t∧Hid (ArrMid w wx ak af G al gc an ac)∧Hid (Pass s t an))
 case first=>
  rw [HT.out] at HPS
  obtain ⟨e,he⟩:∃ e,e=s.end_:=⟨_,rfl⟩
  have HE:=Lib.hid he
  rw [← he] at d5 HPS HFI
  obtain ⟨by_,hby⟩:∃ y,y=rv.beyond s:=⟨_,rfl⟩
  have HY:=Lib.hid hby
  rw [← hby] at HPS HBY
  clear he hby
  have hbad:∀ wx,Below w.heap.size w wx→rv.arrive room s ⟨ak,af,ad,an,ac⟩=(10,s)→ArrRes w B F room s.more (rv.arrive room s ⟨ak,af,ad,an,ac⟩) D M (.returned (.int .i64 10)) wx:=fun wx hb hc=>KEY.out 10 hc wx hb
  have HBAD:=Lib.hid hbad
  have hmid:ArrMid w (w.alloc (.cells #[.int .i64 ak,.int .i64 af,.slice G al gc,.bool an,.int .i64 ac] 73)) ak af G al gc an ac:=⟨balloc (bself w) _,BlkA.new _ _ _⟩
  have HMID:=Lib.hid hmid
  clear hbad hmid KEY
  cases an with
  | true=>
   by_cases e1:0≤e
   ·by_cases e2:e<t
    ·have e2':t > e:=e2
     have HR:=Lib.hid (HPS.out (.inl ⟨e1,.inl e2⟩))
     clear HPS
     go_wp2_with (first | ((go_at_call 70;((with_reducible refine (HBY.out _ (by exact balloc (bself w) _)).mono ?_);rintro _ _ ⟨rfl,rfl⟩))) | fail)
     go_ret
     exact HBAD.out _ (by repeat (first | (with_reducible first | exact Below.refl _ _ | assumption | refine bset ?_ ?_ _ | refine balloc ?_ _ | refine Below.drew ?_ | refine bdrewN ?_ _ | refine bnext ?_ (by with_reducible assumption)) | exact Nat.le_refl _ | (simp;done) | omega | (simp;omega))) HR.out
    by_cases e3:t=e
    ·have HTE:=Lib.hid e3
     subst e3
     by_cases e4:t<by_
     ·have HR:=Lib.hid (HPS.out (.inr ⟨rfl,e4⟩))
      clear HPS
      go_wp2_with (first | ((go_at_call 70;((with_reducible refine (HBY.out _ (by exact balloc (bself w) _)).mono ?_);rintro _ _ ⟨rfl,rfl⟩))) | fail)
      go_ret
      exact HBAD.out _ (by repeat (first | (with_reducible first | exact Below.refl _ _ | assumption | refine bset ?_ ?_ _ | refine balloc ?_ _ | refine Below.drew ?_ | refine bdrewN ?_ _ | refine bnext ?_ (by with_reducible assumption)) | exact Nat.le_refl _ | (simp;done) | omega | (simp;omega))) HR.out
     have HPASS:Hid (Pass s t true):=Lib.hid ⟨fun _=>by rw [← HE.out];exact ⟨Int.le_refl _,fun _=>rfl⟩,fun _=>by rw [← HY.out];omega⟩
     clear HPS
     go_wp2_with (first | ((go_at_call 70;((with_reducible refine (HBY.out _ (by exact balloc (bself w) _)).mono ?_);rintro _ _ ⟨rfl,rfl⟩))) | fail)
     go_meet
     exact ⟨rfl,HMID,HPASS⟩
    ·have hne:(t != e)=true:=by simpa using e3
     have hne2:(t == e)=false:=by simpa using e3
     have HR:=Lib.hid (HPS.out (.inl ⟨e1,.inr ⟨rfl,e3⟩⟩))
     clear HPS
     go_wp2_with (first | ((go_at_call 70;((with_reducible refine (HBY.out _ (by exact balloc (bself w) _)).mono ?_);rintro _ _ ⟨rfl,rfl⟩))) | fail)
     go_ret
     exact HBAD.out _ (by repeat (first | (with_reducible first | exact Below.refl _ _ | assumption | refine bset ?_ ?_ _ | refine balloc ?_ _ | refine Below.drew ?_ | refine bdrewN ?_ _ | refine bnext ?_ (by with_reducible assumption)) | exact Nat.le_refl _ | (simp;done) | omega | (simp;omega))) HR.out
   ·by_cases e4:t<by_
    ·have HR:=Lib.hid (HPS.out (.inr ⟨rfl,e4⟩))
     clear HPS
     go_wp2_with (first | ((go_at_call 70;((with_reducible refine (HBY.out _ (by exact balloc (bself w) _)).mono ?_);rintro _ _ ⟨rfl,rfl⟩))) | fail)
     go_ret
     exact HBAD.out _ (by repeat (first | (with_reducible first | exact Below.refl _ _ | assumption | refine bset ?_ ?_ _ | refine balloc ?_ _ | refine Below.drew ?_ | refine bdrewN ?_ _ | refine bnext ?_ (by with_reducible assumption)) | exact Nat.le_refl _ | (simp;done) | omega | (simp;omega))) HR.out
    have HPASS:Hid (Pass s t true):=Lib.hid ⟨fun h=>absurd (by rw [HE.out];exact h) e1,fun _=>by rw [← HY.out];omega⟩
    clear HPS
    go_wp2_with (first | ((go_at_call 70;((with_reducible refine (HBY.out _ (by exact balloc (bself w) _)).mono ?_);rintro _ _ ⟨rfl,rfl⟩))) | fail)
    go_meet
    exact ⟨rfl,HMID,HPASS⟩
  | false=>
   by_cases e1:0≤e
   ·by_cases e2:e<t
    ·have e2':t > e:=e2
     have HR:=Lib.hid (HPS.out (.inl ⟨e1,.inl e2⟩))
     clear HPS
     go_wp2_with (first | ((go_at_call 70;((with_reducible refine (HBY.out _ (by exact balloc (bself w) _)).mono ?_);rintro _ _ ⟨rfl,rfl⟩))) | fail)
     go_ret
     exact HBAD.out _ (by repeat (first | (with_reducible first | exact Below.refl _ _ | assumption | refine bset ?_ ?_ _ | refine balloc ?_ _ | refine Below.drew ?_ | refine bdrewN ?_ _ | refine bnext ?_ (by with_reducible assumption)) | exact Nat.le_refl _ | (simp;done) | omega | (simp;omega))) HR.out
    have HPASS:Hid (Pass s t false):=Lib.hid ⟨fun _=>by rw [← HE.out];exact ⟨by omega,fun h=>by cases h⟩,fun h=>by cases h⟩
    clear HPS
    go_wp2_with (first | ((go_at_call 70;((with_reducible refine (HBY.out _ (by exact balloc (bself w) _)).mono ?_);rintro _ _ ⟨rfl,rfl⟩))) | fail)
    go_meet
    exact ⟨rfl,HMID,HPASS⟩
   ·have HPASS:Hid (Pass s t false):=Lib.hid ⟨fun h=>absurd (by rw [HE.out];exact h) e1,fun h=>by cases h⟩
    clear HPS
    go_wp2_with (first | ((go_at_call 70;((with_reducible refine (HBY.out _ (by exact balloc (bself w) _)).mono ?_);rintro _ _ ⟨rfl,rfl⟩))) | fail)
    go_meet
    exact ⟨rfl,HMID,HPASS⟩
 case rest=>
  obtain ⟨rfl,HM,HP⟩:=hcut
  rename World=>w1
  clear HPS HBY KEY ht
  have hA1:=H.out.next HM.out.below
  have hF1:=hA1.blk.lt
  have d0:=hA1.blk.get 0
  have d1:=hA1.blk.get 1
  have d2:=hA1.blk.get 2
  have d3:=hA1.blk.get 3
  have d4:=hA1.blk.get 4
  have d5:=hA1.blk.get 5
  have g1:=HM.out.arg.get 1
  have g2:=HM.out.arg.get 2
  have g3:=HM.out.arg.get 3
  simp only [List.getElem?_toArray,List.getElem?_cons_succ,List.getElem?_cons_zero] at d0 d1 d2 d3 d4 d5 g1 g2 g3
  have hlo:=HI.out.lo
  have htop:=HI.out.top
  have hzw:w.heap.size<w1.heap.size:=HM.out.arg.lt
  obtain ⟨fr,hfr⟩:∃ fr,fr=max af s.done:=⟨_,rfl⟩
  obtain ⟨up,hup⟩:∃ up,up=min t (s.taken+room):=⟨_,rfl⟩
  have HFR:=Lib.hid hfr
  have HUP:=Lib.hid hup
  have ew:IntKind.i64.wrap (s.taken+room)=s.taken+room:=IntWalk.i64_in _ (by omega)
  go_upto_region 9 with (fail)
  go_cut [6,7] (fun s6 s7 wx=>s6=.int .i64 fr∧s7=.int .i64 up∧Hid (Below w1.heap.size w1 wx))
  case first=>
   go_quiet (fail)
   go_wp2
   all_goals
    go_meet
    refine ⟨?_,?_,Lib.hid (by repeat (first | (with_reducible first | exact Below.refl _ _ | assumption | refine bset ?_ ?_ _ | refine balloc ?_ _ | refine Below.drew ?_ | refine bdrewN ?_ _ | refine bnext ?_ (by with_reducible assumption)) | exact Nat.le_refl _ | (simp;done) | omega | (simp;omega)))⟩
    ·rw [HFR.out];congr 1;omega
    ·rw [HUP.out];congr 1;omega
  case rest=>
   obtain ⟨rfl,rfl,HB2⟩:=hcut
   rename World=>w2
   have HM2:Hid (ArrMid w w2 ak af G al gc an ac):=Lib.hid ⟨HM.out.below.trans (HB2.out.mono HM.out.below.size),HM.out.arg.next HB2.out⟩
   have hA2:=H.out.next HM2.out.below
   have HA2:=Lib.hid hA2
   have hF2:=hA2.blk.lt
   clear d0 d1 d2 d3 d4 d5 g1 g2 g3 hA1 hF1 hzw ew hfr hup HB2 HM
   have d2:=hA2.blk.get 2
   have d3:=hA2.blk.get 3
   have g1:=HM2.out.arg.get 1
   have g2:=HM2.out.arg.get 2
   simp only [List.getElem?_toArray,List.getElem?_cons_succ,List.getElem?_cons_zero] at d2 d3 g1 g2
   have hzw:w.heap.size<w2.heap.size:=HM2.out.arg.lt
   clear hA2
   go_wp2
   go_quiet (fail)
   go_upto_if 97 with (fail)
   go_cut [8,9] (fun s8 s9 wx=>∃ s1 d1 m1 D1 dc1 M1 mc1,s8=.int .i64 d1∧s9=.slice M1 (List.length m1) mc1∧Hid (ArrEnd w wx B F room s s1 (rv.arrive room s ⟨ak,af,ad,an,ac⟩) t D M mc d1 m1 D1 dc1 M1 mc1 ak af G al gc an ac))
   case first=>
    have hh:¬ (af<0∨1048576≤af∨1048576≤af+(ad.length:Int)):=by rw [← HAL.out];omega
    have hh2:¬ 64<ad.length:=by rw [← HAL.out];exact c4
    have hto:rv.to_ ⟨ak,af,ad,an,ac⟩=t:=by unfold rv.to_;simp only;rw [← HAL.out];exact HT.out
    have hh3:Pass s (rv.to_ ⟨ak,af,ad,an,ac⟩) an:=by rw [hto];exact HP.out
    have hfe:rv.frOf s ⟨ak,af,ad,an,ac⟩=fr:=by rw [HFR.out];rfl
    have hue:rv.upOf room s ⟨ak,af,ad,an,ac⟩=up:=by rw [HUP.out];unfold rv.upOf;rw [hto]
    by_cases hlt:fr<up
    ·have hrng:0≤fr∧af≤fr∧up≤t∧up≤s.taken+room:=by rw [HFR.out,HUP.out];omega
     have hans:=rv.ans_of HI.out hrng.1 hlt (by omega)
     have HADD:=Lib.hid (fun wz (hb:Below w2.heap.size w2 wz)=>hole_Add_res s.done s.more ⟨fr,up⟩ M mc wz ((HA2.out.next hb).moreLt) (by have:=HN.out;omega))
     rw [hans] at HADD
     clear hans
     by_cases hfull:16<(had.addTo s.done s.more ⟨fr,up⟩).2.length
     ·have HR:=Lib.hid (rv.arrive_full hh hh2 hh3 (by rw [hfe,hue];exact hlt) (by rw [hfe,hue];exact hfull))
      rw [if_pos hfull] at HADD
      have HEND:Hid (∀ wx,Below w2.heap.size w2 wx→ArrRes w B F room s.more (rv.arrive room s ⟨ak,af,ad,an,ac⟩) D M (.returned (.int .i64 9)) wx):=Lib.hid (fun wx hb=>ArrRes.no H.out HR.out (HM2.out.below.trans (hb.mono HM2.out.below.size)))
      clear hh hh2 hto hh3 hfe hue hfull HR
      go_wp2_with (first
       | (go_at_call 71;((refine (HADD.out _ (by exact bdrewN (bself _) _)).mono ?_);rintro e w3 ⟨A3,c3,rfl,hm3,hb3⟩;have HB3:=Lib.hid hb3;clear hm3 hb3))
       | fail)
      go_ret
      exact HEND.out _ (bnext (bdrewN (bself _) _) HB3.out)
     ·have HR:=Lib.hid (rv.arrive_ok hh hh2 hh3 (by rw [hfe,hue];exact hlt) (by rw [hfe,hue];exact hfull))
      rw [if_neg hfull] at HADD
      obtain ⟨fn,rfl⟩:∃ fn:Nat,fr=(fn:Int):=⟨fr.toNat,by omega⟩
      obtain ⟨f1,hf1⟩:∃ f1:Nat,(fn:Int) - af=(f1:Int):=⟨((fn:Int) - af).toNat,by omega⟩
      obtain ⟨m,hm⟩:∃ m:Nat,up - af=(f1:Int)+(m:Int):=⟨(up - fn).toNat,by omega⟩
      have hGl:=HG.out.1
      have hgcm:gc≤maxLen:=HG.out.2.1
      have hTT:=HT.out
      have hfm:f1+m≤al:=by omega
      have HCUT:=Lib.hid (fun W=>run_cut_lh elemU8 G al gc f1 m (by rw [← HAL.out] at hGl;omega) ((fn:Int) - af) (up - af) hf1 hm W)
      have hpart:rv.part room s ⟨ak,af,ad,an,ac⟩=(ad.drop f1).take m:=by
       unfold rv.part
       rw [hfe,hue]
       simp only
       rw [show ((fn:Int) - af).toNat=f1 by omega,show (up - (fn:Int)).toNat=m by omega]
      have hpl:((ad.drop f1).take m).length=m:=by rw [List.length_take,List.length_drop,← HAL.out];omega
      have HGP:Hid (SlRep Rep.u8 w S ((ad.drop f1).take m) (cutA G gc f1 1) (gc - f1)):=Lib.hid (HG.out.cut (by rw [← HAL.out];exact hfm))
      have HKEEP:=Lib.hid (fun w3 (hb:Below w2.heap.size w2 w3)=>recv_keep B F room s D dc M mc fn ((ad.drop f1).take m) (cutA G gc f1 1) (gc - f1) S w3 (HA2.out.next hb) HN.out (HGP.out.keep fun k hk=>⟨hk,(hb.block k (by have:=(HS.out k hk).1;omega)).trans (HM2.out.below.block k (HS.out k hk).1)⟩) (fun k hk=>⟨by have:=(HS.out k hk).1;have:=hb.size;omega,(HS.out k hk).2⟩) (by omega) (by rw [hpl];omega))
      rw [hpl] at HKEEP
      rw [hfe,hue,hpart,hto] at HR
      simp only [Int.toNat_natCast] at HR
      generalize (had.addTo s.done s.more ⟨(fn:Int),up⟩).1=d1 at *
      generalize (had.addTo s.done s.more ⟨(fn:Int),up⟩).2=m1 at *
      generalize rv.kept s.more s.data fn ((ad.drop f1).take m)=kd at *
      have hw12:Below w.heap.size w w2:=HM2.out.below
      have HW12:=Lib.hid hw12
      clear hh hh2 hto hh3 hfe hue hfull hpart hpl hf1 hm hTT HGP hw12
      go_upto_region 14 with (first
       | (go_at_call 71;((refine (HADD.out _ (by exact bdrewN (bself _) _)).mono ?_);rintro e w3 ⟨A3,c3,rfl,hm3,hb3⟩;have HB3:=Lib.hid hb3;have HM3:=Lib.hid hm3;clear hm3 hb3))
       | fail)
      have hb3:Below w2.heap.size w2 w3:=bnext (bdrewN (bself _) _) HB3.out
      have y1:=(hb3.cell (p:=⟨w.heap.size,1,none⟩) hzw).trans g1
      have y2:=(hb3.cell (p:=⟨w.heap.size,2,none⟩) hzw).trans g2
      have hz3:w2.heap.size≤w3.heap.size:=hb3.size
      have HB4:=Lib.hid hb3
      have c1:=HCUT.out
      clear hb3 d2 d3 g1 g2 HADD
      go_wp2_with (first
       | (go_at_call 72;((refine (HKEEP.out _ HB4.out).mono ?_);rintro e w4 ⟨D1,dc1,rfl,k1,k2,k3⟩;have K1:=Lib.hid k1;have K2:=Lib.hid k2;have K3:=Lib.hid k3;clear k1 k2 k3))
       | fail)
      go_meet
      refine ⟨{ s with data:=kd },d1,m1,D1,dc1,A3,c3,rfl,rfl,Lib.hid ⟨K1.out,HR.out,?_,(Stays.of_below (HW12.out.trans (HB4.out.mono HW12.out.size)) _).comp K2.out,K3.out.below (Nat.le_trans HW12.out.size HB4.out.size),?_,?_⟩⟩
      ·refine HM3.out.keep fun k hk=>?_
       have h1:w2.heap.size≤k:=hk.1
       have h2:k<w3.heap.size:=hk.2
       have h3:=HA2.out.lo
       have hnF:k≠F:=by omega
       have hnD:blkOf D≠some k:=fun e=>by have:=(HA2.out.data.lt k e).2;omega
       refine ⟨⟨by omega,Nat.lt_of_lt_of_le h2 K2.out.size,hnF,fun e=>?_⟩,K2.out.block k h2 (fun e=>e.elim hnF hnD)⟩
       rcases K3.out.inf e with e2 | e2
       ·exact hnD e2
       ·omega
      ·intro k hne hk
       rcases HM3.out.blk with e | ⟨q,hq,hq2⟩
       ·exact absurd e hne
       ·rw [hq] at hk
        cases hk
        have h1:w2.heap.size≤k:=hq2.1
        exact .inr (by omega)
      ·refine (HM2.out.arg.next HB4.out).stays K2.out (fun e=>?_)
       rcases e with e | e
       ·omega
       ·have:=(H.out.data.lt _ e).2
        omega
    ·have HEND:Hid (∀ nq,ArrEnd w (w2.drewN nq) B F room s s (rv.arrive room s ⟨ak,af,ad,an,ac⟩) t D M mc s.done s.more D dc M mc ak af G al gc an ac):=Lib.hid (fun nq=>by
      have hb:Below w2.heap.size w2 (w2.drewN nq):=bdrewN (bself w2) nq
      exact ⟨HA2.out.next hb,by rw [rv.arrive_none hh hh2 hh3 (by rw [hfe,hue];exact hlt),hto],(HA2.out.next hb).more,Stays.of_below (HM2.out.below.trans (hb.mono HM2.out.below.size)) _,Anew.refl _ _,fun k h1 h2=>.inl ⟨h1,h2⟩,HM2.out.arg.next hb⟩)
     clear hh hh2 hto hh3 hfe hue
     go_wp2
     go_meet
     exact ⟨s,s.done,s.more,D,dc,M,mc,rfl,rfl,Lib.hid (HEND.out _)⟩
   case rest=>
    obtain ⟨s1,d1,m1,D1,dc1,M1,mc1,rfl,rfl,HE⟩:=hcut
    rename World=>w5
    have hF5:=HE.out.at_.blk.lt
    have hzw5:=HE.out.arg.lt
    have q2:=HE.out.at_.blk.get 2
    have q3:=HE.out.at_.blk.get 3
    have q5:=HE.out.at_.blk.get 5
    have g3:=HE.out.arg.get 3
    have f2:=HE.out.at_.frozen 2
    have f3:=HE.out.at_.frozen 3
    have f5:=HE.out.at_.frozen 5
    simp only [List.getElem?_toArray,List.getElem?_cons_succ,List.getElem?_cons_zero] at q2 q3 q5 g3
    have h3:=(HE.out.at_.put2 d1).put3 (HE.out.at_.rowKeep 2 (.int .i64 d1) HE.out.more)
    have HEND:Hid (∀ wx,Stays w5 wx (fun k=>k=F)→HAt wx B F room { s1 with done:=d1,more:=m1,end_:=if an=true then t else s1.end_ } D1 dc1 M1 mc1→ArrRes w B F room s.more (rv.arrive room s ⟨ak,af,ad,an,ac⟩) D M (.returned (.int .i64 0)) wx):=Lib.hid (fun wx hs hh=>by
     rw [HE.out.res]
     refine ⟨D1,dc1,M1,mc1,rfl,hh,(HE.out.stay.mono fun k _ hk=>hk.hf).trans hs (fun k _ hk=>.inl hk),fun k hk=>?_⟩
     rcases hk with e | e | e
     ·exact .inl (.inl e)
     ·exact (HE.out.na.inf e).imp (fun e=>.inr (.inl e)) id
     ·exact (HE.out.nm k e.1 e.2).imp (fun e=>.inr (.inr e)) id)
    have H3:=Lib.hid h3
    clear h3
    cases an with
    | true=>
     go_wp2
     go_ret
     exact HEND.out _ (((Stays.set _ _ _ _).comp (Stays.set _ _ _ _)).comp (Stays.set _ _ _ _)) (H3.out.put5 t)
    | false=>
     go_wp2
     go_ret
     exact HEND.out _ ((Stays.set _ _ _ _).comp (Stays.set _ _ _ _)) H3.out
end Go.Proofs.Ytdldfllllgogoaa
namespace Go.Proofs.Ytdldfllllgogoaa
open Go.RowKit Go.Maps Go.WideShapes Go.ChangeMaps Go.MapKept
/-- a range over the map under way: left: which entries are still to come -/
def MapR (w:World) (P:Program) (k:TypeId) (b r n:Nat) (m:Lit→Option Value) (left:Lit→Bool) (cnt:Nat):Prop:=
 ∃ D:DataW Value,w.ranges P k selfElem b r n D left cnt∧∀ kl,WideAt.IsKeyLit kl→∀ zd,D.atKey kl zd=viewOf (m kl) zd
section
variable {P:Program} {k e t:TypeId} {w w':World} {b r n cnt:Nat} {m:Lit→Option Value} {left:Lit→Bool}
theorem MapR.left_eq (h:MapR w P k b r n m left cnt):w.rangeLeft b r=cnt:=by obtain ⟨D,h1,_⟩:=h;exact h1.left_eq
variable {ops:Array Oper} {rest:List Oper} {o:Oper} {a:Act} {Q:Exit→Act→World→Prop}
theorem wp_mrange (w:World) (hg:o.guard=none) (mm:Operand) (t:TypeId) (hop:o.op=Op.range t mm) (e:TypeId) (K:Keyed P k) (ht:P.underlying t=some (.map k e)) (hm:a.eval mm=.map (some b)) (h:MapV w P k b n m)
  (hK:∀ w' left cnt,MapR w' P k b w.heap.size n m left cnt→(∀ kl,WideAt.IsKeyLit kl→m kl≠none→left kl=true)→w.grownBy w' none→w'.heap.size=w.heap.size+1→wpList P ops Q rest (a.put o.dst (.pointer (some ⟨w.heap.size,0,none⟩))) w') :
  wpList P ops Q (o :: rest) a w:=by
 obtain ⟨D,h1,h2,h3⟩:=h
 refine wpList_range_own w hg mm t hop k e K ht selfElem b n D hm h1 fun w' r1 r2 r3=>hK w' _ _ ⟨D,r1,h3⟩ (fun kl hk hne=>?_) r2 r3
 cases hh:Maps.has D kl
 ·exfalso
  have h4:=h3 kl hk .nil
  rw [atKey_of_not_has hh] at h4
  cases hm:m kl with
  | none=>exact hne hm
  | some v=>rw [hm] at h4;simp [viewOf] at h4
 ·rfl
/-- the step -/
theorem wp_mnext {α β:Type} (w:World) (hg:o.guard=none) (it:Operand) (hop:o.op=Op.next it false) (K:Keyed P k) (mkK:α→Value) (mkV:β→Value)
  (invK:∀ key kl u,keyOf P k key=some kl→m kl=some u→∃ x,key=mkK x) (invV:∀ kl v,m kl=some v→∃ c,v=mkV c) (hit:a.eval it=.pointer (some ⟨r,0,none⟩)) (h:MapR w P k b r n m left cnt)
  (hDone:(∀ kl,left kl=false)→wpList P ops Q rest (a.put o.dst (.tuple #[.bool false])) w)
  (hMore:∀ (x:α) (c:β) (kl:Lit) (w':World) (cnt':Nat),keyOf P k (mkK x)=some kl→left kl=true→m kl=some (mkV c)→MapR w' P k b r n m (fun z=>left z && !z.sameKey kl) cnt'→cnt'<cnt →
   w.grownBy w' (some r)→w'.heap.size=w.heap.size→(Instr.entry (.pointer (some ⟨r,0,none⟩))).run P w'=.ok (.tuple #[mkK x,mkV c]) w'→wpList P ops Q rest (a.put o.dst (.tuple #[.bool true,mkK x,mkV c])) w') :
  wpList P ops Q (o :: rest) a w:=by
 obtain ⟨D,h1,h3⟩:=h
 refine wpList_plain hg fun K' hK'=>?_
 unfold Oper.wp
 rcases h1.next K o.type with ⟨h0,hl,hrun⟩ | ⟨key,v,kl,y,w',cnt',hkey,hlk,hv,hat,hrun,hrg,hlt,hgr,hsz,hen⟩
 ·simp [execOp,hop,hit,hrun,Result.andThen]
  exact hK' _ _ (hDone hl)
 ·have hmk:m kl=some v:=by
   have h4:=h3 kl (K.key hkey)
   unfold selfElem at hv
   simp only [Option.some.injEq] at hv
   subst hv
   cases hm:m kl with
   | none=>
    have:=h4 .nil
    rw [hat,hm] at this
    simp [viewOf] at this
   | some u=>
    have:=h4 .nil
    rw [hat,hm] at this
    simp only [viewOf,DataW.held.injEq] at this
    rw [this]
  obtain ⟨x,rfl⟩:=invK key kl v hkey hmk
  obtain ⟨c,rfl⟩:=invV kl v hmk
  simp [execOp,hop,hit,hrun,Result.andThen]
  exact hK' _ _ (hMore x c kl w' cnt' hkey hlk hmk ⟨D,hrg,h3⟩ hlt hgr hsz hen)
end
/-! ### A map as a function of its keys' values -/
open Classical in
section
variable {P:Program} {k:TypeId}
open Classical in
end
end Go.Proofs.Ytdldfllllgogoaa
namespace Go.Proofs.Ytdldfllllgogoaa.rv
open had
/-- the reference's map -/
noncomputable def mapF (s:St):Int→Option Value:=fun k=>(bytesOf s k).map u8v
theorem mapF_came {s:St} {k:Int}:mapF s k≠none↔came s k:=by
 unfold mapF
 rw [← bytesOf_some]
 cases bytesOf s k <;> simp
theorem mapF_none {s:St} {k:Int}:mapF s k=none↔¬ came s k:=by
 rw [← mapF_came]
 simp
theorem isP_came {s:St} {k:Int}:isP (mapF s) k=true↔came s k:=by
 rw [← mapF_came]
 unfold isP
 cases mapF s k <;> simp
theorem mapF_u8 {s:St} {k:Int} {v:Value} (h:mapF s k=some v):∃ b:UInt8,v=.int .u8 (b.toNat:Int):=by
 unfold mapF at h
 obtain ⟨b,_,rfl⟩:=Option.map_eq_some_iff.1 h
 exact ⟨b,rfl⟩
/-- the ranges that a map of places tells are those held -/
theorem runs_eq {d t:Int} {m:List Rng} {P:Int→Bool} (h0:0≤d) (hc:Canon d m) (hh:∀ r,r ∈ m→r.hi≤t) (hP:∀ n,P n=true↔(0≤n∧n<d)∨cov m n) {k:Nat} (hk:t+1≤d+k):runs P d k=m:=by
 obtain ⟨h1,h2,h3⟩:=runs_ok P d k
 refine ext h1 hc fun p=>?_
 rw [h3,hP]
 constructor
 ·rintro ⟨⟨e1,e2⟩,e3 | e3⟩
  ·omega
  ·exact e3
 ·intro hcv
  obtain ⟨r,hr,hp⟩:=hcv
  have a1:=hc.mem r hr
  have a2:=hh r hr
  have a3:=hp.1
  have a4:=hp.2
  exact ⟨⟨by omega,by omega⟩,.inr ⟨r,hr,hp⟩⟩
theorem low_not' {s:St} (hc:Canon s.done s.more):¬ came s s.done:=by
 rintro (e | ⟨r,hr,hp⟩)
 ·omega
 ·have:=(hc.mem r hr).1
  have:=hp.1
  omega
open Classical in
/-- the map when so many bytes were looked at -/
noncomputable def fill (room:Int) (s:St) (a:Arrival) (i:Nat):Int→Option Value:=fun k=>if ¬ came s k∧frOf s a≤k∧k<upOf room s a∧k<a.from_+i then some (u8v (a.data.getD (k - a.from_).toNat 0)) else mapF s k
theorem fill_zero {room:Int} {s:St} {a:Arrival}:fill room s a 0=mapF s:=by
 funext k
 unfold fill
 rw [if_neg]
 rintro ⟨_,h1,_,h2⟩
 unfold frOf at h1
 omega
theorem fill_at {room:Int} {s:St} {a:Arrival} {i:Nat}:fill room s a i (a.from_+i)=mapF s (a.from_+i):=by
 unfold fill
 rw [if_neg]
 rintro ⟨_,_,_,h2⟩
 omega
theorem fill_skip {room:Int} {s:St} {a:Arrival} {i:Nat} (h:¬ (¬ came s (a.from_+i)∧s.done≤a.from_+i∧a.from_+i<s.taken+room)):fill room s a (i+1)=fill room s a i:=by
 funext k
 unfold fill
 by_cases hk:k=a.from_+i
 ·subst hk
  rw [if_neg,if_neg]
  ·rintro ⟨_,_,_,h2⟩;omega
  ·rintro ⟨h1,h2,h3,_⟩
   unfold frOf at h2
   unfold upOf at h3
   exact h ⟨h1,by omega,by omega⟩
 ·by_cases hc:¬ came s k∧frOf s a≤k∧k<upOf room s a∧k<a.from_+(i:Int)
  ·rw [if_pos ⟨hc.1,hc.2.1,hc.2.2.1,by omega⟩,if_pos hc]
  ·rw [if_neg (fun x=>hc ⟨x.1,x.2.1,x.2.2.1,by omega⟩),if_neg hc]
theorem fill_put {room:Int} {s:St} {a:Arrival} {i:Nat} (hi:i<a.data.length) (h1:¬ came s (a.from_+i)) (h2:s.done≤a.from_+i) (h3:a.from_+i<s.taken+room):fill room s a (i+1)=fun k=>if k=a.from_+i then some (u8v (a.data.getD i 0)) else fill room s a i k:=by
 funext k
 unfold fill
 by_cases hk:k=a.from_+i
 ·subst hk
  rw [if_pos rfl,if_pos ⟨h1,by unfold frOf;omega,by unfold upOf to_;omega,by omega⟩,show (a.from_+(i:Int) - a.from_).toNat=i by omega]
 ·rw [if_neg hk]
  by_cases hc:¬ came s k∧frOf s a≤k∧k<upOf room s a∧k<a.from_+(i:Int)
  ·rw [if_pos ⟨hc.1,hc.2.1,hc.2.2.1,by omega⟩,if_pos hc]
  ·rw [if_neg (fun x=>hc ⟨x.1,x.2.1,x.2.2.1,by omega⟩),if_neg hc]
/-- who hears when the bytes came -/
noncomputable def filled (room:Int) (s:St) (a:Arrival):St:=if frOf s a<upOf room s a then { s with done:=(addTo s.done s.more ⟨frOf s a,upOf room s a⟩).1,more:=(addTo s.done s.more ⟨frOf s a,upOf room s a⟩).2,data:=kept s.more s.data (frOf s a).toNat (part room s a) } else s
structure Filled (room:Int) (s:St) (a:Arrival) (s1:St):Prop where
 tk:s1.taken=s.taken
 en:s1.end_=s.end_
 lo:s.taken≤s1.done∧s1.done≤s.taken+room
 map:fill room s a a.data.length=mapF s1
 low:∀ k,s.taken≤k→k<s1.done→mapF s1 k≠none
 notlow:mapF s1 s1.done=none
 runs:∀ K:Nat,s.taken+room+1=s1.done+K→runs (isP (mapF s1)) s1.done K=s1.more
theorem filled_ok {room:Int} {s:St} (h:Inv room s) (a:Arrival):Filled room s a (filled room s a):=by
 have hlo:=h.lo
 unfold filled
 split
 ·next hlt=>
  have hfr:s.done≤frOf s a:=by unfold frOf;omega
  have hup:upOf room s a≤s.taken+room:=by unfold upOf;omega
  have hpl:=part_len hlt
  have hup2:upOf room s a≤to_ a:=by unfold upOf;omega
  unfold to_ at hup2
  obtain ⟨a1,a2,a3⟩:=addTo_ok (r:=⟨frOf s a,upOf room s a⟩) (by omega) h.canon (by simp only;omega) (by simp only;omega)
  have hba:=fun n=>bytes_add h (fr:=frOf s a) (up:=upOf room s a) (e:=s.end_) (b:=part room s a) hfr hlt hpl n
  have b1:=cov_bound a1 a2 (B:=s.taken+room) (fun p hp=>by
   rcases (a3 p).1 hp with e | ⟨r,hr,e⟩ | e
   ·omega
   ·have:=(h.hi r hr).1;have:=e.2;omega
   ·have:=e.2;simp only at this;omega) (by omega)
  have c1:s.done≤(addTo s.done s.more ⟨frOf s a,upOf room s a⟩).1:=by
   by_cases hx:(addTo s.done s.more ⟨frOf s a,upOf room s a⟩).1<s.done
   ·exfalso
    have:=(a3 (addTo s.done s.more ⟨frOf s a,upOf room s a⟩).1).2 (.inl ⟨a1,hx⟩)
    rcases cov_full.1 this with e | ⟨r,hr,e⟩
    ·omega
    ·have:=(a2.mem r hr).1;have:=e.1;omega
   ·omega
  refine ⟨rfl,rfl,⟨by simp only;omega,b1.1⟩,?_,fun k h1 h2=>mapF_came.2 (.inl ⟨by omega,h2⟩),mapF_none.2 (low_not' a2),fun K hK=>runs_eq a1 a2 b1.2 (fun n=>isP_came) (by simp only at hK;omega)⟩
  funext k
  unfold fill
  unfold mapF
  rw [hba k]
  by_cases hc:came s k
  ·rw [if_neg (fun x=>x.1 hc),if_pos hc]
  ·rw [if_neg hc]
   by_cases hf:frOf s a≤k∧k<upOf room s a
   ·rw [if_pos ⟨hc,hf.1,hf.2,by omega⟩,if_pos hf]
    simp only [Option.map_some,Option.some.injEq]
    congr 1
    unfold part
    have hfa:a.from_≤frOf s a:=by unfold frOf;omega
    rw [List.getD_eq_getElem?_getD,List.getD_eq_getElem?_getD,List.getElem?_take,if_pos (by omega),List.getElem?_drop,show (frOf s a - a.from_).toNat+(k - frOf s a).toNat=(k - a.from_).toNat by omega]
   ·rw [if_neg (fun x=>hf ⟨x.2.1,x.2.2.1⟩),if_neg hf]
    unfold bytesOf
    rw [if_neg hc]
 ·next hlt=>
  refine ⟨rfl,rfl,⟨by omega,by omega⟩,?_,fun k h1 h2=>mapF_came.2 (.inl ⟨by omega,h2⟩),mapF_none.2 (low_not h),fun K hK=>runs_eq (by omega) h.canon (fun r hr=>(h.hi r hr).1) (fun n=>isP_came) (by omega)⟩
  funext k
  unfold fill
  rw [if_neg]
  rintro ⟨_,h1,h2,_⟩
  omega
theorem arrive_filled {room:Int} {s:St} {a:Arrival} (hi:Inv room s) (h:¬ (a.from_<0∨1048576≤a.from_∨1048576≤a.from_+a.data.length)) (h2:¬ 64<a.data.length) (h3:Pass s (to_ a) a.fin) :
  arrive room s a=if 16<(filled room s a).more.length then (9,s) else (0,{ filled room s a with end_:=if a.fin=true then to_ a else s.end_ }):=by
 rw [arrive_past h h2 h3]
 unfold filled
 by_cases hlt:frOf s a<upOf room s a
 ·rw [if_pos hlt,if_pos hlt]
 ·rw [if_neg hlt,if_neg hlt,if_neg (show ¬ 16<s.more.length by have:=hi.few;omega)]
/-- the reference's tests are the program's -/
theorem pass_iff {room:Int} {s:St} (h:Inv room s) {t:Int} (h0:0≤t) {fin:Bool} (h1:0≤s.end_→t≤s.end_∧(fin=true→t=s.end_)) (h2:fin=true→s.done≤t∧∀ k,mapF s k≠none→k<t):Pass s t fin:=
 ⟨h1,fun e=>by
  by_cases hb:t<beyond s
  ·exfalso
   rcases (beyond_iff h t h0).1 hb with e1 | ⟨n,hn,hle⟩
   ·have:=(h2 e).1;omega
   ·have:=(h2 e).2 n (mapF_came.2 hn);omega
  ·omega⟩
theorem state_of {room:Int} {s:St} {a:Arrival} (hi:Inv room s) (h:¬ (a.from_<0∨1048576≤a.from_∨1048576≤a.from_+a.data.length)) (h2:¬ 64<a.data.length) (h3:(0≤s.end_∧(s.end_<to_ a∨a.fin=true∧to_ a≠s.end_))∨a.fin=true∧(to_ a<s.done∨∃ k,mapF s k≠none∧to_ a≤k)):arrive room s a=(10,s):=by
 refine arrive_state h h2 (h3.imp id fun ⟨e,h4⟩=>⟨e,?_⟩)
 refine (beyond_iff hi _ (by unfold to_;omega)).2 (h4.imp id fun ⟨k,h5,h6⟩=>⟨k,mapF_came.1 h5,h6⟩)
end Go.Proofs.Ytdldfllllgogoaa.rv
namespace Go.Proofs.Ytdldfllllgogoaa
open Go.RowKit Go.Maps Go.WideShapes Go.ChangeMaps Go.MapKept
set_option linter.unusedSimpArgs false
def rv.endOf (s:rv.St):Int:=if s.end_ = -1 then 0 else s.end_
def rv.knownOf (s:rv.St):Bool:=decide (0≤s.end_)
/-- the reference's hearer is like this one -/
def IS (w:World) (G Mb n:Nat) (room:Int) (s:rv.St):Prop:=IAt w G Mb n room s.taken (rv.endOf s) (rv.knownOf s) (rv.mapF s)
theorem IAt.stays {w w':World} {G Mb n:Nat} {room taken end_:Int} {known:Bool} {f:Int→Option Value} {No:Nat→Prop} (h:IAt w G Mb n room taken end_ known f) (hs:Stays w w' No) (h1:¬ No G) (h2:¬ No Mb):IAt w' G Mb n room taken end_ known f:=⟨h.blk.stays hs h1,h.map.stays hs h2⟩
theorem IAt.two {w:World} {G Mb n:Nat} {room taken end_:Int} {known:Bool} {f:Int→Option Value} (h:IAt w G Mb n room taken end_ known f):Mb≠G:=h.map.ne_cells h.blk
def GM (G Mb k:Nat):Prop:=k=G∨k=Mb
section
variable {P:Program} {k e t:TypeId} {w:World} {b n:Nat} {m:Lit→Option Value} {ops:Array Oper} {o:Oper} {a:Act} {Q:Exit→Act→World→Prop} {K:Act→World→Prop} {E:Prop}
end
def InRes (w:World) (G Mb n m:Nat) (room:Int) (r:Int × rv.St) (e:Ending) (w':World):Prop:=
 ∃ n',n'≤n+m∧e=.returned (.int .i64 r.1)∧IS w' G Mb n' room r.2∧Stays w w' (GM G Mb)
theorem InRes.no {w w':World} {G Mb n m:Nat} {room:Int} {s:rv.St} {r:Int × rv.St} {c:Int} (h:IS w G Mb n room s) (hr:r=(c,s)) (hb:Below w.heap.size w w'):InRes w G Mb n m room r (.returned (.int .i64 c)) w':=by
 subst hr
 exact ⟨n,by omega,rfl,h.next hb,Stays.of_below hb _⟩
theorem rv.elemI:ElemT Try.prog 149 3 1 8:=ElemT.of Try.underlying149 (z:=.int .i64 0) (by kernel_rfl) rfl (by decide)
/-- so many bytes were looked at -/
structure Fil (w wr:World) (G Mb n n2:Nat) (room:Int) (s:rv.St) (a:Arrival) (k:Nat) (A:Option Addr) (c:Nat) (Lf:List Int) (ca:Array Value):Prop where
 at_:IAt wr G Mb n2 room s.taken (rv.endOf s) (rv.knownOf s) (rv.fill room s a k)
 own:Own wr (w.heap.size+1) 3 1 A Lf.length c (Lf.map (Value.int .i64))
 arg:BlkA wr w.heap.size 73 ca
 stay:Stays w wr (fun q=>q=Mb)
 few:n2≤n+k∧Lf.length≤k
 none_:∀ x,x ∈ Lf→rv.mapF s x=none
 rng:∀ x,x ∈ Lf→0≤x∧x≤1048576
 all:∀ x,rv.mapF s x=none→rv.fill room s a k x≠none→x ∈ Lf
theorem Fil.skip {w wr wx:World} {G Mb n n2:Nat} {room:Int} {s:rv.St} {a:Arrival} {k:Nat} {A:Option Addr} {c:Nat} {Lf:List Int} {ca:Array Value} (h:Fil w wr G Mb n n2 room s a k A c Lf ca) (he:rv.fill room s a (k+1)=rv.fill room s a k) (hb:Below wr.heap.size wr wx):Fil w wx G Mb n n2 room s a (k+1) A c Lf ca:=
 ⟨by rw [he];exact h.at_.next hb,h.own.next hb,h.arg.next hb,h.stay.trans (Stays.of_below hb (fun _=>False)) (fun _ _ e=>e.elim),⟨by have:=h.few.1;omega,by have:=h.few.2;omega⟩,h.none_,h.rng,fun x h1 h2=>h.all x h1 (by rw [he] at h2;exact h2)⟩
theorem Fil.put {w wr w5 w6:World} {G Mb n n2:Nat} {room:Int} {s:rv.St} {a:Arrival} {k:Nat} {A A6:Option Addr} {c c6:Nat} {Lf:List Int} {ca:Array Value} {p:Int} {x:UInt8} (h:Fil w wr G Mb n n2 room s a k A c Lf ca) (hw:w.heap.size<wr.heap.size) (hGw:G<w.heap.size) (hMw:Mb<w.heap.size) (hp:p=a.from_+k) (hpb:0≤p∧p≤1048575) (hnp:rv.mapF s p=none) (he:rv.fill room s a (k+1)=fun q=>if q=p then some (rv.u8v x) else rv.fill room s a k q)
  (hm:MapV w5 Try.prog 3 Mb (n2+1) (mapI (rv.fill room s a (k+1)))) (hs:Stays wr w5 (fun q=>q=Mb)) (hb:Below w5.heap.size w5 w6) {w7:World} (hg:Grew w6 w7 A A6) (ho:Own w7 (w.heap.size+1) 3 1 A6 (Lf.length+1) c6 (Lf.map (Value.int .i64) ++ [.int .i64 p])):Fil w w7 G Mb n (n2+1) room s a (k+1) A6 c6 (Lf ++ [p]) ca:=by
 have hA:=h.own.lt
 have hne:=h.at_.two
 have st:Stays wr w7 (fun q=>q=Mb∨blkOf A=some q):=((hs.mono fun _ _ e=>.inl e).comp (Stays.of_below hb _)).comp ((Stays.grew hg).mono fun _ _ e=>.inr e)
 refine ⟨⟨h.at_.blk.stays st (fun e=>?_),?_⟩,?_,h.arg.stays st (fun e=>?_),h.stay.trans st (fun q hq e=>?_),⟨by have:=h.few.1;omega,by have:=h.few.2;simp only [List.length_append,List.length_cons,List.length_nil];omega⟩,fun y hy=>?_,fun y hy=>?_,fun y h1 h2=>?_⟩
 ·rcases e with e | e
  ·exact hne e.symm
  ·have:=(hA _ e).1;omega
 ·have h2:=hm.next hb
  refine h2.kept hg.grown (fun e=>?_)
  have:=(hA _ e).1;omega
 ·rw [List.map_append,List.length_append]
  exact ho
 ·rcases e with e | e
  ·omega
  ·have:=(hA _ e).1;omega
 ·rcases e with e | e
  ·exact e
  ·have:=(hA _ e).1;omega
 ·rcases List.mem_append.1 hy with hy | hy
  ·exact h.none_ y hy
  ·rw [List.mem_singleton] at hy
   rw [hy];exact hnp
 ·rcases List.mem_append.1 hy with hy | hy
  ·exact h.rng y hy
  ·rw [List.mem_singleton] at hy
   omega
 ·rw [he] at h2
  by_cases e:y=p
  ·rw [e];simp
  ·simp only [if_neg e] at h2
   exact List.mem_append_left _ (h.all y h1 h2)
open Classical in
/-- all that was laid is taken out again -/
theorem Fil.back {w wr:World} {G Mb n n2:Nat} {room:Int} {s:rv.St} {a:Arrival} {k:Nat} {A:Option Addr} {c:Nat} {Lf:List Int} {ca:Array Value} (h:Fil w wr G Mb n n2 room s a k A c Lf ca):(fun x=>if x ∈ Lf then none else rv.fill room s a k x)=rv.mapF s:=by
 funext x
 by_cases hx:rv.mapF s x=none
 ·rw [hx]
  by_cases hm:x ∈ Lf
  ·rw [if_pos hm]
  ·rw [if_neg hm]
   cases hf:rv.fill room s a k x with
   | none=>rfl
   | some v=>exact absurd (h.all x hx (by rw [hf];simp)) hm
 ·have hm:x ∉ Lf:=fun hm=>hx (h.none_ x hm)
  rw [if_neg hm]
  unfold rv.fill
  rw [if_neg (fun e=>hx (rv.mapF_none.2 e.1))]
def NoSt (s:rv.St) (t:Int) (fin:Bool):Prop:=0≤s.end_→t≤s.end_∧(fin=true→t=s.end_)
open Classical in
set_option maxRecDepth 100000 in
set_option maxHeartbeats 4000000 in
theorem ref_arrives (G Mb n:Nat) (room:Int) (s:rv.St) (a:Arrival) (Ga:Option Addr) (gc:Nat) (S:Nat→Prop) (w:World) (h:IS w G Mb n room s) (hi:rv.Inv room s) (hr:1≤room∧room≤4096) (hG:SlRep Rep.u8 w S a.data Ga gc) (hS:∀ k,S k→k<w.heap.size∧¬ GM G Mb k) (ha:IntOk a.from_) (hd:a.data.length≤140737488351232) (hn:n≤1000000) :
  Calls Try.prog 42 #[.pointer (some ⟨G,0,none⟩),.agg #[.int .i64 a.kind,.int .i64 a.from_,.slice Ga a.data.length gc,.bool a.fin,.int .i64 a.count]] w (InRes w G Mb n 64 room (rv.arrive room s a)):=by
 obtain ⟨ak,af,ad,an,ac⟩:=a
 simp only at hG ha hd ⊢
 unfold IntOk at ha
 have H:=Lib.hid h
 have HI:=Lib.hid hi
 have HG:=Lib.hid hG
 have HS:=Lib.hid hS
 have hFl:=h.blk.lt
 have hMl:=h.map.lt
 obtain ⟨al,hal⟩:∃ al:Nat,al=ad.length:=⟨_,rfl⟩
 have HAL:=Lib.hid hal
 have KEY:=Lib.hid (fun (c:Int) (hc:rv.arrive room s ⟨ak,af,ad,an,ac⟩=(c,s)) w' (hb:Below w.heap.size w w')=>(InRes.no h hc hb:InRes w G Mb n 64 room (rv.arrive room s ⟨ak,af,ad,an,ac⟩) (.returned (.int .i64 c)) w'))
 have HA2:Hid (af<0∨1048576≤af∨1048576≤af+al→rv.arrive room s ⟨ak,af,ad,an,ac⟩=(2,s)):=Lib.hid (fun h=>rv.arrive_range (by rw [hal] at h;exact h))
 have HA1:Hid (¬ (af<0∨1048576≤af∨1048576≤af+al)→64<al→rv.arrive room s ⟨ak,af,ad,an,ac⟩=(1,s)):=Lib.hid (fun h h2=>rv.arrive_size (by rw [hal] at h;exact h) (by rw [hal] at h2;exact h2))
 rw [← hal] at hd ⊢
 clear h hi hG hS hal
 by_cases c1:af<0
 ·have HR:=Lib.hid (HA2.out (.inl c1))
  go_enter Try.func42,Try.ntmps42
  go_wp2
  go_ret
  exact KEY.out _ HR.out _ (by repeat (first | (with_reducible first | exact Below.refl _ _ | assumption | refine bset ?_ ?_ _ | refine balloc ?_ _ | refine Below.drew ?_ | refine bdrewN ?_ _ | refine bnext ?_ (by with_reducible assumption)) | exact Nat.le_refl _ | (simp;done) | omega | (simp;omega)))
 by_cases c2:1048576<af
 ·have HR:=Lib.hid (HA2.out (.inr (.inl (by omega))))
  go_enter Try.func42,Try.ntmps42
  go_wp2
  go_ret
  exact KEY.out _ HR.out _ (by repeat (first | (with_reducible first | exact Below.refl _ _ | assumption | refine bset ?_ ?_ _ | refine balloc ?_ _ | refine Below.drew ?_ | refine bdrewN ?_ _ | refine bnext ?_ (by with_reducible assumption)) | exact Nat.le_refl _ | (simp;done) | omega | (simp;omega)))
 by_cases c3:1048575<af+al
 ·have HR:=Lib.hid (HA2.out (.inr (.inr (by omega))))
  go_enter Try.func42,Try.ntmps42
  go_wp2
  go_ret
  exact KEY.out _ HR.out _ (by repeat (first | (with_reducible first | exact Below.refl _ _ | assumption | refine bset ?_ ?_ _ | refine balloc ?_ _ | refine Below.drew ?_ | refine bdrewN ?_ _ | refine bnext ?_ (by with_reducible assumption)) | exact Nat.le_refl _ | (simp;done) | omega | (simp;omega)))
 by_cases c4:64<al
 ·have HR:=Lib.hid (HA1.out (by omega) c4)
  have c4':(64:Int)<(al:Int):=by omega
  go_enter Try.func42,Try.ntmps42
  go_wp2
  go_ret
  exact KEY.out _ HR.out _ (by repeat (first | (with_reducible first | exact Below.refl _ _ | assumption | refine bset ?_ ?_ _ | refine balloc ?_ _ | refine Below.drew ?_ | refine bdrewN ?_ _ | refine bnext ?_ (by with_reducible assumption)) | exact Nat.le_refl _ | (simp;done) | omega | (simp;omega)))
 clear HA1 HA2
 have c4':¬ (64:Int)<(al:Int):=by omega
 have hh:¬ (af<0∨1048576≤af∨1048576≤af+(ad.length:Int)):=by rw [← HAL.out];omega
 have hh2:¬ 64<ad.length:=by rw [← HAL.out];exact c4
 obtain ⟨t,ht⟩:∃ t,af+(al:Int)=t:=⟨_,rfl⟩
 have hto:rv.to_ ⟨ak,af,ad,an,ac⟩=t:=by unfold rv.to_;simp only;rw [← HAL.out];exact ht
 have HBAD:Hid ((0≤s.end_∧(s.end_<t∨an=true∧t≠s.end_))∨an=true∧(t<s.done∨∃ k,rv.mapF s k≠none∧t≤k)→rv.arrive room s ⟨ak,af,ad,an,ac⟩=(10,s)):=Lib.hid (fun h=>rv.state_of HI.out hh hh2 (by rw [hto];exact h))
 have HGO:=Lib.hid (fun h3=>rv.arrive_filled (a:=⟨ak,af,ad,an,ac⟩) HI.out hh hh2 (by rw [hto];exact h3))
 rw [hto] at HGO
 simp only at HGO
 have htb:0≤t∧t<1048576:=by omega
 have HT:=Lib.hid ht
 have hlo:=HI.out.lo
 have htop:=HI.out.top
 clear hh hh2 hto
 have HMID:Hid (ArrMid w (w.alloc (.cells #[.int .i64 ak,.int .i64 af,.slice Ga al gc,.bool an,.int .i64 ac] 73)) ak af Ga al gc an ac):=Lib.hid ⟨balloc (bself w) _,BlkA.new _ _ _⟩
 go_enter Try.func42,Try.ntmps42
 go_upto_region 6 with fail
 obtain ⟨w1,hw1⟩:∃ w1,w1=w.alloc (.cells #[.int .i64 ak,.int .i64 af,.slice Ga al gc,.bool an,.int .i64 ac] 73):=⟨_,rfl⟩
 rw [← hw1] at HMID ⊢
 clear hw1 ht
 have hA1:=H.out.next HMID.out.below
 have c0:=hA1.blk.get 0
 have c2':=hA1.blk.get 2
 have c3':=hA1.blk.get 3
 have c4'':=hA1.blk.get 4
 have g1:=HMID.out.arg.get 1
 have g2:=HMID.out.arg.get 2
 have g3:=HMID.out.arg.get 3
 simp only [List.getElem?_toArray,List.getElem?_cons_succ,List.getElem?_cons_zero] at c0 c2' c3' c4'' g1 g2 g3
 have hF1:=hA1.blk.lt
 have hz1:w.heap.size<w1.heap.size:=HMID.out.arg.lt
 have HA1:=Lib.hid hA1
 clear hA1
 obtain ⟨q,HQ⟩:∃ q:Bool,Hid (q=decide (0≤s.end_∧(s.end_<t∨an=true∧t≠s.end_))):=⟨_,Lib.hid rfl⟩
 go_cut [65] (fun s65 wx=>s65=.bool q∧w1=wx)
 case first=>
  obtain ⟨e,he⟩:∃ e,e=rv.endOf s:=⟨_,rfl⟩
  have HE:=Lib.hid he
  rw [← he] at c3'
  clear he
  by_cases k0:0≤s.end_
  ·have hk:rv.knownOf s=true:=by unfold rv.knownOf;simpa using k0
   have hee:e=s.end_:=by rw [HE.out];unfold rv.endOf;rw [if_neg (by omega)]
   rw [hk] at c4''
   have HEE:=Lib.hid hee
   rw [← hee] at HQ k0
   clear hk hee HBAD
   by_cases k1:e<t
   ·have hq:q=true:=by rw [HQ.out];simpa using ⟨k0,.inl k1⟩
    clear HQ
    go_wp2
    go_meet
    exact ⟨by rw [hq],rfl⟩
   ·cases an with
    | false=>
     have hq:q=false:=by rw [HQ.out];simp;omega
     clear HQ
     go_wp2
     go_meet
     exact ⟨by rw [hq],rfl⟩
    | true=>
     by_cases k2:t=e
     ·have hq:q=false:=by rw [HQ.out];simp;omega
      have k2':(t != e)=false:=by simpa using k2
      clear HQ k2
      go_wp2
      go_meet
      exact ⟨by rw [hq],rfl⟩
     ·have hq:q=true:=by rw [HQ.out];simp;omega
      have k2':(t != e)=true:=by simpa using k2
      clear HQ k2
      go_wp2
      go_meet
      exact ⟨by rw [hq],rfl⟩
  ·have hk:rv.knownOf s=false:=by unfold rv.knownOf;simpa using k0
   have hq:q=false:=by rw [HQ.out];simp;omega
   rw [hk] at c4''
   clear hk HQ HBAD
   go_wp2
   go_meet
   exact ⟨by rw [hq],rfl⟩
 case rest=>
  obtain ⟨rfl,rfl⟩:=hcut
  cases q with
  | true=>
   have HR:=Lib.hid (HBAD.out (.inl (of_decide_eq_true HQ.out.symm)))
   go_wp2
   go_ret
   exact KEY.out _ HR.out _ (HMID.out.below.trans (Below.mono (bself _) HMID.out.below.size))
  | false=>
   have hns:NoSt s t an:=fun h0=>by
    have h1:=of_decide_eq_false HQ.out.symm
    exact ⟨by omega,fun h2=>by
     by_cases h3:t=s.end_
     ·exact h3
     ·exact absurd ⟨h0,.inr ⟨h2,h3⟩⟩ h1⟩
   have HNS:=Lib.hid hns
   clear hns HQ c3' c4''
   go_upto_if 67 with (fail)
   go_cut [] (fun wx=>Hid (Below w1.heap.size w1 wx)∧Hid (Pass s t an))
   case first=>
    cases an with
    | false=>
     have HPS:Hid (Pass s t false):=Lib.hid ⟨HNS.out,fun e=>by cases e⟩
     go_wp2
     go_meet
     exact ⟨Lib.hid (bself _),HPS⟩
    | true=>
     have hdn:0≤s.done:=by omega
     have HLOW:=Lib.hid (ref_Low G Mb n room s.taken (rv.endOf s) s.done (rv.knownOf s) (rv.mapF s) w1 HA1.out hlo.1 hlo.2.1 (by omega) (fun k h1 h2=>rv.mapF_came.2 (.inl ⟨by omega,h2⟩)) (rv.mapF_none.2 (rv.low_not HI.out)))
     by_cases k3:t<s.done
     ·have HR:=Lib.hid (HBAD.out (.inr ⟨rfl,.inl k3⟩))
      go_wp2_with (first
       | (go_at_call 43;((with_reducible refine HLOW.out.mono ?_);rintro e w2 ⟨rfl,hb2⟩;have HB2:=Lib.hid hb2;clear hb2))
       | fail)
      go_ret
      exact KEY.out _ HR.out _ (HMID.out.below.trans (HB2.out.mono HMID.out.below.size))
     ·have k3':¬ s.done > t:=k3
      go_upto_region 11 with (first
       | (go_at_call 43;((with_reducible refine HLOW.out.mono ?_);rintro e w2 ⟨rfl,hb2⟩;have HB2:=Lib.hid hb2;clear hb2))
       | fail)
      have hA2:=HA1.out.next HB2.out
      have c1:=hA2.blk.get 1
      simp only [List.getElem?_toArray,List.getElem?_cons_succ,List.getElem?_cons_zero] at c1
      have HA2:=Lib.hid hA2
      have hM2:Mb<w2.heap.size:=hA2.map.lt
      clear hA2
      have HRGF:Hid (∀ wq left cnt,MapR wq Try.prog 3 Mb w2.heap.size n (mapI (rv.mapF s)) left cnt→(∀ kl,WideAt.IsKeyLit kl→mapI (rv.mapF s) kl≠none→left kl=true)→w2.grownBy wq none→wq.heap.size=w2.heap.size+1→Hid (MapR wq Try.prog 3 Mb w2.heap.size n (mapI (rv.mapF s)) left cnt∧Below w1.heap.size w1 wq∧w2.heap.size<wq.heap.size∧∀ k:Int,rv.mapF s k≠none→k<t∨left (.int .i64 k)=true)):=Lib.hid (fun wq left cnt hrg hl hg hz=>Lib.hid ⟨hrg,HB2.out.trans ((Below.refl _ _).grown hg HB2.out.size (fun j hj=>by cases hj)),by omega,fun k hk=>.inr (hl (.int .i64 k) (by trivial) hk)⟩)
      go_wp2_with (at_range;refine wp_mrange _ rfl _ _ rfl _ (Go.Maps.int_keyed Try.underlying3) Try.underlying68 rfl HA2.out.map ?_;intro wq0 left0 cnt0 hrg hleft hg hsz;have HRG:=HRGF.out wq0 left0 cnt0 hrg hleft hg hsz;clear hrg hleft hg hsz)
      try go_frame
      go_loopw [] (fun wq=>∃ left cnt,Hid (MapR wq Try.prog 3 Mb w2.heap.size n (mapI (rv.mapF s)) left cnt∧Below w1.heap.size w1 wq∧w2.heap.size<wq.heap.size∧∀ k:Int,rv.mapF s k≠none→k<t∨left (.int .i64 k)=true)) (fun wq=>wq.rangeLeft Mb w2.heap.size)
      case atStart=>exact ⟨_,_,HRG⟩
      case round=>
       obtain ⟨left,cnt,HRX⟩:=hrel
       rename World=>wq
       go_wp2_with (at_next;refine wp_mnext _ rfl _ rfl (Go.Maps.int_keyed Try.underlying3) (fun x:Int=>Value.int .i64 x) (fun x:UInt8=>Value.int .u8 (x.toNat:Int)) (fun key kl u hk hu=>?_) (fun kl u hu=>?_) rfl HRX.out.1 ?_ ?_)
       ·obtain ⟨x,rfl,_,_⟩:=Maps.keyOf_int_inv Try.underlying3 hk
        exact ⟨x,rfl⟩
       ·unfold mapI at hu
        split at hu
        ·exact rv.mapF_u8 hu
        ·cases hu
       ·intro hl0
        have HPS:Hid (Pass s t true):=Lib.hid (rv.pass_iff HI.out htb.1 HNS.out (fun _=>⟨by omega,fun k hk=>by
         rcases HRX.out.2.2.2 k hk with h | h
         ·exact h
         ·rw [hl0] at h;cases h⟩))
        have HBX:=Lib.hid HRX.out.2.1
        clear HRX hl0
        go_wp2
        go_meet
        exact ⟨HBX,HPS⟩
       ·intro x cc kl w3 cnt1 hkey hlk hmk hrg1 hlt hg1 hs1 hen
        obtain ⟨x',hx',hkl,hwf⟩:=Maps.keyOf_int_inv Try.underlying3 hkey
        simp only [Value.int.injEq,true_and] at hx'
        subst hx'
        subst hkl
        have hmx:rv.mapF s x≠none:=by
         rw [mapI_at] at hmk
         rw [hmk]
         simp
        have HBX:Hid (Below w1.heap.size w1 w3):=Lib.hid (HRX.out.2.1.grown hg1 HRX.out.2.1.size (fun j hj=>by cases hj;exact HB2.out.size))
        by_cases k4:t≤x
        ·have HR:=Lib.hid (HBAD.out (.inr ⟨by trivial,.inr ⟨x,hmx,k4⟩⟩))
         clear HRX hkey hmk hrg1 hg1 hmx hlk
         go_wp2
         go_ret
         exact KEY.out _ HR.out _ (HMID.out.below.trans (HBX.out.mono HMID.out.below.size))
        ·have k4':¬ x ≥ t:=k4
         have HRN:Hid (MapR w3 Try.prog 3 Mb w2.heap.size n (mapI (rv.mapF s)) (fun z=>left z && !z.sameKey (.int .i64 x)) cnt1∧Below w1.heap.size w1 w3∧w2.heap.size<w3.heap.size∧∀ k:Int,rv.mapF s k≠none→k<t∨(left (.int .i64 k) && !(Lit.int .i64 k).sameKey (.int .i64 x))=true):=Lib.hid ⟨hrg1,HBX.out,by rw [hs1];exact HRX.out.2.2.1,fun k hk=>by
          by_cases hkx:k=x
          ·left;omega
          ·refine (HRX.out.2.2.2 k hk).imp id (fun h=>?_)
           rw [h,sameKey_ne (fun e=>hkx (by injection e))]
           rfl⟩
         have HLE:=Lib.hid (And.intro HRX.out.1.left_eq hrg1.left_eq)
         clear HRX hkey hmk hrg1 hg1 hmx hlk
         go_wp2
         go_roundw
         case rel=>exact ⟨_,cnt1,HRN⟩
         case measure=>rw [HLE.out.1,HLE.out.2];exact hlt
   case rest=>
    obtain ⟨HB2,HPS⟩:=hcut
    rename World=>w2
    have HA2:=Lib.hid (HA1.out.next HB2.out)
    have HR2:=Lib.hid (HMID.out.arg.next HB2.out)
    have hB02:Below w.heap.size w w2:=HMID.out.below.trans (HB2.out.mono HMID.out.below.size)
    have HB02:=Lib.hid hB02
    have HLOW:=Lib.hid (ref_Low G Mb n room s.taken (rv.endOf s) s.done (rv.knownOf s) (rv.mapF s) w2 HA2.out hlo.1 hlo.2.1 (by omega) (fun k h1 h2=>rv.mapF_came.2 (.inl ⟨by omega,h2⟩)) (rv.mapF_none.2 (rv.low_not HI.out)))
    clear hB02 HB2 HNS HMID HA1 hz1 hF1 g1 g2 g3 c0 c2'
    go_upto_region 17 with (first
     | (go_at_call 43;((with_reducible refine HLOW.out.mono ?_);rintro e w3 ⟨rfl,hb3⟩;have HB3:=Lib.hid hb3;clear hb3))
     | fail)
    have HR3:=Lib.hid (HR2.out.next HB3.out)
    have HF0:Hid (Fil w w3 G Mb n n room s ⟨ak,af,ad,an,ac⟩ 0 none 0 [] #[.int .i64 ak,.int .i64 af,.slice Ga al gc,.bool an,.int .i64 ac]):=Lib.hid ⟨by rw [rv.fill_zero];exact HA2.out.next HB3.out,Own.nil _ _ _ _,HR3.out,Stays.of_below (HB02.out.trans (HB3.out.mono HB02.out.size)) _,⟨by omega,by simp⟩,fun x hx=>(by cases hx),fun x hx=>(by cases hx),fun x h1 h2=>absurd (by rw [rv.fill_zero];exact h1) h2⟩
    have hz3:=HR3.out.lt
    have g2:=HR3.out.get 2
    simp only [List.getElem?_toArray,List.getElem?_cons_succ,List.getElem?_cons_zero] at g2
    clear HLOW HB3 HR2 HA2 HB02 HR3
    go_wp2
    go_loopw [8,89] (fun s8 i wr=>∃ (k n2:Nat) (A:Option Addr) (c:Nat) (Lf:List Int),k≤al∧i=.int .i64 k∧s8=.slice A Lf.length c∧Hid (Fil w wr G Mb n n2 room s ⟨ak,af,ad,an,ac⟩ k A c Lf #[.int .i64 ak,.int .i64 af,.slice Ga al gc,.bool an,.int .i64 ac])) (fun _ i _=>al - (intOf i).toNat)
    case atStart=>exact ⟨0,n,none,0,[],by omega,rfl,rfl,HF0⟩
    case round=>
     obtain ⟨k,n2,A,c,Lf,hk,rfl,rfl,HR⟩:=hrel
     rename World=>wr
     by_cases hlt:k<al
     ·--[v
      have hA:=HR.out.at_
      have hlt':(k:Int)<(al:Int):=by omega
      obtain ⟨p,hp⟩:∃ p,af+(k:Int)=p:=⟨_,rfl⟩
      have hpb:0≤p∧p≤1048575:=by omega
      have HP:=Lib.hid hp
      have c0:=hA.blk.get 0
      have c1:=hA.blk.get 1
      have c2':=hA.blk.get 2
      have g1:=HR.out.arg.get 1
      have g2:=HR.out.arg.get 2
      simp only [List.getElem?_toArray,List.getElem?_cons_succ,List.getElem?_cons_zero] at c0 c1 c2' g1 g2
      have hFr:=hA.blk.lt
      have hzr:=HR.out.arg.lt
      obtain ⟨gb,ob,rfl,hsb,hce⟩:=u8_at (HG.out.keep (S':=S) fun q hq=>⟨hq,HR.out.stay.block q (HS.out q hq).1 (fun e=>(HS.out q hq).2 (.inr e))⟩) (k:=k) (by rw [← HAL.out];exact hlt)
      have hgb:gb<wr.heap.size:=Nat.lt_of_lt_of_le (HS.out gb hsb).1 HR.out.stay.size
      have hgM:gb≠Mb:=fun e=>(HS.out gb hsb).2 (.inr e)
      have HV0:Hid (mapI (rv.fill room s ⟨ak,af,ad,an,ac⟩ k) (.int .i64 p)=rv.mapF s p):=Lib.hid (by rw [mapI_at,← hp];exact rv.fill_at (a:=⟨ak,af,ad,an,ac⟩))
      have HWF:Hid ((Lit.int .i64 p).wf=true):=Lib.hid (wf_i64 (by unfold IntOk;omega))
      have ew:IntKind.i64.wrap (s.taken+room)=s.taken+room:=IntWalk.i64_in _ (by omega)
      have ew2:IntKind.i64.wrap (af+(k:Int))=p:=by rw [hp];exact IntWalk.i64_in _ (by omega)
      have HSKI:Hid (¬ (rv.mapF s p=none∧s.done≤p∧p<s.taken+room)→rv.fill room s ⟨ak,af,ad,an,ac⟩ (k+1)=rv.fill room s ⟨ak,af,ad,an,ac⟩ k):=Lib.hid (fun h=>rv.fill_skip (a:=⟨ak,af,ad,an,ac⟩) (fun h2=>h (by simp only [HP.out] at h2;exact ⟨rv.mapF_none.2 h2.1,h2.2⟩)))
      clear hA
      cases hm:rv.mapF s p with
      | some u=>
       have HV:Hid (mapI (rv.fill room s ⟨ak,af,ad,an,ac⟩ k) (.int .i64 p)=some u):=Lib.hid (by rw [HV0.out];exact hm)
       have HSK:=Lib.hid (HSKI.out (fun h=>by rw [hm] at h;cases h.1))
       clear hm HSKI HV0
       go_wp2_with (first
        | (at_lookup;refine wp_mlook_ok _ rfl _ _ _ rfl (Go.Maps.int_keyed Try.underlying3) Try.underlying68 (z:=.int .u8 0) (by kernel_rfl) rfl HR.out.at_.map _ rfl (Go.Maps.keyOf_int_mk Try.underlying3 HWF.out) ?_;rw [HV.out])
        | fail)
       go_quiet (fail)
       go_wp2
       go_roundw
       case rel=>exact ⟨k+1,n2,A,c,Lf,by omega,by go_num,rfl,Lib.hid (HR.out.skip HSK.out (bdrewN (bself _) _))⟩
       case measure=>simp [intOf];omega
      | none=>
       have HV:Hid (mapI (rv.fill room s ⟨ak,af,ad,an,ac⟩ k) (.int .i64 p)=none):=Lib.hid (by rw [HV0.out];exact hm)
       have HNP:=Lib.hid hm
       clear hm HV0
       by_cases k1:s.done≤p
       ·by_cases k2:p<s.taken+room
        ·clear HSKI
         have HPUT:=Lib.hid (rv.fill_put (a:=⟨ak,af,ad,an,ac⟩) (i:=k) (by simp only;rw [← HAL.out];exact hlt) (by simp only [HP.out];exact rv.mapF_none.1 HNP.out) (by simp only [HP.out];exact k1) (by simp only [HP.out];exact k2))
         simp only [HP.out] at HPUT
         generalize ad.getD k 0=x at *
         have k1':p ≥ s.done:=k1
         go_wp2_with (first
          | (at_lookup;refine wp_mlook_ok _ rfl _ _ _ rfl (Go.Maps.int_keyed Try.underlying3) Try.underlying68 (z:=.int .u8 0) (by kernel_rfl) rfl HR.out.at_.map _ rfl (Go.Maps.keyOf_int_mk Try.underlying3 HWF.out) ?_;rw [HV.out])
          | fail)
         go_quiet (fail)
         go_upto_region 24 with (fail)
         have hput:=fun m:Nat=>(HR.out.at_.map.drewN m).put (Go.Maps.int_keyed Try.underlying3) Try.underlying68 (by have:=HR.out.few.1;unfold maxLen;omega) (Go.Maps.keyOf_int_mk Try.underlying3 HWF.out) (.int .u8 (x.toNat:Int))
         obtain ⟨wf,hwf⟩:=Classical.skolem.1 hput
         have HWFF:=Lib.hid (fun m=>(hwf m).2)
         have hrun:=fun m=>(hwf m).1
         clear hwf hput
         go_region_law (fail)
         all_goals
          have hm5:=(HWFF.out (nq+1)).1
          have hg5:=(HWFF.out (nq+1)).2
          clear hrun HWFF
          generalize wf (nq+1)=w5 at *
          have hs5:Stays wr w5 (fun q=>q=Mb):=(Stays.of_below (bdrewN (bself _) _) _).comp (Stays.grown hg5)
          have HS5:=Lib.hid hs5
          have HO5:Hid (Own w5 (w.heap.size+1) 3 1 A Lf.length c (Lf.map (Value.int .i64))):=Lib.hid (HR.out.own.stays hs5 (fun q hq e=>by have:=(HR.out.own.lt q hq).1;omega))
          have HM5:Hid (MapV w5 Try.prog 3 Mb (n2+1) (mapI (rv.fill room s ⟨ak,af,ad,an,ac⟩ (k+1)))):=Lib.hid (by
           rw [mapI_put] at hm5
           rw [HPUT.out]
           exact hm5)
          have hz5:wr.heap.size≤w5.heap.size:=hs5.size
          have hLfb:Lf.length≤64:=by have:=HR.out.few.2;omega
          clear hm5 hg5 hs5
          go_wp2_with (first
           | (at_builtin;refine wp_app _ rfl _ _ _ rfl rv.elemI (w.heap.size+1) A Lf.length c (Lf.map (Value.int .i64)) rfl (HO5.out.alloc _) _ 1 1 [.int .i64 p] rfl rfl (Cells.newAt _ _ _ rfl) (by simp [Value.oneCell']) (by omega) (by unfold maxLen;omega) (by simp only [World.size_alloc];omega) ?_;intro A6 c6 w7 hO7 hg7;have HO7:=Lib.hid hO7;have HG7:=Lib.hid hg7;clear hO7 hg7)
           | fail)
          go_roundw
          case rel=>exact ⟨k+1,n2+1,A6,c6,Lf ++ [p],by omega,by go_num,by rw [List.length_append];rfl,Lib.hid (HR.out.put hzr hFl hMl HP.out.symm hpb HNP.out HPUT.out HM5.out HS5.out (balloc (bself _) _) HG7.out HO7.out)⟩
          case measure=>simp [intOf];omega
        ·have HSK:=Lib.hid (HSKI.out (fun h=>k2 h.2.2))
         clear HSKI
         go_wp2_with (first
          | (at_lookup;refine wp_mlook_ok _ rfl _ _ _ rfl (Go.Maps.int_keyed Try.underlying3) Try.underlying68 (z:=.int .u8 0) (by kernel_rfl) rfl HR.out.at_.map _ rfl (Go.Maps.keyOf_int_mk Try.underlying3 HWF.out) ?_;rw [HV.out])
          | fail)
         go_quiet (fail)
         go_wp2
         go_roundw
         case rel=>exact ⟨k+1,n2,A,c,Lf,by omega,by go_num,rfl,Lib.hid (HR.out.skip HSK.out (bdrewN (bself _) _))⟩
         case measure=>simp [intOf];omega
       ·have HSK:=Lib.hid (HSKI.out (fun h=>k1 h.2.1))
        have k1':decide (s.done≤p)=false:=by simpa using k1
        clear HSKI
        go_wp2_with (first
         | (at_lookup;refine wp_mlook_ok _ rfl _ _ _ rfl (Go.Maps.int_keyed Try.underlying3) Try.underlying68 (z:=.int .u8 0) (by kernel_rfl) rfl HR.out.at_.map _ rfl (Go.Maps.keyOf_int_mk Try.underlying3 HWF.out) ?_;rw [HV.out])
         | fail)
        go_quiet (fail)
        go_wp2
        go_roundw
        case rel=>exact ⟨k+1,n2,A,c,Lf,by omega,by go_num,rfl,Lib.hid (HR.out.skip HSK.out (bdrewN (bself _) _))⟩
        case measure=>simp [intOf];omega
     ·obtain rfl:k=al:=by omega
      have hfo:=rv.filled_ok HI.out ⟨ak,af,ad,an,ac⟩
      have HARV:=HGO.out HPS.out
      clear HGO HBAD HPS
      generalize rv.filled room s ⟨ak,af,ad,an,ac⟩=s1 at *
      have HARR:=Lib.hid HARV
      have hmap:=hfo.map
      simp only at hmap
      rw [← HAL.out] at hmap
      have HMAP:=Lib.hid hmap
      have HFO:=Lib.hid hfo
      have HIA:Hid (IAt wr G Mb n2 room s.taken (rv.endOf s) (rv.knownOf s) (rv.mapF s1)):=Lib.hid (by rw [← hmap];exact HR.out.at_)
      obtain ⟨K,hK⟩:∃ K:Nat,s.taken+room+1=s1.done+K:=⟨(s.taken+room+1 - s1.done).toNat,by have:=hfo.lo;omega⟩
      have HRG:=Lib.hid (ref_ranges G Mb n2 room s.taken (rv.endOf s) s1.done (rv.knownOf s) (rv.mapF s1) K wr HIA.out hlo.1 hfo.lo.1 (by have:=hfo.lo;omega) hfo.low hfo.notlow hr.2 hK)
      rw [hfo.runs K hK] at HRG
      have hzr:=HR.out.arg.lt
      clear HARV hmap hfo hK
      obtain ⟨ml,hml⟩:∃ ml:Nat,ml=s1.more.length:=⟨_,rfl⟩
      have HML:=Lib.hid hml
      rw [← hml] at HRG HARR
      by_cases hfull:16<ml
      ·have hfull':(16:Int)<(ml:Int):=by omega
       have HAR9:Hid (rv.arrive room s ⟨ak,af,ad,an,ac⟩=(9,s)):=Lib.hid (by rw [HARR.out,if_pos hfull])
       clear hml
       go_upto_region 28 with (first
        | (go_at_call 45;((with_reducible refine HRG.out.mono ?_);rintro e w4 ⟨A4,c4',rfl,hO4,hb4⟩;have HB4:=Lib.hid hb4;clear hO4 hb4))
        | fail)
       have HI4:=Lib.hid (HIA.out.next HB4.out)
       have HO4:=Lib.hid (HR.out.own.next HB4.out)
       have HST4:Hid (Stays w w4 (fun q=>q=Mb)):=Lib.hid (HR.out.stay.trans (Stays.of_below HB4.out (fun q=>q=Mb)) (fun _ _ e=>e))
       obtain ⟨fl,hfl⟩:∃ fl:Nat,fl=Lf.length:=⟨_,rfl⟩
       have HFL:=Lib.hid hfl
       have hflb:fl≤64:=by have:=HR.out.few.2;omega
       rw [← hfl] at HO4
       try rw [← hfl]
       clear hfl
       go_wp2
       go_loopw [146] (fun i wx=>∃ j:Nat,j≤fl∧i=.int .i64 j∧Hid (IAt wx G Mb n2 room s.taken (rv.endOf s) (rv.knownOf s) (fun x=>if x ∈ Lf.take j then none else rv.mapF s1 x)∧Own wx (w.heap.size+1) 3 1 A fl c (Lf.map (Value.int .i64))∧Stays w wx (fun q=>q=Mb))) (fun i _=>fl - (intOf i).toNat)
       case atStart=>exact ⟨0,by omega,rfl,Lib.hid ⟨by simpa using HI4.out,HO4.out,HST4.out⟩⟩
       case round=>
        obtain ⟨j,hj,rfl,HJ⟩:=hrel
        rename World=>wx
        by_cases hjl:j<fl
        ·have hjl':(j:Int)<(fl:Int):=by omega
         obtain ⟨y,hy⟩:∃ y,Lf[j]? = some y:=⟨_,List.getElem?_eq_getElem (by rw [← HFL.out];exact hjl)⟩
         have hyb:=HR.out.rng y (List.mem_of_getElem? hy)
         obtain ⟨g,rfl,hg1,hg2,hgc⟩:=HJ.out.2.1.cell (j:=j) (u:=.int .i64 y) (by rw [List.getElem?_map,hy];rfl)
         have hI:=HJ.out.1
         have c1:=hI.blk.get 1
         simp only [List.getElem?_toArray,List.getElem?_cons_succ,List.getElem?_cons_zero] at c1
         have hFx:=hI.blk.lt
         have HWF:Hid ((Lit.int .i64 y).wf=true):=Lib.hid (wf_i64 (by unfold IntOk;omega))
         have HTK:Hid ((fun i=>if i=y then none else (fun x=>if x ∈ Lf.take j then none else rv.mapF s1 x) i)=fun x=>if x ∈ Lf.take (j+1) then none else rv.mapF s1 x):=Lib.hid (by
          funext x
          have e:Lf.take (j+1)=Lf.take j ++ [y]:=by
           rw [List.take_add_one,hy]
           rfl
          rw [e]
          by_cases hx:x=y
          ·rw [if_pos hx,if_pos (by rw [hx];simp)]
          ·rw [if_neg hx]
           simp only [List.mem_append,List.mem_singleton,hx,or_false])
         have HMP:Hid (MapV wx Try.prog 3 Mb n2 (mapI (fun x=>if x ∈ Lf.take j then none else rv.mapF s1 x))):=Lib.hid hI.map
         clear hI hy
         go_wp2_with (first
          | (at_delete;refine wp_mdel _ rfl _ _ _ rfl (Go.Maps.int_keyed Try.underlying3) Try.underlying68 rfl HMP.out _ rfl (Go.Maps.keyOf_int_mk Try.underlying3 HWF.out) ?_;intro w5 hm5 hg5;have HM5:=Lib.hid hm5;have HG5:=Lib.hid hg5;clear hm5 hg5)
          | fail)
         go_roundw
         case rel=>
          refine ⟨j+1,by omega,by go_num,Lib.hid ⟨⟨HJ.out.1.blk.stays (Stays.grown HG5.out) (fun e=>HJ.out.1.two e.symm),?_⟩,HJ.out.2.1.stays (Stays.grown HG5.out) (fun q hq e=>by have:=(HJ.out.2.1.lt q hq).1;omega),HJ.out.2.2.trans (Stays.grown HG5.out) (fun _ _ e=>e)⟩⟩
          have h:=HM5.out
          rw [mapI_del,HTK.out] at h
          exact h
         case measure=>simp [intOf];omega
        ·obtain rfl:j=fl:=by omega
         have HEND:Hid (InRes w G Mb n 64 room (rv.arrive room s ⟨ak,af,ad,an,ac⟩) (.returned (.int .i64 9)) wx):=Lib.hid (by
          rw [HAR9.out]
          refine ⟨n2,by have:=HR.out.few.1;omega,rfl,?_,HJ.out.2.2.mono fun q _ e=>.inr e⟩
          have h:=HJ.out.1
          rw [HFL.out,List.take_length] at h
          have hb:=HR.out.back
          rw [HMAP.out] at hb
          unfold IS
          rw [← hb]
          exact h)
         clear HJ HAR9
         go_wp2
         go_ret
         exact HEND.out
      ·have hfull':¬ (16:Int)<(ml:Int):=by omega
       have HAR0:Hid (rv.arrive room s ⟨ak,af,ad,an,ac⟩=(0,{ s1 with end_:=if an=true then t else s.end_ })):=Lib.hid (by rw [HARR.out,if_neg hfull])
       clear hml
       go_upto_region 34 with (first
        | (go_at_call 45;((with_reducible refine HRG.out.mono ?_);rintro e w4 ⟨A4,c4',rfl,hO4,hb4⟩;have HB4:=Lib.hid hb4;clear hO4 hb4))
        | fail)
       have hA4:=HIA.out.next HB4.out
       have g3:=(HR.out.arg.next HB4.out).get 3
       have hz4:=(HR.out.arg.next HB4.out).lt
       have d3:=hA4.blk.get 3
       have d4:=hA4.blk.get 4
       have f3:=hA4.blk.frozen 3
       have f4:=hA4.blk.frozen 4
       simp only [List.getElem?_toArray,List.getElem?_cons_succ,List.getElem?_cons_zero] at g3 d3 d4
       have HEND:Hid (∀ wx,Stays w4 wx (fun q=>q=G)→IAt wx G Mb n2 room s.taken (if an=true then t else rv.endOf s) (if an=true then true else rv.knownOf s) (rv.mapF s1)→InRes w G Mb n 64 room (rv.arrive room s ⟨ak,af,ad,an,ac⟩) (.returned (.int .i64 0)) wx):=Lib.hid (fun wx hs hi2=>by
        rw [HAR0.out]
        refine ⟨n2,by have:=HR.out.few.1;omega,rfl,?_,((HR.out.stay.mono fun q _ e=>.inr e).trans (Stays.of_below HB4.out (GM G Mb)) (fun _ _ e=>e)).trans hs (fun q _ e=>.inl e)⟩
        unfold IS
        have e1:rv.endOf { s1 with end_:=if an=true then t else s.end_ }=if an=true then t else rv.endOf s:=by
         unfold rv.endOf
         cases an
         ·rfl
         ·simp only [if_true]
          rw [if_neg (by omega)]
        have e2:rv.knownOf { s1 with end_:=if an=true then t else s.end_ }=if an=true then true else rv.knownOf s:=by
         unfold rv.knownOf
         cases an
         ·rfl
         ·simp only [if_true]
          simpa using htb.1
        rw [e1,e2]
        show IAt wx G Mb n2 room s1.taken _ _ (rv.mapF s1)
        rw [HFO.out.tk]
        exact hi2)
       have HA4:=Lib.hid hA4
       clear hA4
       cases an with
       | true=>
        go_wp2
        go_ret
        exact HEND.out _ ((Stays.set _ _ _ _).comp (Stays.set _ _ _ _)) ⟨by simpa using (HA4.out.blk.set 4 (.bool true)).set 3 (.int .i64 t),(HA4.out.map.setCell (fun e=>HA4.out.two e.symm) _).setCell (fun e=>HA4.out.two e.symm) _⟩
       | false=>
        go_wp2
        go_ret
        exact HEND.out _ (Stays.refl _ _) HA4.out
end Go.Proofs.Ytdldfllllgogoaa
namespace Go.Proofs.Ytdldfllllgogoaa
open Go.RowKit
set_option linter.unusedSimpArgs false
theorem BlkA.six {w:World} {F:Nat} {T:TypeId} {a0 a1 a2 a3 a4 a5:Value} (h:BlkA w F T #[a0,a1,a2,a3,a4,a5]) (v0 v1 v2 v3 v4 v5:Value):BlkA ((((((w.setCell ⟨F,0,none⟩ v0).setCell ⟨F,1,none⟩ v1).setCell ⟨F,2,none⟩ v2).setCell ⟨F,3,none⟩ v3).setCell ⟨F,4,none⟩ v4).setCell ⟨F,5,none⟩ v5) F T #[v0,v1,v2,v3,v4,v5]:=by
 have h:=(((((h.set 0 v0).set 1 v1).set 2 v2).set 3 v3).set 4 v4).set 5 v5
 simpa using h
theorem Stays.six (w:World) (F:Nat) (v0 v1 v2 v3 v4 v5:Value):Stays w ((((((w.setCell ⟨F,0,none⟩ v0).setCell ⟨F,1,none⟩ v1).setCell ⟨F,2,none⟩ v2).setCell ⟨F,3,none⟩ v3).setCell ⟨F,4,none⟩ v4).setCell ⟨F,5,none⟩ v5) (fun k=>k=F):=
 ((((((Stays.set _ _ _ _).comp (Stays.set _ _ _ _)).comp (Stays.set _ _ _ _)).comp (Stays.set _ _ _ _)).comp (Stays.set _ _ _ _)).comp (Stays.set _ _ _ _))
theorem u8NeTold:5≠41:=by decide
section
variable {w1 w2:World} {E:Option Addr} {m ec:Nat} {xs:List Value} (hb:Below w1.heap.size w1 w2) (hE:Own w2 w1.heap.size 5 1 E m ec xs)
include hb hE
theorem take_end1:Hid (BlkA (w2.alloc (.cells #[.int .i64 0,.int .i64 0,.int .i64 0,.slice none 0 0,.slice E m ec,.bool false] 41)) w2.heap.size 41 #[.int .i64 0,.int .i64 0,.int .i64 0,.slice none 0 0,.slice E m ec,.bool false]∧Own (w2.alloc (.cells #[.int .i64 0,.int .i64 0,.int .i64 0,.slice none 0 0,.slice E m ec,.bool false] 41)) w1.heap.size 5 1 E m ec xs∧Below w1.heap.size w1 (w2.alloc (.cells #[.int .i64 0,.int .i64 0,.int .i64 0,.slice none 0 0,.slice E m ec,.bool false] 41))):=Lib.hid ⟨BlkA.new _ _ _,hE.alloc _,balloc hb _⟩
theorem take_end2 {a0 a1 a2 a3 a4 a5:Value} (hq:BlkA w2 w1.heap.size 41 #[a0,a1,a2,a3,a4,a5]):Hid (BlkA ((((((w2.setCell ⟨w1.heap.size,0,none⟩ (.int .i64 0)).setCell ⟨w1.heap.size,1,none⟩ (.int .i64 0)).setCell ⟨w1.heap.size,2,none⟩ (.int .i64 0)).setCell ⟨w1.heap.size,3,none⟩ (.slice none 0 0)).setCell ⟨w1.heap.size,4,none⟩ (.slice E m ec)).setCell ⟨w1.heap.size,5,none⟩ (.bool false)) w1.heap.size 41 #[.int .i64 0,.int .i64 0,.int .i64 0,.slice none 0 0,.slice E m ec,.bool false]∧Own ((((((w2.setCell ⟨w1.heap.size,0,none⟩ (.int .i64 0)).setCell ⟨w1.heap.size,1,none⟩ (.int .i64 0)).setCell ⟨w1.heap.size,2,none⟩ (.int .i64 0)).setCell ⟨w1.heap.size,3,none⟩ (.slice none 0 0)).setCell ⟨w1.heap.size,4,none⟩ (.slice E m ec)).setCell ⟨w1.heap.size,5,none⟩ (.bool false)) w1.heap.size 5 1 E m ec xs∧Below w1.heap.size w1 ((((((w2.setCell ⟨w1.heap.size,0,none⟩ (.int .i64 0)).setCell ⟨w1.heap.size,1,none⟩ (.int .i64 0)).setCell ⟨w1.heap.size,2,none⟩ (.int .i64 0)).setCell ⟨w1.heap.size,3,none⟩ (.slice none 0 0)).setCell ⟨w1.heap.size,4,none⟩ (.slice E m ec)).setCell ⟨w1.heap.size,5,none⟩ (.bool false))):=
 Lib.hid ⟨hq.six _ _ _ _ _ _,hE.stays (Stays.six _ _ _ _ _ _ _ _) (fun k hk e=>hq.apart hE u8NeTold (e ▸ hk)),hb.trans ((Stays.six _ _ _ _ _ _ _ _).below hb.size (fun k hk=>Nat.le_of_eq hk.symm))⟩
end
theorem HAt.hf_lt {w:World} {B F:Nat} {room:Int} {s:rv.St} {D M:Option Addr} {dc mc:Nat} (h:HAt w B F room s D dc M mc) {k:Nat} (hk:HF F D M s.more k):B≤k∧k<w.heap.size:=by
 rcases hk with e | e | ⟨e,e2⟩
 ·exact ⟨by rw [e];exact h.lo,by rw [e];exact h.blk.lt⟩
 ·exact h.data.lt k e
 ·rcases h.mset with e3 | ⟨q,hq,hin⟩
  ·exact absurd e3 e
  ·rw [hq] at e2
   cases e2
   exact ⟨hin.1,hin.2.1⟩
def TakeRes (w:World) (B F:Nat) (room:Int) (s:rv.St) (c:Int) (l:List UInt8) (b:Bool) (s':rv.St) (D:Option Addr) (dc:Nat) (M:Option Addr) (mc:Nat) (e:Ending) (w':World):Prop:=
 ∃ E ec,e=.returned (.agg #[.int .i64 c,.int .i64 0,.int .i64 0,.slice none 0 0,.slice E l.length ec,.bool b])∧Own w' w.heap.size 5 1 E l.length ec (l.map rv.u8v)∧HAt w' B F room s' D dc M mc∧Stays w w' (fun k=>k=F)
set_option maxRecDepth 100000 in
set_option maxHeartbeats 2000000 in
theorem recv_take_no (B F:Nat) (room:Int) (s:rv.St) (D:Option Addr) (dc:Nat) (M:Option Addr) (mc:Nat) (c:Int) (w:World) (h:HAt w B F room s D dc M mc) (hc:c<0∨4096<c) :
  Calls Try.prog 40 #[.pointer (some ⟨F,0,none⟩),.int .i64 c] w (TakeRes w B F room s 2 [] false s D dc M mc):=by
 have HE:Hid (∀ wx,Below w.heap.size w wx→TakeRes w B F room s 2 [] false s D dc M mc (.returned (.agg #[.int .i64 2,.int .i64 0,.int .i64 0,.slice none 0 0,.slice none 0 0,.bool false])) wx):=Lib.hid (fun wx hb=>⟨none,0,rfl,Own.nil _ _ _ _,h.next hb,Stays.of_below hb _⟩)
 clear h
 by_cases h0:c<0
 ·go_enter Try.func40,Try.ntmps40
  go_wp2
  exact bodyPost_ret (v:=.agg #[.int .i64 2,.int .i64 0,.int .i64 0,.slice none 0 0,.slice none 0 0,.bool false]) (by simp [results,Try.results40,go_sem]) rfl (HE.out _ (by repeat (first | (with_reducible first | exact Below.refl _ _ | assumption | refine bset ?_ ?_ _ | refine balloc ?_ _ | refine Below.drew ?_ | refine bdrewN ?_ _ | refine bnext ?_ (by with_reducible assumption)) | exact Nat.le_refl _ | (simp;done) | omega | (simp;omega))))
 ·have h1:4096<c:=by omega
  clear hc
  go_enter Try.func40,Try.ntmps40
  go_wp2
  exact bodyPost_ret (v:=.agg #[.int .i64 2,.int .i64 0,.int .i64 0,.slice none 0 0,.slice none 0 0,.bool false]) (by simp [results,Try.results40,go_sem]) rfl (HE.out _ (by repeat (first | (with_reducible first | exact Below.refl _ _ | assumption | refine bset ?_ ?_ _ | refine balloc ?_ _ | refine Below.drew ?_ | refine bdrewN ?_ _ | refine bnext ?_ (by with_reducible assumption)) | exact Nat.le_refl _ | (simp;done) | omega | (simp;omega))))
set_option maxRecDepth 100000 in
set_option maxHeartbeats 2000000 in
theorem recv_take_ok (B F:Nat) (room:Int) (s:rv.St) (D:Option Addr) (dc:Nat) (M:Option Addr) (mc:Nat) (c:Int) (w:World) (h:HAt w B F room s D dc M mc) (hi:rv.Inv room s) (hc:0≤c∧c≤4096) :
  Calls Try.prog 40 #[.pointer (some ⟨F,0,none⟩),.int .i64 c] w (TakeRes w B F room s 0 ((s.data.drop s.taken.toNat).take (rv.takeOf s c)) (decide (s.taken+rv.takeOf s c=s.end_)) { s with taken:=s.taken+rv.takeOf s c } D dc M mc):=by
 have H:=Lib.hid h
 have HI:=Lib.hid hi
 have hFl:=h.blk.lt
 have hk:=rv.takeOf_le hi (c:=c) hc.1
 generalize hm:rv.takeOf s c=m at *
 have hlo:=hi.lo
 have htop:=hi.top
 have hlen:=hi.len.1
 have hDc:s.data.length≤dc:=h.data.cap.1
 obtain ⟨tk,htk⟩:∃ tk:Nat,s.taken=(tk:Int):=⟨s.taken.toNat,by omega⟩
 obtain ⟨dn,hdn⟩:∃ dn:Int,s.done=dn:=⟨_,rfl⟩
 have HTK:=Lib.hid htk
 have d1:=h.blk.get 1
 have d2:=h.blk.get 2
 have d4:=h.blk.get 4
 have d5:=h.blk.get 5
 have f4:=h.blk.frozen 4
 simp only [List.getElem?_toArray,List.getElem?_cons_succ,List.getElem?_cons_zero] at d1 d2 d4 d5
 rw [htk] at d4 hlo hk ⊢
 rw [hdn] at d2 hlo hk htop hlen
 have hmb:(m:Int)≤4096∧(tk:Int)+(m:Int)≤dn:=by omega
 have htn:tk+m≤s.data.length:=by omega
 have hsl:SlRep Rep.u8 w (fun k=>B≤k∧k<w.heap.size) ((s.data.drop tk).take m) (cutA D dc tk 1) (dc - tk):=(Own.u8 h.data).2.cut htn
 have hpl:((s.data.drop tk).take m).length=m:=by rw [List.length_take,List.length_drop];omega
 have HCL:=Lib.hid (fun wz (hb:Below w.heap.size w wz)=>clone_u8 m (cutA D dc tk 1) (dc - tk) (((s.data.drop tk).take m).map rv.u8v) wz (by rw [List.length_map];exact hpl) (fun w' hb'=>SlRep.cells_u8 (hsl.keep fun k hk=>⟨hk,(hb'.block k (Nat.lt_of_lt_of_le hk.2 hb.size)).trans (hb.block k hk.2)⟩)) (oneCell_u8 _) (by omega))
 have HPL:=Lib.hid hpl
 have c1:=fun W=>run_cut_lh elemU8 D s.data.length dc tk m (by omega) (tk:Int) ((tk:Int)+(m:Int)) rfl rfl W
 rw [Int.toNat_natCast]
 generalize (s.data.drop tk).take m=xs at *
 have HMM:=Lib.hid hk
 generalize s.data.length=dl at *
 have e1:IntKind.i64.wrap (dn - (tk:Int))=dn - (tk:Int):=IntWalk.i64_in _ (by omega)
 obtain ⟨nx,hnx⟩:∃ nx:Int,nx=(m:Int):=⟨_,rfl⟩
 clear h hi hk hlen hDc htk hdn htn hsl hpl hm HTK
 obtain ⟨bq,hbq⟩:∃ b:Bool,decide ((tk:Int)+(m:Int)=s.end_)=b:=⟨_,rfl⟩
 obtain ⟨en,hen⟩:∃ en:Int,s.end_=en:=⟨_,rfl⟩
 rw [hbq]
 rw [hen] at hbq d5
 have HBQ:=Lib.hid hbq
 clear hbq hen
 go_enter Try.func40,Try.ntmps40
 go_upto_region 3 with (fail)
 go_cut [5] (fun s5 wx=>s5=.int .i64 (m:Int)∧Hid (Below w.heap.size w wx∧BlkA wx w.heap.size 41 #[.int .i64 0,.int .i64 0,.int .i64 0,.slice none 0 0,.slice none 0 0,.bool false]))
 case first=>
  go_quiet (fail)
  go_wp2
  all_goals
   go_meet
   refine ⟨?_,Lib.hid ⟨(by repeat (first | (with_reducible first | exact Below.refl _ _ | assumption | refine bset ?_ ?_ _ | refine balloc ?_ _ | refine Below.drew ?_ | refine bdrewN ?_ _ | refine bnext ?_ (by with_reducible assumption)) | exact Nat.le_refl _ | (simp;done) | omega | (simp;omega))),(BlkA.new w _ _).drewN _⟩⟩
   rw [HMM.out];congr 1;omega
 case rest=>
  obtain ⟨rfl,HB1⟩:=hcut
  rename World=>w1
  have d1:=(HB1.out.1.cell (p:=⟨F,1,none⟩) hFl).trans d1
  have d4:=(HB1.out.1.cell (p:=⟨F,4,none⟩) hFl).trans d4
  have d5:=(HB1.out.1.cell (p:=⟨F,5,none⟩) hFl).trans d5
  have f4:=(HB1.out.1.frozen (p:=⟨F,4,none⟩) hFl).trans f4
  have hz1:=HB1.out.2.lt
  clear e1
  have e2:IntKind.i64.wrap ((tk:Int)+(m:Int))=(tk:Int)+(m:Int):=IntWalk.i64_in _ (by omega)
  have hb1:Below w.heap.size w w1:=HB1.out.1
  have hF1:F<w1.heap.size:=Nat.lt_of_lt_of_le hFl hb1.size
  go_upto_region 4 with fail
  go_cut [6] (fun s6 wx=>∃ (G6:Nat) (E:Option Addr) (ec:Nat),s6=.pointer (some ⟨G6,0,none⟩)∧w1.heap.size≤G6∧Hid (BlkA wx G6 41 #[.int .i64 0,.int .i64 0,.int .i64 0,.slice none 0 0,.slice E m ec,.bool false]∧Own wx w1.heap.size 5 1 E m ec (xs.map rv.u8v)∧Below w1.heap.size w1 wx))
  case first=>
   go_region_held3 (fun w'=>w'.cell? ⟨F,1,none⟩=some (.slice D dl dc)∧w'.cell? ⟨F,4,none⟩=some (.int .i64 (tk:Int))) ((first | (go_keep;done) | (refine ⟨?_,?_⟩ <;> (simp [go_sem, *];done)) | fail))
    (first
     | (go_at_call 36;((refine (HCL.out _ (by exact (by repeat (first | (with_reducible first | exact Below.refl _ _ | assumption | refine bset ?_ ?_ _ | refine balloc ?_ _ | refine Below.drew ?_ | refine bdrewN ?_ _ | refine bnext ?_ (by with_reducible assumption)) | exact Nat.le_refl _ | (simp;done) | omega | (simp;omega))))).mono ?_);rintro e w2 ⟨E,ec,rfl,hE,hb2⟩;have B2:Below w1.heap.size w1 w2:=(by repeat (first | (with_reducible first | exact Below.refl _ _ | assumption | refine bset ?_ ?_ _ | refine balloc ?_ _ | refine Below.drew ?_ | refine bdrewN ?_ _ | refine bnext ?_ (by with_reducible assumption)) | exact Nat.le_refl _ | (simp;done) | omega | (simp;omega)));have x1:=(B2.cell (p:=⟨F,1,none⟩) hF1).trans d1;have x4:=(B2.cell (p:=⟨F,4,none⟩) hF1).trans d4;have hF2:F<w2.heap.size:=Nat.lt_of_lt_of_le hF1 B2.size;have hn1:F≠w1.heap.size:=Nat.ne_of_lt hF1;have hn2:F≠w2.heap.size:=Nat.ne_of_lt hF2;have hn3:w1.heap.size≠F:=Nat.ne_of_gt hF1;have hn4:w2.heap.size≠F:=Nat.ne_of_gt hF2;(first | (have hq:=after_alloc hb2;have hzq:=hq.2;have yc:=hq.1.get;have yf:=hq.1.frozen) | (have hq:=after_allocD hb2;have hzq:=hq.2;have yc:=hq.1.get;have yf:=hq.1.frozen) | (have hq:=after_allocN hb2;have hzq:=hq.2;have yc:=hq.1.get;have yf:=hq.1.frozen) | skip);have hE1:=hE.base_le (b':=w1.heap.size) (by first | (simp;done) | (simp;omega) | exact Nat.le_refl _);have HE:=Lib.hid hE1;have HB2:=Lib.hid hb2;clear hE hE1 hb2))
     | fail)
   ·(try go_wp2)
    go_meet
    exact ⟨w2.heap.size,E,ec,rfl,B2.size,take_end1 B2 HE.out⟩
   ·(try go_wp2)
    go_meet
    exact ⟨w1.heap.size,E,ec,rfl,Nat.le_refl _,take_end2 B2 HE.out hq.1⟩
  case rest=>
   obtain ⟨G6,E,ec,rfl,hG6,HG⟩:=hcut
   rename World=>w2
   have hb2:Below w1.heap.size w1 w2:=HG.out.2.2
   have k4:=(hb2.cell (p:=⟨F,4,none⟩) hF1).trans d4
   have k5:=(hb2.cell (p:=⟨F,5,none⟩) hF1).trans d5
   have kf:=(hb2.frozen (p:=⟨F,4,none⟩) hF1).trans f4
   have hb3:BlkA w2 w.heap.size _ _:=HB1.out.2.next hb2
   have yc:=HG.out.1.get
   have yf:=HG.out.1.frozen
   have zc:=hb3.get
   have zf:=hb3.frozen
   have hbe:((tk:Int)+(m:Int) == en)=bq:=by rw [← HBQ.out];exact Bool.eq_iff_iff.2 (by simp)
   have n1:G6≠F:=by omega
   have n2:F≠G6:=by omega
   have n3:G6≠w.heap.size:=by omega
   have n4:w.heap.size≠G6:=by omega
   have n5:F≠w.heap.size:=by omega
   have n6:w.heap.size≠F:=by omega
   have HEND:Hid (∀ wx,Stays ((w2.setCell ⟨F,4,none⟩ (.int .i64 ((tk:Int)+(m:Int))))) wx (fun k=>k=G6∨k=w.heap.size)→TakeRes w B F room s 0 xs bq { s with taken:=(tk:Int)+(m:Int) } D dc M mc (.returned (.agg #[.int .i64 0,.int .i64 0,.int .i64 0,.slice none 0 0,.slice E m ec,.bool bq])) wx):=Lib.hid (fun wx hs=>by
    have h2:=(H.out.next (hb1.trans (hb2.mono hb1.size))).put4 ((tk:Int)+(m:Int))
    have hE:=HG.out.2.1
    have hlt:=hE.lt
    refine ⟨E,ec,by rw [HPL.out],?_,h2.stays hs (fun k hk e=>?_),?_⟩
    ·rw [HPL.out]
     refine ((hE.setCell (p:=⟨F,4,none⟩) (fun e=>by have:=(hlt _ e).1;simp only at this;omega) _).stays hs (fun k hk e=>?_)).base_le hb1.size
     rcases e with e | e
     ·exact HG.out.1.apart hE u8NeTold (e ▸ hk)
     ·have:=(hlt _ hk).1;omega
    ·have:=(H.out.hf_lt hk).2
     rcases e with e | e <;> omega
    ·refine ((Stays.of_below (hb1.trans (hb2.mono hb1.size)) (fun k=>k=F)).comp (Stays.set _ _ _ _)).trans hs (fun k hk e=>?_)
     rcases e with e | e <;> omega)
   clear d1 d4 d5 f4 c1 hb1
   go_wp2
   go_region_law (fail)
   all_goals
    go_wp2
    refine bodyPost_ret (v:=.agg #[.int .i64 0,.int .i64 0,.int .i64 0,.slice none 0 0,.slice E m ec,.bool bq]) (by simp [results,Try.results40,go_sem, *]) rfl (HEND.out _ ?_)
    refine (((Stays.set _ _ _ _).mono fun k _ hk=>.inl hk).comp ((Stays.six _ _ _ _ _ _ _ _).mono fun k _ hk=>.inr hk)).comp (Stays.of_below (Below.drew (bself _)) _)
end Go.Proofs.Ytdldfllllgogoaa
