/- Texts in one: Pipe6, PipeR4, PipeR5, Pipe7. No condition. -/
import Derived.Test.YtdldfllllgogoaaPipM12
namespace Go.Proofs.Ytdldfllllgogoaa
open Go.RowKit
set_option linter.unusedSimpArgs false
/-- ranges marked -/
def pp.mkR (x:pp.Wire) (r:Rng):Rng:=⟨pp.mark x r.lo,pp.mark x r.hi⟩
theorem rngNeSeg:78≠134:=by decide
set_option maxRecDepth 100000 in
set_option maxHeartbeats 4000000 in
theorem pipe_reply (B W:Nat) (x:pp.Wire) (a:WAd) (t:Told) (X:Option Addr) (xc:Nat) (Y:Option Addr) (yc:Nat) (S:Nat→Prop) (w:World) (h:WAt w B W x a) (hf:0≤x.first∧x.first<65536) (hl:x.frames.length≤1000) (hX:SlRep Rng.rep w S t.sacks X xc) (hY:SlRep Rep.u8 w S t.data Y yc) (hS:∀ k,S k→k<w.heap.size∧¬ WF W x a k)
  (ha:0≤t.ack∧t.ack≤1048576) (hk:∀ r,r ∈ t.sacks→(0≤r.lo∧r.lo≤1048576)∧(0≤r.hi∧r.hi≤1048576)) (hn:t.sacks.length≤100) (hd:t.data.length≤140737488351232) :
  Calls Try.prog 61 #[.pointer (some ⟨W,0,none⟩),.agg #[.int .i64 t.code,.int .i64 t.ack,.int .i64 t.window,.slice X t.sacks.length xc,.slice Y t.data.length yc,.bool t.end_]] w (PasRes w B W x a (pp.reply x t)):=by
 obtain ⟨tc,ta,tw,ts,td,te⟩:=t
 simp only at hX hY ha hk hn hd ⊢
 have H:=Lib.hid h
 have HX:=Lib.hid hX
 have HY:=Lib.hid hY
 have HS:=Lib.hid hS
 have HK2:=Lib.hid hk
 have hW:=h.blk.lt
 obtain ⟨w1,hw1⟩:∃ w1,w1=(w.alloc (.cells #[.int .i64 tc,.int .i64 ta,.int .i64 tw,.slice X ts.length xc,.slice Y td.length yc,.bool te] 41)).alloc (.cells #[.int .i64 0,.bool false,.int .i64 0,.slice none 0 0,.bool false,.int .i64 0] 58):=⟨_,rfl⟩
 have hb1:Below w.heap.size w w1:=by rw [hw1];exact balloc (balloc (bself w) _) _
 have hz1:w1.heap.size=w.heap.size+1+1:=by rw [hw1];simp
 have HT1:Hid (BlkA w1 w.heap.size 41 #[.int .i64 tc,.int .i64 ta,.int .i64 tw,.slice X ts.length xc,.slice Y td.length yc,.bool te]):=Lib.hid (by rw [hw1];exact (BlkA.new _ _ _).alloc _)
 have HZ1:Hid (BlkA w1 (w.heap.size+1) 58 #[.int .i64 0,.bool false,.int .i64 0,.slice none 0 0,.bool false,.int .i64 0]):=Lib.hid (by
  rw [hw1]
  have h:=BlkA.new (w.alloc (.cells #[.int .i64 tc,.int .i64 ta,.int .i64 tw,.slice X ts.length xc,.slice Y td.length yc,.bool te] 41)) 58 #[.int .i64 0,.bool false,.int .i64 0,.slice none 0 0,.bool false,.int .i64 0]
  simpa using h)
 have H1:=Lib.hid (h.next hb1)
 have HB1:=Lib.hid hb1
 have HWL:=Lib.hid (fun k (hk:WF W x a k)=>(h.lt hk).2)
 have xd:=HT1.out.get
 have zd:=HZ1.out.get
 have ze:=HZ1.out.frozen
 have lx:=HT1.out.lt
 have lz:=HZ1.out.lt
 have HMK:Hid (∀ (wx:World) (p:Int),Below w1.heap.size w1 wx→0≤p∧p≤4000000→Calls Try.prog 85 #[.pointer (some ⟨W,0,none⟩),.int .i64 p] wx fun e w'=>e=.returned (.int .i64 (pp.mark x p))∧wx=w'):=Lib.hid (fun wx p hb hp=>pipe_mark B W x a p wx (H1.out.next hb) hf hp)
 clear h hX hY hS hb1 hk
 go_enter Try.func61,Try.ntmps61
 go_upto_region 1 with (fail)
 rw [← hw1]
 clear hw1
 by_cases k1:tc=0
 ·have HE:Hid (pp.reply x ⟨tc,ta,tw,ts,td,te⟩=({ pp.none_ with put:=true,id:=x.frames.length,data:=td,end_:=te },pp.putIn x (pp.replySeg x ⟨tc,ta,tw,ts,td,te⟩) true)):=Lib.hid (by unfold pp.reply;rw [if_neg (by simpa using k1)])
  subst k1
  have HSS:Hid (∀ wx,Below w1.heap.size w1 wx→wx.cell? ⟨w.heap.size,1,none⟩=some (.int .i64 ta)∧wx.cell? ⟨w.heap.size,2,none⟩=some (.int .i64 tw)):=Lib.hid (fun wx hb=>by
   have h5:=HT1.out.next hb
   exact ⟨h5.get 1,h5.get 2⟩)
  go_upto_region 3 with (fail)
  go_cut [5] (fun s5 wx=>∃ T,s5=.pointer (some ⟨T,0,none⟩)∧Hid (Below w1.heap.size w1 wx∧w1.heap.size≤T∧BlkA wx T 134 #[.int .i64 0,.int .i64 (pp.mark x ta),.int .i64 tw,.bool false,.bool false,.bool false,.bool true,.slice none 0 0,.slice none 0 0]))
  case first=>
   have HNB:Hid (BlkA (w1.alloc (.cells #[.int .i64 0,.int .i64 (pp.mark x ta),.int .i64 tw,.bool false,.bool false,.bool false,.bool true,.slice none 0 0,.slice none 0 0] 134)) (w.heap.size+1+1) 134 #[.int .i64 0,.int .i64 (pp.mark x ta),.int .i64 tw,.bool false,.bool false,.bool false,.bool true,.slice none 0 0,.slice none 0 0]):=Lib.hid (by rw [← hz1];exact BlkA.new _ _ _)
   refine wp_region_tail [8] (fun wx=>wx.cell? ⟨w.heap.size,1,none⟩=some (.int .i64 ta)∧wx.cell? ⟨w.heap.size,2,none⟩=some (.int .i64 tw)) (by kernel_rfl) (HSS.out w1 (bself _)) ?_
   intro hHeld
   refine zP 0 (v:=?_) ?_ (fun _=>hHeld) ?_
   rotate_left
   ·intro w9;go_simp;try with_reducible rfl
   try simp only [Act.put,zA,zB,zC,zD,zE,zF]
   refine zP 1 (v:=?_) ?_ (fun _=>hHeld) ?_
   rotate_left
   ·intro w9;go_simp;try with_reducible rfl
   try simp only [Act.put,zA,zB,zC,zD,zE,zF]
   refine zP 4 (v:=?_) ?_ (fun _=>hHeld) ?_
   rotate_left
   ·intro w9;go_simp;try with_reducible rfl
   try simp only [Act.put,zA,zB,zC,zD,zE,zF]
   refine zT 2 [3,6,8] (v:=?_) ?_ hHeld ?_
   rotate_left
   ·intro w9 hS9;(try dsimp only at hS9);obtain ⟨q1,q2⟩:=hS9;go_simp;try with_reducible rfl
   try simp only [Act.put,zA,zB,zC,zD,zE,zF]
   refine zT 5 [6,8] (v:=?_) ?_ hHeld ?_
   rotate_left
   ·intro w9 hS9;(try dsimp only at hS9);obtain ⟨q1,q2⟩:=hS9;go_simp;try with_reducible rfl
   try simp only [Act.put,zA,zB,zC,zD,zE,zF]
   refine wpAnyT_fork (i:=3) (j:=7) (by kernel_rfl) rfl rfl ?_ ?_
   ·intro K hK
    go_simp
    go_at_call 85
    refine (HMK.out _ _ (by exact (by repeat (first | (with_reducible first | exact Below.refl _ _ | assumption | refine bset ?_ ?_ _ | refine balloc ?_ _ | refine Below.drew ?_ | refine bdrewN ?_ _ | refine bnext ?_ (by with_reducible assumption)) | exact Nat.le_refl _ | (simp;done) | omega | (simp;omega)))) (by omega)).mono ?_
    rintro e _ ⟨rfl,rfl⟩
    go_simp
    refine hK.out _ _ (fun _=>(HSS.out _ (by exact (by repeat (first | (with_reducible first | exact Below.refl _ _ | assumption | refine bset ?_ ?_ _ | refine balloc ?_ _ | refine Below.drew ?_ | refine bdrewN ?_ _ | refine bnext ?_ (by with_reducible assumption)) | exact Nat.le_refl _ | (simp;done) | omega | (simp;omega)))))) ?_
    clear hK K
    try simp only [Act.put,zA,zB,zC,zD,zE,zF]
    refine zP 6 (v:=?_) ?_ (fun _=>(HSS.out _ (by exact (by repeat (first | (with_reducible first | exact Below.refl _ _ | assumption | refine bset ?_ ?_ _ | refine balloc ?_ _ | refine Below.drew ?_ | refine bdrewN ?_ _ | refine bnext ?_ (by with_reducible assumption)) | exact Nat.le_refl _ | (simp;done) | omega | (simp;omega)))))) ?_
    rotate_left
    ·intro w9;go_simp;try with_reducible rfl
    try simp only [Act.put,zA,zB,zC,zD,zE,zF]
    refine wpAnyT_next (i:=7) (by kernel_rfl) rfl ?_
    intro K hK
    go_simp
    refine hK.out _ _ (fun _=>(HSS.out _ (by exact (by repeat (first | (with_reducible first | exact Below.refl _ _ | assumption | refine bset ?_ ?_ _ | refine balloc ?_ _ | refine Below.drew ?_ | refine bdrewN ?_ _ | refine bnext ?_ (by with_reducible assumption)) | exact Nat.le_refl _ | (simp;done) | omega | (simp;omega)))))) ?_
    clear hK K
    try simp only [Act.put,zA,zB,zC,zD,zE,zF]
    refine wpAnyT_next (i:=8) (by kernel_rfl) rfl ?_
    intro K hK
    go_simp
    refine hK.out _ _ (zN (by kernel_rfl)) ?_
    clear hK K
    refine wpAnyT_done (by kernel_rfl) ?_ _
    go_wp2
    go_meet
    exact ⟨_,rfl,Lib.hid ⟨by exact (by repeat (first | (with_reducible first | exact Below.refl _ _ | assumption | refine bset ?_ ?_ _ | refine balloc ?_ _ | refine Below.drew ?_ | refine bdrewN ?_ _ | refine bnext ?_ (by with_reducible assumption)) | exact Nat.le_refl _ | (simp;done) | omega | (simp;omega))),by omega,HNB.out⟩⟩
   ·intro K hK
    go_simp
    refine hK.out _ _ (fun _=>(HSS.out _ (by exact (by repeat (first | (with_reducible first | exact Below.refl _ _ | assumption | refine bset ?_ ?_ _ | refine balloc ?_ _ | refine Below.drew ?_ | refine bdrewN ?_ _ | refine bnext ?_ (by with_reducible assumption)) | exact Nat.le_refl _ | (simp;done) | omega | (simp;omega)))))) ?_
    clear hK K
    try simp only [Act.put,zA,zB,zC,zD,zE,zF]
    refine wpAnyT_next (i:=3) (by kernel_rfl) rfl ?_
    intro K hK
    go_simp
    go_at_call 85
    refine (HMK.out _ _ (by exact (by repeat (first | (with_reducible first | exact Below.refl _ _ | assumption | refine bset ?_ ?_ _ | refine balloc ?_ _ | refine Below.drew ?_ | refine bdrewN ?_ _ | refine bnext ?_ (by with_reducible assumption)) | exact Nat.le_refl _ | (simp;done) | omega | (simp;omega)))) (by omega)).mono ?_
    rintro e _ ⟨rfl,rfl⟩
    go_simp
    refine hK.out _ _ (fun _=>(HSS.out _ (by exact (by repeat (first | (with_reducible first | exact Below.refl _ _ | assumption | refine bset ?_ ?_ _ | refine balloc ?_ _ | refine Below.drew ?_ | refine bdrewN ?_ _ | refine bnext ?_ (by with_reducible assumption)) | exact Nat.le_refl _ | (simp;done) | omega | (simp;omega)))))) ?_
    clear hK K
    try simp only [Act.put,zA,zB,zC,zD,zE,zF]
    refine zP 6 (v:=?_) ?_ (fun _=>(HSS.out _ (by exact (by repeat (first | (with_reducible first | exact Below.refl _ _ | assumption | refine bset ?_ ?_ _ | refine balloc ?_ _ | refine Below.drew ?_ | refine bdrewN ?_ _ | refine bnext ?_ (by with_reducible assumption)) | exact Nat.le_refl _ | (simp;done) | omega | (simp;omega)))))) ?_
    rotate_left
    ·intro w9;go_simp;try with_reducible rfl
    try simp only [Act.put,zA,zB,zC,zD,zE,zF]
    refine wpAnyT_next (i:=8) (by kernel_rfl) rfl ?_
    intro K hK
    go_simp
    refine hK.out _ _ (zN (by kernel_rfl)) ?_
    clear hK K
    refine wpAnyT_done (by kernel_rfl) ?_ _
    go_wp2
    go_meet
    exact ⟨_,rfl,Lib.hid ⟨by exact (by repeat (first | (with_reducible first | exact Below.refl _ _ | assumption | refine bset ?_ ?_ _ | refine balloc ?_ _ | refine Below.drew ?_ | refine bdrewN ?_ _ | refine bnext ?_ (by with_reducible assumption)) | exact Nat.le_refl _ | (simp;done) | omega | (simp;omega))),by omega,HNB.out⟩⟩
  case rest=>
   obtain ⟨T,rfl,HC⟩:=hcut
   rename World=>w2
   have hb2:=HC.out.1
   have hT1:=HC.out.2.1
   have h2:=HT1.out.next hb2
   have xd:=h2.get
   have lx:=h2.lt
   obtain ⟨n,hn'⟩:∃ n,ts.length=n:=⟨_,rfl⟩
   have HN:=Lib.hid hn'
   rw [hn'] at hn
   simp only [hn'] at xd
   have HC0:Hid (∀ k:Nat,ts.take (k+1)=ts.take (k+1)):=Lib.hid (fun _=>rfl)
   have hs12:=hb2.size
   have lT2:=HC.out.2.2.lt
   have HST0:Hid (Own w2 w1.heap.size 78 2 none 0 0 (((ts.take 0).map (pp.mkR x)).flatMap Rng.cells)):=Lib.hid (Own.nil _ _ _ _)
   clear hb2 h2 hn' zd ze lz
   go_wp2
   go_loopw [24] (fun i wr=>∃ (k:Nat) (E:Option Addr) (ec:Nat),k≤n∧i=.int .i64 (k:Int)∧Hid (Below w1.heap.size w1 wr∧BlkA wr T 134 #[.int .i64 0,.int .i64 (pp.mark x ta),.int .i64 tw,.bool false,.bool false,.bool false,.bool true,.slice E k ec,.slice none 0 0]∧Own wr w1.heap.size 78 2 E k ec (((ts.take k).map (pp.mkR x)).flatMap Rng.cells))) (fun i _=>n - (intOf i).toNat)
   case atStart=>exact ⟨0,none,0,by omega,rfl,Lib.hid ⟨HC.out.1,HC.out.2.2,HST0.out⟩⟩
   case round=>
    obtain ⟨k,E,ec,hk,rfl,HK⟩:=hrel
    rename World=>wr
    by_cases hkn:k<n
    ·--[v
     have hlt:k<ts.length:=by rw [HN.out];exact hkn
     have hB0:Below w.heap.size w wr:=bnext HB1.out HK.out.1
     obtain ⟨g,o,rfl,hg,e0,e1⟩:=Rng.cells_at Rng.z ((HX.out.within (S':=(· < w.heap.size)) fun q hq=>(HS.out q hq).1).next hB0) hlt
     have hlt':(k:Int)<(n:Int):=by omega
     have hrb:=HK2.out (ts.getD k Rng.z) (by rw [List.getD_eq_getElem?_getD,List.getElem?_eq_getElem hlt];exact List.getElem_mem hlt)
     have HTA:Hid (((ts.take (k+1)).map (pp.mkR x)).flatMap Rng.cells=((ts.take k).map (pp.mkR x)).flatMap Rng.cells ++ [.int .i64 (pp.mark x (ts.getD k Rng.z).lo),.int .i64 (pp.mark x (ts.getD k Rng.z).hi)]):=Lib.hid (by
      rw [sd.take_getD hlt,List.map_append,List.flatMap_append]
      rfl)
     generalize ts.getD k Rng.z=r at *
     obtain ⟨y0,y1⟩:=r
     dsimp only at e0 e1 hrb HTA
     have hgr:g<wr.heap.size:=hg
     obtain ⟨w3,hw3⟩:∃ w3,w3=wr.alloc (.cells #[.int .i64 y0,.int .i64 y1] 78):=⟨_,rfl⟩
     have hb3:Below wr.heap.size wr w3:=by rw [hw3];exact balloc (bself wr) _
     have HRB:Hid (BlkA w3 wr.heap.size 78 #[.int .i64 y0,.int .i64 y1]):=Lib.hid (by rw [hw3];exact BlkA.new _ _ _)
     have hb13:Below w1.heap.size w1 w3:=HK.out.1.trans (hb3.mono HK.out.1.size)
     have HB13:=Lib.hid hb13
     have hs13:w1.heap.size≤w3.heap.size:=hb13.size
     have HTB:=Lib.hid (HK.out.2.1.next hb3)
     have lT:=HTB.out.lt
     have HOE:=Lib.hid (HK.out.2.2.next hb3)
     have hTR:wr.heap.size≠T:=by have:=HK.out.2.1.lt;omega
     have hET:∀ q,blkOf E=some q→q≠T∧q≠wr.heap.size:=fun q hq=>⟨fun e=>HTB.out.apart HOE.out rngNeSeg (e ▸ hq),by have:=(HK.out.2.2.lt q hq).2;omega⟩
     have HO3:Hid (∀ wx,Below w3.heap.size w3 wx→Own wx w1.heap.size 78 2 E k ec (((ts.take k).map (pp.mkR x)).flatMap Rng.cells)):=Lib.hid (fun wx hb=>HOE.out.next hb)
     have HSS7:Hid (∀ wx,Stays w3 wx (fun q=>blkOf E=some q)→wx.cell? ⟨T,7,none⟩=some (.slice E k ec)∧wx.cell? ⟨wr.heap.size,0,none⟩=some (.int .i64 y0)∧wx.cell? ⟨wr.heap.size,1,none⟩=some (.int .i64 y1)):=Lib.hid (fun wx hs=>by
      have h5:=HTB.out.stays hs (fun e=>(hET _ e).1 rfl)
      have h6:=HRB.out.stays hs (fun e=>(hET _ e).2 rfl)
      exact ⟨h5.get 7,h6.get 0,h6.get 1⟩)
     have HSS:Hid (∀ wx,Below w3.heap.size w3 wx→wx.cell? ⟨T,7,none⟩=some (.slice E k ec)∧wx.cell? ⟨wr.heap.size,0,none⟩=some (.int .i64 y0)∧wx.cell? ⟨wr.heap.size,1,none⟩=some (.int .i64 y1)):=Lib.hid (fun wx hb=>HSS7.out wx (Stays.of_below hb _))
     have HFZ:Hid (∀ wx,Stays w3 wx (fun q=>blkOf E=some q)→wx.frozen? ⟨T,7,none⟩=false):=Lib.hid (fun wx hs=>(HTB.out.stays hs (fun e=>(hET _ e).1 rfl)).frozen 7)
     clear hb3 hb13 hgr
     go_upto_region 7 with (fail)
     rw [← hw3]
     clear hw3 e0 e1 hg
     refine wp_region_tail [14] (fun wx=>wx.cell? ⟨T,7,none⟩=some (.slice E k ec)∧wx.cell? ⟨wr.heap.size,0,none⟩=some (.int .i64 y0)∧wx.cell? ⟨wr.heap.size,1,none⟩=some (.int .i64 y1)) (by kernel_rfl) (HSS.out w3 (bself _)) ?_
     intro hHeld
     refine zP 0 (v:=?_) ?_ (fun _=>hHeld) ?_
     rotate_left
     ·intro w9;go_simp;try with_reducible rfl
     try simp only [Act.put,zA,zB,zC,zD,zE,zF]
     refine zP 2 (v:=?_) ?_ (fun _=>hHeld) ?_
     rotate_left
     ·intro w9;go_simp;try with_reducible rfl
     try simp only [Act.put,zA,zB,zC,zD,zE,zF]
     refine zP 3 (v:=?_) ?_ (fun _=>hHeld) ?_
     rotate_left
     ·intro w9;go_simp;try with_reducible rfl
     try simp only [Act.put,zA,zB,zC,zD,zE,zF]
     refine zP 6 (v:=?_) ?_ (fun _=>hHeld) ?_
     rotate_left
     ·intro w9;go_simp;try with_reducible rfl
     try simp only [Act.put,zA,zB,zC,zD,zE,zF]
     refine zP 7 (v:=?_) ?_ (fun _=>hHeld) ?_
     rotate_left
     ·intro w9;go_simp;try with_reducible rfl
     try simp only [Act.put,zA,zB,zC,zD,zE,zF]
     refine zT 1 [12,13,14] (v:=?_) ?_ hHeld ?_
     rotate_left
     ·intro w9 hS9;(try dsimp only at hS9);obtain ⟨q1,q2,q3⟩:=hS9;go_simp;try with_reducible rfl
     try simp only [Act.put,zA,zB,zC,zD,zE,zF]
     refine zT 4 [5,9,10,11,12,13,14] (v:=?_) ?_ hHeld ?_
     rotate_left
     ·intro w9 hS9;(try dsimp only at hS9);obtain ⟨q1,q2,q3⟩:=hS9;go_simp;try with_reducible rfl
     try simp only [Act.put,zA,zB,zC,zD,zE,zF]
     refine zT 8 [9,10,11,12,13,14] (v:=?_) ?_ hHeld ?_
     rotate_left
     ·intro w9 hS9;(try dsimp only at hS9);obtain ⟨q1,q2,q3⟩:=hS9;go_simp;try with_reducible rfl
     try simp only [Act.put,zA,zB,zC,zD,zE,zF]
     refine wpAnyT_next (i:=5) (by kernel_rfl) rfl ?_
     intro K hK
     go_simp
     go_at_call 85
     refine (HMK.out _ _ (by exact (HB13.out.trans ((Below.drew (bself w3)).mono HB13.out.size))) (by omega)).mono ?_
     rintro e _ ⟨rfl,rfl⟩
     go_simp
     have hHeld2:=hHeld
     refine hK.out _ _ (fun _=>hHeld2) ?_
     clear hK K hHeld
     have hHeld:=hHeld2
     clear hHeld2
     try simp only [Act.put,zA,zB,zC,zD,zE,zF]
     refine wpAnyT_next (i:=9) (by kernel_rfl) rfl ?_
     intro K hK
     go_simp
     go_at_call 85
     refine (HMK.out _ _ (by exact (HB13.out.trans ((Below.drew (bself w3)).mono HB13.out.size))) (by omega)).mono ?_
     rintro e _ ⟨rfl,rfl⟩
     go_simp
     have hHeld2:=hHeld
     refine hK.out _ _ (fun _=>hHeld2) ?_
     clear hK K hHeld
     have hHeld:=hHeld2
     clear hHeld2
     try simp only [Act.put,zA,zB,zC,zD,zE,zF]
     refine zP 10 (v:=?_) ?_ (fun _=>hHeld) ?_
     rotate_left
     ·intro w9;go_simp;try with_reducible rfl
     try simp only [Act.put,zA,zB,zC,zD,zE,zF]
     refine wpAnyT_next (i:=11) (by kernel_rfl) rfl ?_
     intro K hK
     go_simp
     refine hK.out _ _ (fun _=>(HSS.out _ (by exact (by repeat (first | (with_reducible first | exact Below.refl _ _ | assumption | refine bset ?_ ?_ _ | refine balloc ?_ _ | refine Below.drew ?_ | refine bdrewN ?_ _ | refine bnext ?_ (by with_reducible assumption)) | exact Nat.le_refl _ | (simp;done) | omega | (simp;omega)))))) ?_
     clear hK K
     try simp only [Act.put,zA,zB,zC,zD,zE,zF]
     refine wpAnyT_next (i:=12) (by kernel_rfl) rfl ?_
     intro K hK
     refine step_app _ (by rfl) _ _ _ (by rfl) elemRng w1.heap.size E k ec _ (by rfl) (HO3.out _ (by exact (by repeat (first | (with_reducible first | exact Below.refl _ _ | assumption | refine bset ?_ ?_ _ | refine balloc ?_ _ | refine Below.drew ?_ | refine bdrewN ?_ _ | refine bnext ?_ (by with_reducible assumption)) | exact Nat.le_refl _ | (simp;done) | omega | (simp;omega))))) (some ⟨w3.heap.size,0,none⟩) 1 1 [.int .i64 (pp.mark x y0),.int .i64 (pp.mark x y1)] (by rfl) (by rfl) (Cells.newAt _ _ _ (by rfl)) (by simp [Value.oneCell']) (by omega) (by unfold maxLen;omega) (Nat.le_trans hs13 (by first | exact Nat.le_succ _ | (simp;done) | (simp;omega))) ?_
     intro E7 c7 w7 hO7 hg7
     have HO7:=Lib.hid hO7
     have hst7:Stays w3 w7 (fun q=>blkOf E=some q):=(Stays.of_below (by exact (by repeat (first | (with_reducible first | exact Below.refl _ _ | assumption | refine bset ?_ ?_ _ | refine balloc ?_ _ | refine Below.drew ?_ | refine bdrewN ?_ _ | refine bnext ?_ (by with_reducible assumption)) | exact Nat.le_refl _ | (simp;done) | omega | (simp;omega)))) _).comp (Stays.grew hg7)
     have HST7:=Lib.hid hst7
     have hs7:=HSS7.out _ hst7
     have f7:=HFZ.out _ hst7
     have l7:T<w7.heap.size:=Nat.lt_of_lt_of_le lT hst7.size
     clear hO7 hg7 hst7
     have hHeld2:=hs7
     refine hK.out _ _ (fun _=>hHeld2) ?_
     clear hK K hHeld
     have hHeld:=hHeld2
     clear hHeld2
     try simp only [Act.put,zA,zB,zC,zD,zE,zF]
     refine zP 13 (v:=?_) ?_ (fun _=>hHeld) ?_
     rotate_left
     ·intro w9;go_simp;try with_reducible rfl
     try simp only [Act.put,zA,zB,zC,zD,zE,zF]
     refine wpAnyT_next (i:=14) (by kernel_rfl) rfl ?_
     intro K hK
     go_simp
     refine hK.out _ _ (zN (by kernel_rfl)) ?_
     clear hK K
     refine wpAnyT_done (by kernel_rfl) ?_ _
     have HNX:Hid (Below w1.heap.size w1 (w7.setCell ⟨T,7,none⟩ (.slice E7 (k+1) c7))∧BlkA (w7.setCell ⟨T,7,none⟩ (.slice E7 (k+1) c7)) T 134 #[.int .i64 0,.int .i64 (pp.mark x ta),.int .i64 tw,.bool false,.bool false,.bool false,.bool true,.slice E7 (k+1) c7,.slice none 0 0]∧Own (w7.setCell ⟨T,7,none⟩ (.slice E7 (k+1) c7)) w1.heap.size 78 2 E7 (k+1) c7 (((ts.take (k+1)).map (pp.mkR x)).flatMap Rng.cells)):=Lib.hid (by
      have hb7:=HTB.out.stays HST7.out (fun e=>(hET _ e).1 rfl)
      refine ⟨?_,by simpa using hb7.set 7 (.slice E7 (k+1) c7),?_⟩
      ·have h8:Below w1.heap.size w3 w7:=HST7.out.below hs13 (fun q hq=>(HOE.out.lt q hq).1)
       exact (HB13.out.trans h8).setCell (by exact hT1) _
      ·rw [HTA.out]
       exact HO7.out.setCell (hb7.apart HO7.out rngNeSeg) _)
     go_wp2
     go_roundw
     case rel=>exact ⟨k+1,E7,c7,by omega,by go_num,HNX⟩
     case measure=>simp [intOf];omega
    ·obtain rfl:k=n:=by omega
     have hnlt:decide (k<k)=false:=by simp
     have htk:ts.take k=ts:=by rw [← HN.out];exact List.take_length
     have HOE:=Lib.hid HK.out.2.2
     rw [htk] at HOE
     have hml:(ts.map (pp.mkR x)).length=k:=by rw [List.length_map];exact HN.out
     have hb0:Below w.heap.size w wr:=bnext HB1.out HK.out.1
     have HB0:=Lib.hid hb0
     have HR:=Lib.hid (H.out.next hb0)
     have HPU:Hid (∀ wx,Below wr.heap.size wr wx→Calls Try.prog 84 #[.pointer (some ⟨W,0,none⟩),.agg #[.int .i64 0,.int .i64 (pp.mark x ta),.int .i64 tw,.bool false,.bool false,.bool false,.bool true,.slice E k ec,.slice none 0 0],.bool true] wx (WRes wx B W x a (.int .i64 (x.frames.length:Int)) (pp.putIn x (pp.replySeg x ⟨0,ta,tw,ts,td,te⟩) true))):=Lib.hid (fun wx hb=>by
      have hsl:SlRep Rng.rep wx (· < wx.heap.size) (ts.map (pp.mkR x)) E ec:=((Own.rng (HOE.out.next hb)).2).within fun q hq=>hq.2
      have h5:=pipe_put B W x a (pp.replySeg x ⟨0,ta,tw,ts,td,te⟩) true E ec none 0 wx (HR.out.next hb) hsl (SlRep.nilW _ _ _) (by show (ts.map (pp.mkR x)).length≤_;rw [hml];omega) (Nat.zero_le _) hl
      have e5:(pp.replySeg x ⟨0,ta,tw,ts,td,te⟩).sacks.length=k:=hml
      rw [e5] at h5
      exact h5)
     have HCL:Hid (∀ wx,Stays wr wx (WF W x a)→Calls Try.prog 36 #[.slice Y td.length yc] wx (fun e w'=>∃ A' c',e=.returned (.slice A' td.length c')∧Own w' wx.heap.size 5 1 A' td.length c' (td.map rv.u8v)∧Below wx.heap.size wx w')):=Lib.hid (fun wx hs=>clone_u8 td.length Y yc (td.map rv.u8v) wx (by simp) (fun w' hb=>(HY.out.keep (S':=fun _=>True) (fun q hq=>⟨trivial,by
      have h6:=HS.out q hq
      have h7:q<wr.heap.size:=Nat.lt_of_lt_of_le h6.1 HB0.out.size
      rw [hb.block q (Nat.lt_of_lt_of_le h7 hs.size),hs.block q h7 h6.2,HB0.out.block q h6.1]⟩)).cells_u8) (oneCell_u8 _) hd)
     have HTR:=Lib.hid (HT1.out.next HK.out.1)
     have HZ:=Lib.hid (HZ1.out.next HK.out.1)
     have HSG:=Lib.hid HK.out.2.1
     have hsr:=HK.out.1.size
     have HNW:Hid (∀ q,WF W x a q→q<w.heap.size):=HWL
     have HNZ:Hid (¬ WF W x a (w.heap.size+1)):=Lib.hid (fun e=>by have:=HNW.out _ e;omega)
     have HSS:Hid (∀ wx,Stays wr wx (WF W x a)→(∀ j:Nat,wx.cell? ⟨T,j,none⟩ = #[Value.int .i64 0,.int .i64 (pp.mark x ta),.int .i64 tw,.bool false,.bool false,.bool false,.bool true,.slice E k ec,.slice none 0 0][j]?)∧(∀ j:Nat,wx.cell? ⟨w.heap.size,j,none⟩ = #[Value.int .i64 0,.int .i64 ta,.int .i64 tw,.slice X k xc,.slice Y td.length yc,.bool te][j]?)):=Lib.hid (fun wx hs=>by
      have h5:=HSG.out.stays hs (fun e=>by have:=HNW.out _ e;omega)
      have h6:=HTR.out.stays hs (fun e=>by have:=HNW.out _ e;omega)
      rw [HN.out] at h6
      exact ⟨h5.get,h6.get⟩)
     have lTr:=HSG.out.lt
     have lxr:=HTR.out.lt
     clear hb0 htk hml
     go_upto_region 9 with (fail)
     refine wp_region_tail [9] (fun wx=>(∀ j:Nat,wx.cell? ⟨T,j,none⟩ = #[Value.int .i64 0,.int .i64 (pp.mark x ta),.int .i64 tw,.bool false,.bool false,.bool false,.bool true,.slice E k ec,.slice none 0 0][j]?)∧(∀ j:Nat,wx.cell? ⟨w.heap.size,j,none⟩ = #[Value.int .i64 0,.int .i64 ta,.int .i64 tw,.slice X k xc,.slice Y td.length yc,.bool te][j]?)) (by kernel_rfl) (HSS.out wr (Stays.refl _ _)) ?_
     intro hHeld
     refine zP 0 (v:=?_) ?_ (fun _=>hHeld) ?_
     rotate_left
     ·intro w9;go_simp;try with_reducible rfl
     try simp only [Act.put,zA,zB,zC,zD,zE,zF]
     refine zP 3 (v:=?_) ?_ (fun _=>hHeld) ?_
     rotate_left
     ·intro w9;go_simp;try with_reducible rfl
     try simp only [Act.put,zA,zB,zC,zD,zE,zF]
     refine zP 6 (v:=?_) ?_ (fun _=>hHeld) ?_
     rotate_left
     ·intro w9;go_simp;try with_reducible rfl
     try simp only [Act.put,zA,zB,zC,zD,zE,zF]
     refine zT 1 [2,5,8,9] (v:=?_) ?_ hHeld ?_
     rotate_left
     ·intro w9 hS9;(try dsimp only at hS9);obtain ⟨q1,q2⟩:=hS9;go_simp;try with_reducible rfl
     try simp only [Act.put,zA,zB,zC,zD,zE,zF]
     refine zT 4 [5,8,9] (v:=?_) ?_ hHeld ?_
     rotate_left
     ·intro w9 hS9;(try dsimp only at hS9);obtain ⟨q1,q2⟩:=hS9;go_simp;try with_reducible rfl
     try simp only [Act.put,zA,zB,zC,zD,zE,zF]
     refine zT 7 [8,9] (v:=?_) ?_ hHeld ?_
     rotate_left
     ·intro w9 hS9;(try dsimp only at hS9);obtain ⟨q1,q2⟩:=hS9;go_simp;try with_reducible rfl
     try simp only [Act.put,zA,zB,zC,zD,zE,zF]
     refine wpAnyT_next (i:=2) (by kernel_rfl) rfl ?_
     intro K hK
     go_simp
     go_at_call 84
     refine (HPU.out _ (by exact Below.drew (bself wr))).mono ?_
     rintro e w4 ⟨rfl,a2,q1,q2,q3⟩
     have Q1:=Lib.hid q1
     have Q2:Hid (Stays wr w4 (WF W x a)):=Lib.hid ((Stays.of_below (Below.drew (bself wr)) _).comp q2)
     have Q3:=Lib.hid q3
     have hs4:=HSS.out w4 Q2.out
     clear q1 q2 q3
     go_simp
     have hHeld2:=hs4
     refine hK.out _ _ (fun _=>hHeld2) ?_
     clear hK K hHeld
     have hHeld:=hHeld2
     clear hHeld2
     try simp only [Act.put,zA,zB,zC,zD,zE,zF]
     refine wpAnyT_next (i:=5) (by kernel_rfl) rfl ?_
     intro K hK
     go_simp
     go_at_call 36
     refine (HCL.out w4 Q2.out).mono ?_
     rintro e w5 ⟨E5,c5,rfl,ho5,hb5⟩
     have HO5:=Lib.hid ho5
     have HB5:=Lib.hid hb5
     have hs5:=HSS.out w5 (Q2.out.comp (Stays.of_below hb5 _))
     have z5:=HZ.out.stays (Q2.out.comp (Stays.of_below hb5 _)) HNZ.out
     have zd:=z5.get
     have ze:=z5.frozen
     have lz5:=z5.lt
     clear ho5 hb5 z5
     go_simp
     have hHeld2:=hs5
     refine hK.out _ _ (fun _=>hHeld2) ?_
     clear hK K hHeld
     have hHeld:=hHeld2
     clear hHeld2
     try simp only [Act.put,zA,zB,zC,zD,zE,zF]
     refine zP 8 (v:=?_) ?_ (fun _=>hHeld) ?_
     rotate_left
     ·intro w9;go_simp;try with_reducible rfl
     try simp only [Act.put,zA,zB,zC,zD,zE,zF]
     refine wpAnyT_next (i:=9) (by kernel_rfl) rfl ?_
     intro K hK
     go_simp
     refine hK.out _ _ (zN (by kernel_rfl)) ?_
     clear hK K
     refine wpAnyT_done (by kernel_rfl) ?_ _
     have HFIN:Hid (∀ w',Stays w5 w' (fun q=>q=w.heap.size+1)→PasRes w B W x a (pp.reply x ⟨0,ta,tw,ts,td,te⟩) (.returned (.agg #[.int .i64 0,.bool true,.int .i64 (x.frames.length:Int),.slice E5 td.length c5,.bool te,.int .i64 0])) w'):=Lib.hid (fun w' hs=>by
      rw [HE.out]
      have hs4:w.heap.size+1<w4.heap.size:=Nat.lt_of_lt_of_le (Nat.lt_of_lt_of_le (by omega:w.heap.size+1<w1.heap.size) hsr) Q2.out.size
      have hn4:∀ q,WF W (pp.putIn x (pp.replySeg x ⟨0,ta,tw,ts,td,te⟩) true) a2 q→WF W x a q∨wr.heap.size≤q:=Q3.out
      have hlt5:=HO5.out.lt
      refine ⟨[.int .i64 0,.bool true,.int .i64 (x.frames.length:Int),.slice E5 td.length c5,.bool te,.int .i64 0],a2,rfl,Passed.rep_iff.2 ⟨E5,c5,rfl,?_⟩,(Q1.out.next HB5.out).stays hs (fun q hq e=>?_),((((Stays.of_below HB0.out _).comp Q2.out)).comp (Stays.of_below HB5.out _)).trans hs (fun q hq e=>by omega),fun q hq=>(hn4 q hq).imp id (fun e=>by omega)⟩
      ·have hd5:=HO5.out.stays hs (fun q hq e=>by have:=(hlt5 q hq).1;omega)
       exact ((Own.u8 hd5).2.tight flat_u8).keep fun q hq=>⟨⟨by have:=(hlt5 q hq).1;omega,(hd5.lt q hq).2,fun e=>by have:=(Q1.out.lt e).2;have:=(hlt5 q hq).1;omega⟩,rfl⟩
      ·rcases hn4 q hq with e2 | e2
       ·have:=HNW.out q e2;omega
       ·omega)
     clear HPU HCL HSS hs4 hs5
     go_wp2
     refine bodyPost_ret (v:=.agg #[.int .i64 0,.bool true,.int .i64 (x.frames.length:Int),.slice E5 td.length c5,.bool te,.int .i64 0]) (by simp [results,Try.results61,go_sem, *]) rfl (HFIN.out _ ?_)
     exact Stays.sixP _ _ _ _ _ _ _ _
 ·have HE:Hid (pp.reply x ⟨tc,ta,tw,ts,td,te⟩=(pp.no tc,x)):=Lib.hid (by unfold pp.reply;rw [if_pos k1])
  have q1:(tc != 0)=true:=by simpa using k1
  have q2:(tc == 0)=false:=by simpa using k1
  have HNO:=Lib.hid (fun wx=>pipe_no tc wx)
  have HFIN:Hid (∀ wx w',Below w1.heap.size w1 wx→Stays wx w' (fun k=>k=w.heap.size+1)→PasRes w B W x a (pp.reply x ⟨tc,ta,tw,ts,td,te⟩) (.returned (.agg #[.int .i64 tc,.bool false,.int .i64 0,.slice none 0 0,.bool false,.int .i64 0])) w'):=Lib.hid (fun wx w' hb hs=>by
   rw [HE.out]
   exact PasRes.plain (r:=(pp.no tc,x)) (a1:=a) rfl (H1.out.next hb) ((Stays.of_below HB1.out _).comp (Stays.of_below hb _)) (fun k hk=>.inl hk) (hs.mono fun k hk e=>⟨by omega,fun e2=>by have:=HWL.out k e2;omega⟩))
  clear k1
  go_wp2_with (first
   | (go_at_call 57;((with_reducible refine (HNO.out _).mono ?_);rintro e w4 ⟨rfl,hb4⟩;have z4:=HZ1.out.next hb4;have zd:=z4.get;have ze:=z4.frozen;have lz4:=z4.lt;have HB4:=Lib.hid hb4;clear hb4 z4))
   | fail)
  refine bodyPost_ret (v:=.agg #[.int .i64 tc,.bool false,.int .i64 0,.slice none 0 0,.bool false,.int .i64 0]) (by simp [results,Try.results61,go_sem, *]) rfl (HFIN.out _ _ HB4.out ?_)
  exact Stays.sixP _ _ _ _ _ _ _ _
end Go.Proofs.Ytdldfllllgogoaa
namespace Go.Proofs.Ytdldfllllgogoaa
open Go.RowKit
set_option linter.unusedSimpArgs false
/-- what a method of the reference answers that turns the wire: a struct, its data from the block b0 on -/
def RPas (b0:Nat) (w:World) (B W:Nat) (a:RAd) (m:Nat) (r:Passed × pp.Wire) (e:Ending) (w':World):Prop:=
 ∃ cs a1,e=.returned (.agg cs.toArray)∧Passed.rep.rep w' (fun k=>b0≤k∧k<w'.heap.size∧¬ RF W a1 k) r.1 cs∧RAt w' B W r.2 a1 m∧Stays w w' (RF W a)∧∀ k,RF W a1 k→RF W a k∨w.heap.size≤k
theorem RPas.plain {b0:Nat} {w w1 w':World} {B W m:Nat} {a a1:RAd} {r:Passed × pp.Wire} (hd:r.1.data=[]) (h1:RAt w1 B W r.2 a1 m) (hs:Stays w w1 (RF W a)) (hn:∀ k,RF W a1 k→RF W a k∨w.heap.size≤k) (h2:Stays w1 w' (fun k=>w.heap.size≤k∧¬ RF W a1 k)) :
  RPas b0 w B W a m r (.returned (.agg #[.int .i64 r.1.code,.bool r.1.put,.int .i64 r.1.id,.slice none 0 0,.bool r.1.end_,.int .i64 r.1.left])) w':=by
 refine ⟨[.int .i64 r.1.code,.bool r.1.put,.int .i64 r.1.id,.slice none 0 0,.bool r.1.end_,.int .i64 r.1.left],a1,rfl,Passed.rep_iff.2 ⟨none,0,by rw [hd];rfl,by rw [hd];exact ⟨Nat.le_refl _,Nat.zero_le _,.inl rfl⟩⟩,h1.stays h2 (fun k hk e=>e.2 hk),hs.trans h2 (fun k hk e=>?_),hn⟩
 omega
set_option maxRecDepth 100000 in
set_option maxHeartbeats 4000000 in
theorem rpipe_answer (b0 B W:Nat) (x:pp.Wire) (a:RAd) (m:Nat) (t:Told) (X:Option Addr) (xc:Nat) (Y:Option Addr) (yc:Nat) (S:Nat→Prop) (w:World) (h:RAt w B W x a m) (hf:0≤x.first∧x.first<65536) (hl:x.frames.length≤1000) (hX:SlRep Rng.rep w S t.sacks X xc) (hY:SlRep Rep.u8 w S t.data Y yc) (hS:∀ k,S k→b0≤k∧k<w.heap.size∧¬ RF W a k) (hb0:b0≤w.heap.size)
  (ha:0≤t.ack∧t.ack≤1048576) (hk:∀ r,r ∈ t.sacks→(0≤r.lo∧r.lo≤1048576)∧(0≤r.hi∧r.hi≤1048576)) (hn:t.sacks.length≤100) (hd:t.data.length≤140737488351232) :
  Calls Try.prog 67 #[.pointer (some ⟨W,0,none⟩),.agg #[.int .i64 t.code,.int .i64 t.ack,.int .i64 t.window,.slice X t.sacks.length xc,.slice Y t.data.length yc,.bool t.end_]] w (RPas b0 w B W a m (pp.reply x t)):=by
 obtain ⟨tc,ta,tw,ts,td,te⟩:=t
 simp only at hX hY ha hk hn hd ⊢
 have H:=Lib.hid h
 have HX:=Lib.hid hX
 have HY:=Lib.hid hY
 have HS:=Lib.hid hS
 have HK2:=Lib.hid hk
 have hW:=h.blk.lt
 obtain ⟨w1,hw1⟩:∃ w1,w1=(w.alloc (.cells #[.int .i64 tc,.int .i64 ta,.int .i64 tw,.slice X ts.length xc,.slice Y td.length yc,.bool te] 41)).alloc (.cells #[.int .i64 0,.bool false,.int .i64 0,.slice none 0 0,.bool false,.int .i64 0] 58):=⟨_,rfl⟩
 have hb1:Below w.heap.size w w1:=by rw [hw1];exact balloc (balloc (bself w) _) _
 have hz1:w1.heap.size=w.heap.size+1+1:=by rw [hw1];simp
 have HT1:Hid (BlkA w1 w.heap.size 41 #[.int .i64 tc,.int .i64 ta,.int .i64 tw,.slice X ts.length xc,.slice Y td.length yc,.bool te]):=Lib.hid (by rw [hw1];exact (BlkA.new _ _ _).alloc _)
 have HZ1:Hid (BlkA w1 (w.heap.size+1) 58 #[.int .i64 0,.bool false,.int .i64 0,.slice none 0 0,.bool false,.int .i64 0]):=Lib.hid (by
  rw [hw1]
  have h:=BlkA.new (w.alloc (.cells #[.int .i64 tc,.int .i64 ta,.int .i64 tw,.slice X ts.length xc,.slice Y td.length yc,.bool te] 41)) 58 #[.int .i64 0,.bool false,.int .i64 0,.slice none 0 0,.bool false,.int .i64 0]
  simpa using h)
 have H1:=Lib.hid (h.next hb1)
 have HB1:=Lib.hid hb1
 have HWL:=Lib.hid (fun k (hk:RF W a k)=>(h.lt hk).2)
 have xd:=HT1.out.get
 have zd:=HZ1.out.get
 have ze:=HZ1.out.frozen
 have lx:=HT1.out.lt
 have lz:=HZ1.out.lt
 have HMK:Hid (∀ (wx:World) (p:Int),Below w1.heap.size w1 wx→0≤p∧p≤4000000→Calls Try.prog 64 #[.pointer (some ⟨W,0,none⟩),.int .i64 p] wx fun e w'=>e=.returned (.int .i64 (pp.mark x p))∧wx=w'):=Lib.hid (fun wx p hb hp=>rpipe_tell B W x a m p wx (H1.out.next hb) hf hp)
 clear h hX hY hS hb1 hk
 go_enter Try.func67,Try.ntmps67
 go_upto_region 1 with (fail)
 rw [← hw1]
 clear hw1
 by_cases k1:tc=0
 ·have HE:Hid (pp.reply x ⟨tc,ta,tw,ts,td,te⟩=({ pp.none_ with put:=true,id:=x.frames.length,data:=td,end_:=te },pp.putIn x (pp.replySeg x ⟨tc,ta,tw,ts,td,te⟩) true)):=Lib.hid (by unfold pp.reply;rw [if_neg (by simpa using k1)])
  subst k1
  have HSS:Hid (∀ wx,Below w1.heap.size w1 wx→wx.cell? ⟨w.heap.size,1,none⟩=some (.int .i64 ta)∧wx.cell? ⟨w.heap.size,2,none⟩=some (.int .i64 tw)):=Lib.hid (fun wx hb=>by
   have h5:=HT1.out.next hb
   exact ⟨h5.get 1,h5.get 2⟩)
  go_upto_region 3 with (fail)
  go_cut [5] (fun s5 wx=>∃ T,s5=.pointer (some ⟨T,0,none⟩)∧Hid (Below w1.heap.size w1 wx∧w1.heap.size≤T∧BlkA wx T 134 #[.int .i64 0,.int .i64 (pp.mark x ta),.int .i64 tw,.bool false,.bool false,.bool false,.bool true,.slice none 0 0,.slice none 0 0]))
  case first=>
   have HNB:Hid (BlkA (w1.alloc (.cells #[.int .i64 0,.int .i64 (pp.mark x ta),.int .i64 tw,.bool false,.bool false,.bool false,.bool true,.slice none 0 0,.slice none 0 0] 134)) (w.heap.size+1+1) 134 #[.int .i64 0,.int .i64 (pp.mark x ta),.int .i64 tw,.bool false,.bool false,.bool false,.bool true,.slice none 0 0,.slice none 0 0]):=Lib.hid (by rw [← hz1];exact BlkA.new _ _ _)
   refine wp_region_tail [8] (fun wx=>wx.cell? ⟨w.heap.size,1,none⟩=some (.int .i64 ta)∧wx.cell? ⟨w.heap.size,2,none⟩=some (.int .i64 tw)) (by kernel_rfl) (HSS.out w1 (bself _)) ?_
   intro hHeld
   refine zP 0 (v:=?_) ?_ (fun _=>hHeld) ?_
   rotate_left
   ·intro w9;go_simp;try with_reducible rfl
   try simp only [Act.put,zA,zB,zC,zD,zE,zF]
   refine zP 1 (v:=?_) ?_ (fun _=>hHeld) ?_
   rotate_left
   ·intro w9;go_simp;try with_reducible rfl
   try simp only [Act.put,zA,zB,zC,zD,zE,zF]
   refine zP 4 (v:=?_) ?_ (fun _=>hHeld) ?_
   rotate_left
   ·intro w9;go_simp;try with_reducible rfl
   try simp only [Act.put,zA,zB,zC,zD,zE,zF]
   refine zT 2 [3,6,8] (v:=?_) ?_ hHeld ?_
   rotate_left
   ·intro w9 hS9;(try dsimp only at hS9);obtain ⟨q1,q2⟩:=hS9;go_simp;try with_reducible rfl
   try simp only [Act.put,zA,zB,zC,zD,zE,zF]
   refine zT 5 [6,8] (v:=?_) ?_ hHeld ?_
   rotate_left
   ·intro w9 hS9;(try dsimp only at hS9);obtain ⟨q1,q2⟩:=hS9;go_simp;try with_reducible rfl
   try simp only [Act.put,zA,zB,zC,zD,zE,zF]
   refine wpAnyT_fork (i:=3) (j:=7) (by kernel_rfl) rfl rfl ?_ ?_
   ·intro K hK
    go_simp
    go_at_call 64
    refine (HMK.out _ _ (by exact (by repeat (first | (with_reducible first | exact Below.refl _ _ | assumption | refine bset ?_ ?_ _ | refine balloc ?_ _ | refine Below.drew ?_ | refine bdrewN ?_ _ | refine bnext ?_ (by with_reducible assumption)) | exact Nat.le_refl _ | (simp;done) | omega | (simp;omega)))) (by omega)).mono ?_
    rintro e _ ⟨rfl,rfl⟩
    go_simp
    refine hK.out _ _ (fun _=>(HSS.out _ (by exact (by repeat (first | (with_reducible first | exact Below.refl _ _ | assumption | refine bset ?_ ?_ _ | refine balloc ?_ _ | refine Below.drew ?_ | refine bdrewN ?_ _ | refine bnext ?_ (by with_reducible assumption)) | exact Nat.le_refl _ | (simp;done) | omega | (simp;omega)))))) ?_
    clear hK K
    try simp only [Act.put,zA,zB,zC,zD,zE,zF]
    refine zP 6 (v:=?_) ?_ (fun _=>(HSS.out _ (by exact (by repeat (first | (with_reducible first | exact Below.refl _ _ | assumption | refine bset ?_ ?_ _ | refine balloc ?_ _ | refine Below.drew ?_ | refine bdrewN ?_ _ | refine bnext ?_ (by with_reducible assumption)) | exact Nat.le_refl _ | (simp;done) | omega | (simp;omega)))))) ?_
    rotate_left
    ·intro w9;go_simp;try with_reducible rfl
    try simp only [Act.put,zA,zB,zC,zD,zE,zF]
    refine wpAnyT_next (i:=7) (by kernel_rfl) rfl ?_
    intro K hK
    go_simp
    refine hK.out _ _ (fun _=>(HSS.out _ (by exact (by repeat (first | (with_reducible first | exact Below.refl _ _ | assumption | refine bset ?_ ?_ _ | refine balloc ?_ _ | refine Below.drew ?_ | refine bdrewN ?_ _ | refine bnext ?_ (by with_reducible assumption)) | exact Nat.le_refl _ | (simp;done) | omega | (simp;omega)))))) ?_
    clear hK K
    try simp only [Act.put,zA,zB,zC,zD,zE,zF]
    refine wpAnyT_next (i:=8) (by kernel_rfl) rfl ?_
    intro K hK
    go_simp
    refine hK.out _ _ (zN (by kernel_rfl)) ?_
    clear hK K
    refine wpAnyT_done (by kernel_rfl) ?_ _
    go_wp2
    go_meet
    exact ⟨_,rfl,Lib.hid ⟨by exact (by repeat (first | (with_reducible first | exact Below.refl _ _ | assumption | refine bset ?_ ?_ _ | refine balloc ?_ _ | refine Below.drew ?_ | refine bdrewN ?_ _ | refine bnext ?_ (by with_reducible assumption)) | exact Nat.le_refl _ | (simp;done) | omega | (simp;omega))),by omega,HNB.out⟩⟩
   ·intro K hK
    go_simp
    refine hK.out _ _ (fun _=>(HSS.out _ (by exact (by repeat (first | (with_reducible first | exact Below.refl _ _ | assumption | refine bset ?_ ?_ _ | refine balloc ?_ _ | refine Below.drew ?_ | refine bdrewN ?_ _ | refine bnext ?_ (by with_reducible assumption)) | exact Nat.le_refl _ | (simp;done) | omega | (simp;omega)))))) ?_
    clear hK K
    try simp only [Act.put,zA,zB,zC,zD,zE,zF]
    refine wpAnyT_next (i:=3) (by kernel_rfl) rfl ?_
    intro K hK
    go_simp
    go_at_call 64
    refine (HMK.out _ _ (by exact (by repeat (first | (with_reducible first | exact Below.refl _ _ | assumption | refine bset ?_ ?_ _ | refine balloc ?_ _ | refine Below.drew ?_ | refine bdrewN ?_ _ | refine bnext ?_ (by with_reducible assumption)) | exact Nat.le_refl _ | (simp;done) | omega | (simp;omega)))) (by omega)).mono ?_
    rintro e _ ⟨rfl,rfl⟩
    go_simp
    refine hK.out _ _ (fun _=>(HSS.out _ (by exact (by repeat (first | (with_reducible first | exact Below.refl _ _ | assumption | refine bset ?_ ?_ _ | refine balloc ?_ _ | refine Below.drew ?_ | refine bdrewN ?_ _ | refine bnext ?_ (by with_reducible assumption)) | exact Nat.le_refl _ | (simp;done) | omega | (simp;omega)))))) ?_
    clear hK K
    try simp only [Act.put,zA,zB,zC,zD,zE,zF]
    refine zP 6 (v:=?_) ?_ (fun _=>(HSS.out _ (by exact (by repeat (first | (with_reducible first | exact Below.refl _ _ | assumption | refine bset ?_ ?_ _ | refine balloc ?_ _ | refine Below.drew ?_ | refine bdrewN ?_ _ | refine bnext ?_ (by with_reducible assumption)) | exact Nat.le_refl _ | (simp;done) | omega | (simp;omega)))))) ?_
    rotate_left
    ·intro w9;go_simp;try with_reducible rfl
    try simp only [Act.put,zA,zB,zC,zD,zE,zF]
    refine wpAnyT_next (i:=8) (by kernel_rfl) rfl ?_
    intro K hK
    go_simp
    refine hK.out _ _ (zN (by kernel_rfl)) ?_
    clear hK K
    refine wpAnyT_done (by kernel_rfl) ?_ _
    go_wp2
    go_meet
    exact ⟨_,rfl,Lib.hid ⟨by exact (by repeat (first | (with_reducible first | exact Below.refl _ _ | assumption | refine bset ?_ ?_ _ | refine balloc ?_ _ | refine Below.drew ?_ | refine bdrewN ?_ _ | refine bnext ?_ (by with_reducible assumption)) | exact Nat.le_refl _ | (simp;done) | omega | (simp;omega))),by omega,HNB.out⟩⟩
  case rest=>
   obtain ⟨T,rfl,HC⟩:=hcut
   rename World=>w2
   have hb2:=HC.out.1
   have hT1:=HC.out.2.1
   have h2:=HT1.out.next hb2
   have xd:=h2.get
   have lx:=h2.lt
   obtain ⟨n,hn'⟩:∃ n,ts.length=n:=⟨_,rfl⟩
   have HN:=Lib.hid hn'
   rw [hn'] at hn
   simp only [hn'] at xd
   have HC0:Hid (∀ k:Nat,ts.take (k+1)=ts.take (k+1)):=Lib.hid (fun _=>rfl)
   have hs12:=hb2.size
   have lT2:=HC.out.2.2.lt
   have HST0:Hid (Own w2 w1.heap.size 78 2 none 0 0 (((ts.take 0).map (pp.mkR x)).flatMap Rng.cells)):=Lib.hid (Own.nil _ _ _ _)
   clear hb2 h2 hn' zd ze lz
   go_wp2
   go_loopw [24] (fun i wr=>∃ (k:Nat) (E:Option Addr) (ec:Nat),k≤n∧i=.int .i64 (k:Int)∧Hid (Below w1.heap.size w1 wr∧BlkA wr T 134 #[.int .i64 0,.int .i64 (pp.mark x ta),.int .i64 tw,.bool false,.bool false,.bool false,.bool true,.slice E k ec,.slice none 0 0]∧Own wr w1.heap.size 78 2 E k ec (((ts.take k).map (pp.mkR x)).flatMap Rng.cells))) (fun i _=>n - (intOf i).toNat)
   case atStart=>exact ⟨0,none,0,by omega,rfl,Lib.hid ⟨HC.out.1,HC.out.2.2,HST0.out⟩⟩
   case round=>
    obtain ⟨k,E,ec,hk,rfl,HK⟩:=hrel
    rename World=>wr
    by_cases hkn:k<n
    ·--[v
     have hlt:k<ts.length:=by rw [HN.out];exact hkn
     have hB0:Below w.heap.size w wr:=bnext HB1.out HK.out.1
     obtain ⟨g,o,rfl,hg,e0,e1⟩:=Rng.cells_at Rng.z ((HX.out.within (S':=(· < w.heap.size)) fun q hq=>(HS.out q hq).2.1).next hB0) hlt
     have hlt':(k:Int)<(n:Int):=by omega
     have hrb:=HK2.out (ts.getD k Rng.z) (by rw [List.getD_eq_getElem?_getD,List.getElem?_eq_getElem hlt];exact List.getElem_mem hlt)
     have HTA:Hid (((ts.take (k+1)).map (pp.mkR x)).flatMap Rng.cells=((ts.take k).map (pp.mkR x)).flatMap Rng.cells ++ [.int .i64 (pp.mark x (ts.getD k Rng.z).lo),.int .i64 (pp.mark x (ts.getD k Rng.z).hi)]):=Lib.hid (by
      rw [sd.take_getD hlt,List.map_append,List.flatMap_append]
      rfl)
     generalize ts.getD k Rng.z=r at *
     obtain ⟨y0,y1⟩:=r
     dsimp only at e0 e1 hrb HTA
     have hgr:g<wr.heap.size:=hg
     obtain ⟨w3,hw3⟩:∃ w3,w3=wr.alloc (.cells #[.int .i64 y0,.int .i64 y1] 78):=⟨_,rfl⟩
     have hb3:Below wr.heap.size wr w3:=by rw [hw3];exact balloc (bself wr) _
     have HRB:Hid (BlkA w3 wr.heap.size 78 #[.int .i64 y0,.int .i64 y1]):=Lib.hid (by rw [hw3];exact BlkA.new _ _ _)
     have hb13:Below w1.heap.size w1 w3:=HK.out.1.trans (hb3.mono HK.out.1.size)
     have HB13:=Lib.hid hb13
     have hs13:w1.heap.size≤w3.heap.size:=hb13.size
     have HTB:=Lib.hid (HK.out.2.1.next hb3)
     have lT:=HTB.out.lt
     have HOE:=Lib.hid (HK.out.2.2.next hb3)
     have hTR:wr.heap.size≠T:=by have:=HK.out.2.1.lt;omega
     have hET:∀ q,blkOf E=some q→q≠T∧q≠wr.heap.size:=fun q hq=>⟨fun e=>HTB.out.apart HOE.out rngNeSeg (e ▸ hq),by have:=(HK.out.2.2.lt q hq).2;omega⟩
     have HO3:Hid (∀ wx,Below w3.heap.size w3 wx→Own wx w1.heap.size 78 2 E k ec (((ts.take k).map (pp.mkR x)).flatMap Rng.cells)):=Lib.hid (fun wx hb=>HOE.out.next hb)
     have HSS7:Hid (∀ wx,Stays w3 wx (fun q=>blkOf E=some q)→wx.cell? ⟨T,7,none⟩=some (.slice E k ec)∧wx.cell? ⟨wr.heap.size,0,none⟩=some (.int .i64 y0)∧wx.cell? ⟨wr.heap.size,1,none⟩=some (.int .i64 y1)):=Lib.hid (fun wx hs=>by
      have h5:=HTB.out.stays hs (fun e=>(hET _ e).1 rfl)
      have h6:=HRB.out.stays hs (fun e=>(hET _ e).2 rfl)
      exact ⟨h5.get 7,h6.get 0,h6.get 1⟩)
     have HSS:Hid (∀ wx,Below w3.heap.size w3 wx→wx.cell? ⟨T,7,none⟩=some (.slice E k ec)∧wx.cell? ⟨wr.heap.size,0,none⟩=some (.int .i64 y0)∧wx.cell? ⟨wr.heap.size,1,none⟩=some (.int .i64 y1)):=Lib.hid (fun wx hb=>HSS7.out wx (Stays.of_below hb _))
     have HFZ:Hid (∀ wx,Stays w3 wx (fun q=>blkOf E=some q)→wx.frozen? ⟨T,7,none⟩=false):=Lib.hid (fun wx hs=>(HTB.out.stays hs (fun e=>(hET _ e).1 rfl)).frozen 7)
     clear hb3 hb13 hgr
     go_upto_region 7 with (fail)
     rw [← hw3]
     clear hw3 e0 e1 hg
     refine wp_region_tail [14] (fun wx=>wx.cell? ⟨T,7,none⟩=some (.slice E k ec)∧wx.cell? ⟨wr.heap.size,0,none⟩=some (.int .i64 y0)∧wx.cell? ⟨wr.heap.size,1,none⟩=some (.int .i64 y1)) (by kernel_rfl) (HSS.out w3 (bself _)) ?_
     intro hHeld
     refine zP 0 (v:=?_) ?_ (fun _=>hHeld) ?_
     rotate_left
     ·intro w9;go_simp;try with_reducible rfl
     try simp only [Act.put,zA,zB,zC,zD,zE,zF]
     refine zP 2 (v:=?_) ?_ (fun _=>hHeld) ?_
     rotate_left
     ·intro w9;go_simp;try with_reducible rfl
     try simp only [Act.put,zA,zB,zC,zD,zE,zF]
     refine zP 3 (v:=?_) ?_ (fun _=>hHeld) ?_
     rotate_left
     ·intro w9;go_simp;try with_reducible rfl
     try simp only [Act.put,zA,zB,zC,zD,zE,zF]
     refine zP 6 (v:=?_) ?_ (fun _=>hHeld) ?_
     rotate_left
     ·intro w9;go_simp;try with_reducible rfl
     try simp only [Act.put,zA,zB,zC,zD,zE,zF]
     refine zP 7 (v:=?_) ?_ (fun _=>hHeld) ?_
     rotate_left
     ·intro w9;go_simp;try with_reducible rfl
     try simp only [Act.put,zA,zB,zC,zD,zE,zF]
     refine zT 1 [12,13,14] (v:=?_) ?_ hHeld ?_
     rotate_left
     ·intro w9 hS9;(try dsimp only at hS9);obtain ⟨q1,q2,q3⟩:=hS9;go_simp;try with_reducible rfl
     try simp only [Act.put,zA,zB,zC,zD,zE,zF]
     refine zT 4 [5,9,10,11,12,13,14] (v:=?_) ?_ hHeld ?_
     rotate_left
     ·intro w9 hS9;(try dsimp only at hS9);obtain ⟨q1,q2,q3⟩:=hS9;go_simp;try with_reducible rfl
     try simp only [Act.put,zA,zB,zC,zD,zE,zF]
     refine zT 8 [9,10,11,12,13,14] (v:=?_) ?_ hHeld ?_
     rotate_left
     ·intro w9 hS9;(try dsimp only at hS9);obtain ⟨q1,q2,q3⟩:=hS9;go_simp;try with_reducible rfl
     try simp only [Act.put,zA,zB,zC,zD,zE,zF]
     refine wpAnyT_next (i:=5) (by kernel_rfl) rfl ?_
     intro K hK
     go_simp
     go_at_call 64
     refine (HMK.out _ _ (by exact (HB13.out.trans ((Below.drew (bself w3)).mono HB13.out.size))) (by omega)).mono ?_
     rintro e _ ⟨rfl,rfl⟩
     go_simp
     have hHeld2:=hHeld
     refine hK.out _ _ (fun _=>hHeld2) ?_
     clear hK K hHeld
     have hHeld:=hHeld2
     clear hHeld2
     try simp only [Act.put,zA,zB,zC,zD,zE,zF]
     refine wpAnyT_next (i:=9) (by kernel_rfl) rfl ?_
     intro K hK
     go_simp
     go_at_call 64
     refine (HMK.out _ _ (by exact (HB13.out.trans ((Below.drew (bself w3)).mono HB13.out.size))) (by omega)).mono ?_
     rintro e _ ⟨rfl,rfl⟩
     go_simp
     have hHeld2:=hHeld
     refine hK.out _ _ (fun _=>hHeld2) ?_
     clear hK K hHeld
     have hHeld:=hHeld2
     clear hHeld2
     try simp only [Act.put,zA,zB,zC,zD,zE,zF]
     refine zP 10 (v:=?_) ?_ (fun _=>hHeld) ?_
     rotate_left
     ·intro w9;go_simp;try with_reducible rfl
     try simp only [Act.put,zA,zB,zC,zD,zE,zF]
     refine wpAnyT_next (i:=11) (by kernel_rfl) rfl ?_
     intro K hK
     go_simp
     refine hK.out _ _ (fun _=>(HSS.out _ (by exact (by repeat (first | (with_reducible first | exact Below.refl _ _ | assumption | refine bset ?_ ?_ _ | refine balloc ?_ _ | refine Below.drew ?_ | refine bdrewN ?_ _ | refine bnext ?_ (by with_reducible assumption)) | exact Nat.le_refl _ | (simp;done) | omega | (simp;omega)))))) ?_
     clear hK K
     try simp only [Act.put,zA,zB,zC,zD,zE,zF]
     refine wpAnyT_next (i:=12) (by kernel_rfl) rfl ?_
     intro K hK
     refine step_app _ (by rfl) _ _ _ (by rfl) elemRng w1.heap.size E k ec _ (by rfl) (HO3.out _ (by exact (by repeat (first | (with_reducible first | exact Below.refl _ _ | assumption | refine bset ?_ ?_ _ | refine balloc ?_ _ | refine Below.drew ?_ | refine bdrewN ?_ _ | refine bnext ?_ (by with_reducible assumption)) | exact Nat.le_refl _ | (simp;done) | omega | (simp;omega))))) (some ⟨w3.heap.size,0,none⟩) 1 1 [.int .i64 (pp.mark x y0),.int .i64 (pp.mark x y1)] (by rfl) (by rfl) (Cells.newAt _ _ _ (by rfl)) (by simp [Value.oneCell']) (by omega) (by unfold maxLen;omega) (Nat.le_trans hs13 (by first | exact Nat.le_succ _ | (simp;done) | (simp;omega))) ?_
     intro E7 c7 w7 hO7 hg7
     have HO7:=Lib.hid hO7
     have hst7:Stays w3 w7 (fun q=>blkOf E=some q):=(Stays.of_below (by exact (by repeat (first | (with_reducible first | exact Below.refl _ _ | assumption | refine bset ?_ ?_ _ | refine balloc ?_ _ | refine Below.drew ?_ | refine bdrewN ?_ _ | refine bnext ?_ (by with_reducible assumption)) | exact Nat.le_refl _ | (simp;done) | omega | (simp;omega)))) _).comp (Stays.grew hg7)
     have HST7:=Lib.hid hst7
     have hs7:=HSS7.out _ hst7
     have f7:=HFZ.out _ hst7
     have l7:T<w7.heap.size:=Nat.lt_of_lt_of_le lT hst7.size
     clear hO7 hg7 hst7
     have hHeld2:=hs7
     refine hK.out _ _ (fun _=>hHeld2) ?_
     clear hK K hHeld
     have hHeld:=hHeld2
     clear hHeld2
     try simp only [Act.put,zA,zB,zC,zD,zE,zF]
     refine zP 13 (v:=?_) ?_ (fun _=>hHeld) ?_
     rotate_left
     ·intro w9;go_simp;try with_reducible rfl
     try simp only [Act.put,zA,zB,zC,zD,zE,zF]
     refine wpAnyT_next (i:=14) (by kernel_rfl) rfl ?_
     intro K hK
     go_simp
     refine hK.out _ _ (zN (by kernel_rfl)) ?_
     clear hK K
     refine wpAnyT_done (by kernel_rfl) ?_ _
     have HNX:Hid (Below w1.heap.size w1 (w7.setCell ⟨T,7,none⟩ (.slice E7 (k+1) c7))∧BlkA (w7.setCell ⟨T,7,none⟩ (.slice E7 (k+1) c7)) T 134 #[.int .i64 0,.int .i64 (pp.mark x ta),.int .i64 tw,.bool false,.bool false,.bool false,.bool true,.slice E7 (k+1) c7,.slice none 0 0]∧Own (w7.setCell ⟨T,7,none⟩ (.slice E7 (k+1) c7)) w1.heap.size 78 2 E7 (k+1) c7 (((ts.take (k+1)).map (pp.mkR x)).flatMap Rng.cells)):=Lib.hid (by
      have hb7:=HTB.out.stays HST7.out (fun e=>(hET _ e).1 rfl)
      refine ⟨?_,by simpa using hb7.set 7 (.slice E7 (k+1) c7),?_⟩
      ·have h8:Below w1.heap.size w3 w7:=HST7.out.below hs13 (fun q hq=>(HOE.out.lt q hq).1)
       exact (HB13.out.trans h8).setCell (by exact hT1) _
      ·rw [HTA.out]
       exact HO7.out.setCell (hb7.apart HO7.out rngNeSeg) _)
     go_wp2
     go_roundw
     case rel=>exact ⟨k+1,E7,c7,by omega,by go_num,HNX⟩
     case measure=>simp [intOf];omega
    ·obtain rfl:k=n:=by omega
     have hnlt:decide (k<k)=false:=by simp
     have htk:ts.take k=ts:=by rw [← HN.out];exact List.take_length
     have HOE:=Lib.hid HK.out.2.2
     rw [htk] at HOE
     have hml:(ts.map (pp.mkR x)).length=k:=by rw [List.length_map];exact HN.out
     have hb0:Below w.heap.size w wr:=bnext HB1.out HK.out.1
     have HB0:=Lib.hid hb0
     have HR:=Lib.hid (H.out.next hb0)
     have HPU:Hid (∀ wx,Below wr.heap.size wr wx→Calls Try.prog 63 #[.pointer (some ⟨W,0,none⟩),.agg #[.int .i64 0,.int .i64 (pp.mark x ta),.int .i64 tw,.bool false,.bool false,.bool false,.bool true,.slice E k ec,.slice none 0 0],.bool true] wx (RRes wx B W x a m (.int .i64 (x.frames.length:Int)) (pp.putIn x (pp.replySeg x ⟨0,ta,tw,ts,td,te⟩) true))):=Lib.hid (fun wx hb=>by
      have hsl:SlRep Rng.rep wx (· < wx.heap.size) (ts.map (pp.mkR x)) E ec:=((Own.rng (HOE.out.next hb)).2).within fun q hq=>hq.2
      have h5:=rpipe_put B W x a m (pp.replySeg x ⟨0,ta,tw,ts,td,te⟩) true E ec none 0 wx (HR.out.next hb) hsl (SlRep.nilW _ _ _) (by show (ts.map (pp.mkR x)).length≤_;rw [hml];omega) (Nat.zero_le _) hl
      have e5:(pp.replySeg x ⟨0,ta,tw,ts,td,te⟩).sacks.length=k:=hml
      rw [e5] at h5
      exact h5)
     have HTR:=Lib.hid (HT1.out.next HK.out.1)
     have HZ:=Lib.hid (HZ1.out.next HK.out.1)
     have HSG:=Lib.hid HK.out.2.1
     have hsr:=HK.out.1.size
     have HNW:Hid (∀ q,RF W a q→q<w.heap.size):=HWL
     have HNZ:Hid (¬ RF W a (w.heap.size+1)):=Lib.hid (fun e=>by have:=HNW.out _ e;omega)
     have HSS:Hid (∀ wx,Stays wr wx (RF W a)→(∀ j:Nat,wx.cell? ⟨T,j,none⟩ = #[Value.int .i64 0,.int .i64 (pp.mark x ta),.int .i64 tw,.bool false,.bool false,.bool false,.bool true,.slice E k ec,.slice none 0 0][j]?)∧(∀ j:Nat,wx.cell? ⟨w.heap.size,j,none⟩ = #[Value.int .i64 0,.int .i64 ta,.int .i64 tw,.slice X k xc,.slice Y td.length yc,.bool te][j]?)):=Lib.hid (fun wx hs=>by
      have h5:=HSG.out.stays hs (fun e=>by have:=HNW.out _ e;omega)
      have h6:=HTR.out.stays hs (fun e=>by have:=HNW.out _ e;omega)
      rw [HN.out] at h6
      exact ⟨h5.get,h6.get⟩)
     have lTr:=HSG.out.lt
     have lxr:=HTR.out.lt
     clear hb0 htk hml
     go_upto_region 9 with (fail)
     refine wp_region_tail [8] (fun wx=>(∀ j:Nat,wx.cell? ⟨T,j,none⟩ = #[Value.int .i64 0,.int .i64 (pp.mark x ta),.int .i64 tw,.bool false,.bool false,.bool false,.bool true,.slice E k ec,.slice none 0 0][j]?)∧(∀ j:Nat,wx.cell? ⟨w.heap.size,j,none⟩ = #[Value.int .i64 0,.int .i64 ta,.int .i64 tw,.slice X k xc,.slice Y td.length yc,.bool te][j]?)) (by kernel_rfl) (HSS.out wr (Stays.refl _ _)) ?_
     intro hHeld
     refine zP 0 (v:=?_) ?_ (fun _=>hHeld) ?_
     rotate_left
     ·intro w9;go_simp;try with_reducible rfl
     try simp only [Act.put,zA,zB,zC,zD,zE,zF]
     refine zP 3 (v:=?_) ?_ (fun _=>hHeld) ?_
     rotate_left
     ·intro w9;go_simp;try with_reducible rfl
     try simp only [Act.put,zA,zB,zC,zD,zE,zF]
     refine zP 5 (v:=?_) ?_ (fun _=>hHeld) ?_
     rotate_left
     ·intro w9;go_simp;try with_reducible rfl
     try simp only [Act.put,zA,zB,zC,zD,zE,zF]
     refine zT 1 [2,7,8] (v:=?_) ?_ hHeld ?_
     rotate_left
     ·intro w9 hS9;(try dsimp only at hS9);obtain ⟨q1,q2⟩:=hS9;go_simp;try with_reducible rfl
     try simp only [Act.put,zA,zB,zC,zD,zE,zF]
     refine zT 4 [7,8] (v:=?_) ?_ hHeld ?_
     rotate_left
     ·intro w9 hS9;(try dsimp only at hS9);obtain ⟨q1,q2⟩:=hS9;go_simp;try with_reducible rfl
     try simp only [Act.put,zA,zB,zC,zD,zE,zF]
     refine zT 6 [7,8] (v:=?_) ?_ hHeld ?_
     rotate_left
     ·intro w9 hS9;(try dsimp only at hS9);obtain ⟨q1,q2⟩:=hS9;go_simp;try with_reducible rfl
     try simp only [Act.put,zA,zB,zC,zD,zE,zF]
     refine wpAnyT_next (i:=2) (by kernel_rfl) rfl ?_
     intro K hK
     go_simp
     go_at_call 63
     refine (HPU.out _ (by exact Below.drew (bself wr))).mono ?_
     rintro e w4 ⟨rfl,a2,q1,q2,q3⟩
     have Q1:=Lib.hid q1
     have Q2:Hid (Stays wr w4 (RF W a)):=Lib.hid ((Stays.of_below (Below.drew (bself wr)) _).comp q2)
     have Q3:=Lib.hid q3
     have hs4:=HSS.out w4 Q2.out
     have z5:=HZ.out.stays Q2.out HNZ.out
     have zd:=z5.get
     have ze:=z5.frozen
     have lz5:=z5.lt
     clear q1 q2 q3 z5
     go_simp
     have hHeld2:=hs4
     refine hK.out _ _ (fun _=>hHeld2) ?_
     clear hK K hHeld
     have hHeld:=hHeld2
     clear hHeld2
     try simp only [Act.put,zA,zB,zC,zD,zE,zF]
     refine zP 7 (v:=?_) ?_ (fun _=>hHeld) ?_
     rotate_left
     ·intro w9;go_simp;try with_reducible rfl
     try simp only [Act.put,zA,zB,zC,zD,zE,zF]
     refine wpAnyT_next (i:=8) (by kernel_rfl) rfl ?_
     intro K hK
     go_simp
     refine hK.out _ _ (zN (by kernel_rfl)) ?_
     clear hK K
     refine wpAnyT_done (by kernel_rfl) ?_ _
     have HFIN:Hid (∀ w',Stays w4 w' (fun q=>q=w.heap.size+1)→RPas b0 w B W a m (pp.reply x ⟨0,ta,tw,ts,td,te⟩) (.returned (.agg #[.int .i64 0,.bool true,.int .i64 (x.frames.length:Int),.slice Y td.length yc,.bool te,.int .i64 0])) w'):=Lib.hid (fun w' hs=>by
      rw [HE.out]
      have hs4:w.heap.size+1<w4.heap.size:=Nat.lt_of_lt_of_le (Nat.lt_of_lt_of_le (by omega:w.heap.size+1<w1.heap.size) hsr) Q2.out.size
      have hn4:∀ q,RF W a2 q→RF W a q∨wr.heap.size≤q:=Q3.out
      refine ⟨[.int .i64 0,.bool true,.int .i64 (x.frames.length:Int),.slice Y td.length yc,.bool te,.int .i64 0],a2,rfl,Passed.rep_iff.2 ⟨Y,yc,rfl,?_⟩,Q1.out.stays hs (fun q hq e=>?_),(((Stays.of_below HB0.out _).comp Q2.out)).trans hs (fun q hq e=>by omega),fun q hq=>(hn4 q hq).imp id (fun e=>by omega)⟩
      ·refine HY.out.keep fun q hq=>?_
       have h6:=HS.out q hq
       have h7:q<wr.heap.size:=Nat.lt_of_lt_of_le h6.2.1 HB0.out.size
       refine ⟨⟨h6.1,Nat.lt_of_lt_of_le (Nat.lt_of_lt_of_le h7 Q2.out.size) hs.size,fun e=>?_⟩,?_⟩
       ·rcases hn4 q e with e | e
        ·exact h6.2.2 e
        ·omega
       ·rw [hs.block q (Nat.lt_of_lt_of_le h7 Q2.out.size) (by omega),Q2.out.block q h7 h6.2.2,HB0.out.block q h6.2.1]
      ·rcases hn4 q hq with e2 | e2
       ·have:=HNW.out q e2;omega
       ·omega)
     clear HPU HSS hs4
     go_wp2
     refine bodyPost_ret (v:=.agg #[.int .i64 0,.bool true,.int .i64 (x.frames.length:Int),.slice Y td.length yc,.bool te,.int .i64 0]) (by simp [results,Try.results67,go_sem, *]) rfl (HFIN.out _ ?_)
     exact Stays.sixP _ _ _ _ _ _ _ _
 ·have HE:Hid (pp.reply x ⟨tc,ta,tw,ts,td,te⟩=(pp.no tc,x)):=Lib.hid (by unfold pp.reply;rw [if_pos k1])
  have q1:(tc != 0)=true:=by simpa using k1
  have q2:(tc == 0)=false:=by simpa using k1
  have HFIN:Hid (∀ wx w',Below w1.heap.size w1 wx→Stays wx w' (fun k=>k=w.heap.size+1)→RPas b0 w B W a m (pp.reply x ⟨tc,ta,tw,ts,td,te⟩) (.returned (.agg #[.int .i64 tc,.bool false,.int .i64 0,.slice none 0 0,.bool false,.int .i64 0])) w'):=Lib.hid (fun wx w' hb hs=>by
   rw [HE.out]
   exact RPas.plain (r:=(pp.no tc,x)) (a1:=a) rfl (H1.out.next hb) ((Stays.of_below HB1.out _).comp (Stays.of_below hb _)) (fun k hk=>.inl hk) (hs.mono fun k hk e=>⟨by omega,fun e2=>by have:=HWL.out k e2;omega⟩))
  clear k1
  go_wp2
  refine bodyPost_ret (v:=.agg #[.int .i64 tc,.bool false,.int .i64 0,.slice none 0 0,.bool false,.int .i64 0]) (by simp [results,Try.results67,go_sem, *]) rfl (HFIN.out _ _ (bself w1) ?_)
  exact Stays.sixP _ _ _ _ _ _ _ _
end Go.Proofs.Ytdldfllllgogoaa
namespace Go.Proofs.Ytdldfllllgogoaa
open Go.RowKit
set_option linter.unusedSimpArgs false
/-- behind the sender's turn in the closure of Do -/
structure ROwMid (w w1 wx:World) (B W U:Nat) (x1:pp.Wire) (a a1:RAd) (m:Nat) (cs:Array Value):Prop where
 at_:RAt wx B W x1 a1 m
 stay:Stays w wx (RF W a)
 nm:∀ k,RF W a1 k→(RF W a k∨w1.heap.size≤k)∧k≠U
 box:BlkA wx U 49 cs
 new:w1.heap.size≤U
 res:BlkA wx (w.heap.size+1) 58 #[.int .i64 0,.bool false,.int .i64 0,.slice none 0 0,.bool false,.int .i64 0]
set_option maxRecDepth 100000 in
set_option maxHeartbeats 2000000 in
theorem rpipe_own (b0 B W X2:Nat) (x:pp.Wire) (a:RAd) (m:Nat) (d:Deed) (G:Option Addr) (gc:Nat) (R:Option Addr) (rc:Nat) (w:World) (h:RAt w B W x a m) (hi:sd.Inv x.snd) (hG:SlRep Rep.u8 w (· < w.heap.size) d.data G gc) (hR:SlRep Rng.rep w (· < w.heap.size) d.sacks R rc) (ha:IntOk d.ack) (hwn:IntOk d.window) (hd:d.data.length≤140737488351232) (hds:d.sacks.length≤140737488351232) (h2:BlkA w X2 92 #[.pointer (some ⟨W,0,none⟩)]) :
  Calls Try.prog 62 #[.agg #[.int .i64 d.kind,.slice G d.data.length gc,.int .i64 d.ack,.int .i64 d.window,.slice R d.sacks.length rc],.pointer (some ⟨X2,0,none⟩)] w (RPas b0 w B W a m (pp.own x d)):=by
 have HDO0:=Lib.hid (fun wx (hb:Below w.heap.size w wx)=>ref_Deed B a.G x.snd a.kl a.td a.D a.dc a.K a.kc d G gc R rc wx (h.next hb).snd hi (hG.next hb) (hR.next hb) ha hwn hd hds)
 have HOW:Hid (pp.own x d=({ pp.none_ with code:=(sd.doIt x.snd d).1.code,left:=(sd.doIt x.snd d).1.left },{ x with snd:=(sd.doIt x.snd d).2 })):=Lib.hid rfl
 generalize sd.doIt x.snd d=r at *
 obtain ⟨⟨sc,sf,sdt,sn,sa,si,sl⟩,s'⟩:=r
 obtain ⟨dk,dd,da,dw,ds⟩:=d
 simp only at hG hR ha hwn hd hds HDO0 HOW ⊢
 have H:=Lib.hid h
 have hW:=h.blk.lt
 have HWL:=Lib.hid (fun k (hk:RF W a k)=>(h.lt hk).2)
 obtain ⟨w1,hw1⟩:∃ w1,w1=(w.alloc (.cells #[.int .i64 dk,.slice G dd.length gc,.int .i64 da,.int .i64 dw,.slice R ds.length rc] 82)).alloc (.cells #[.int .i64 0,.bool false,.int .i64 0,.slice none 0 0,.bool false,.int .i64 0] 58):=⟨_,rfl⟩
 have hb1:Below w.heap.size w w1:=by rw [hw1];exact balloc (balloc (bself w) _) _
 have hz1:w1.heap.size=w.heap.size+1+1:=by rw [hw1];simp
 have HD1:Hid (BlkA w1 w.heap.size 82 #[.int .i64 dk,.slice G dd.length gc,.int .i64 da,.int .i64 dw,.slice R ds.length rc]):=Lib.hid (by rw [hw1];exact (BlkA.new _ _ _).alloc _)
 have HZ1:Hid (BlkA w1 (w.heap.size+1) 58 #[.int .i64 0,.bool false,.int .i64 0,.slice none 0 0,.bool false,.int .i64 0]):=Lib.hid (by
  rw [hw1]
  have h:=BlkA.new (w.alloc (.cells #[.int .i64 dk,.slice G dd.length gc,.int .i64 da,.int .i64 dw,.slice R ds.length rc] 82)) 58 #[.int .i64 0,.bool false,.int .i64 0,.slice none 0 0,.bool false,.int .i64 0]
  simpa using h)
 have HB1:=Lib.hid hb1
 have H1:=Lib.hid (h.next hb1)
 have HX1:=Lib.hid (h2.next hb1)
 have lX:=HX1.out.lt
 have lD:=HD1.out.lt
 have lW:=H1.out.blk.lt
 have HDO:Hid (∀ wx,Below w1.heap.size w1 wx→Calls Try.prog 27 #[.pointer (some ⟨a.G,0,none⟩),.agg #[.int .i64 dk,.slice G dd.length gc,.int .i64 da,.int .i64 dw,.slice R ds.length rc]] wx (DeedRes wx B a.G (⟨sc,sf,sdt,sn,sa,si,sl⟩,s') a.D a.K)):=Lib.hid (fun wx hb=>HDO0.out wx (bnext HB1.out hb))
 have HSS:Hid (∀ wx,Below w1.heap.size w1 wx→wx.cell? ⟨X2,0,none⟩=some (.pointer (some ⟨W,0,none⟩))∧wx.cell? ⟨W,1,none⟩=some (.pointer (some ⟨a.G,0,none⟩))∧(∀ j:Nat,wx.cell? ⟨w.heap.size,j,none⟩ = #[Value.int .i64 dk,.slice G dd.length gc,.int .i64 da,.int .i64 dw,.slice R ds.length rc][j]?)):=Lib.hid (fun wx hb=>⟨(HX1.out.next hb).get 0,(H1.out.next hb).ptrS,(HD1.out.next hb).get⟩)
 have HPS:Hid (∀ (wq w4:World) (kl:List Bool) (td:Int) (D1:Option Addr) (dc1:Nat) (K1:Option Addr) (kc1:Nat),Below w1.heap.size w1 wq→OS w4 B a.G s' kl td D1 dc1 K1 kc1→Stays wq w4 (fun k=>k=a.G)→(∀ k,OF a.G D1 K1 k→OF a.G a.D a.K k∨wq.heap.size≤k)→RAt w4 B W { x with snd:=s' } { a with kl:=kl,td:=td,D:=D1,dc:=dc1,K:=K1,kc:=kc1 } m∧∀ k,RF W { a with kl:=kl,td:=td,D:=D1,dc:=dc1,K:=K1,kc:=kc1 } k→RF W a k∨wq.heap.size≤k):=Lib.hid (fun wq w4 kl td D1 dc1 K1 kc1 hb g2 g3 g4=>(H1.out.next hb).putSnd (g3.mono fun _ _ e=>.inl e) g2 g4)
 have HZD:Hid (∀ w4,Stays (w1.alloc (.cells #[.int .i64 0,.int .i64 0,.slice none 0 0,.bool false,.bool false,.bool false,.int .i64 0] 49)).drew w4 (fun k=>k=a.G)→BlkA w4 (w.heap.size+1+1) 49 #[.int .i64 0,.int .i64 0,.slice none 0 0,.bool false,.bool false,.bool false,.int .i64 0]):=Lib.hid (fun w4 hs=>by
  have hd:BlkA (w1.alloc (.cells #[.int .i64 0,.int .i64 0,.slice none 0 0,.bool false,.bool false,.bool false,.int .i64 0] 49)).drew (w.heap.size+1+1) 49 #[.int .i64 0,.int .i64 0,.slice none 0 0,.bool false,.bool false,.bool false,.int .i64 0]:=by rw [← hz1];exact BlkA.new w1 _ _
  exact hd.stays hs (fun e=>by have:=HWL.out _ (.inr (.inl (.inl e)));omega))
 have HMA:Hid (∀ (w4:World) (a1:RAd) (Ad:Option Addr) (cd:Nat),(RAt w4 B W { x with snd:=s' } a1 m∧∀ k,RF W a1 k→RF W a k∨w1.drew.heap.size≤k)→Stays w1 w4 (fun k=>k=a.G)→ROwMid w w1 (w4.alloc (.cells #[.int .i64 sc,.int .i64 sf,.slice Ad sdt.length cd,.bool sn,.bool sa,.bool si,.int .i64 sl] 49)) B W w4.heap.size { x with snd:=s' } a a1 m #[.int .i64 sc,.int .i64 sf,.slice Ad sdt.length cd,.bool sn,.bool sa,.bool si,.int .i64 sl]):=Lib.hid (fun w4 a1 Ad cd hg hs=>by
  refine ⟨hg.1.next (balloc (bself w4) _),((Stays.of_below HB1.out _).trans hs (fun k hk e=>.inr (.inl (.inl e)))).comp (Stays.of_below (balloc (bself w4) _) _),fun k hk=>⟨hg.2 k hk,by have:=(hg.1.lt hk).2;omega⟩,BlkA.new _ _ _,hs.size,(HZ1.out.stays hs (fun e=>by have:=HWL.out _ (.inr (.inl (.inl e)));omega)).alloc _⟩)
 have HMB:Hid (∀ (w4:World) (a1:RAd) (Ad:Option Addr) (cd:Nat),(RAt w4 B W { x with snd:=s' } a1 m∧∀ k,RF W a1 k→RF W a k∨(w1.alloc (.cells #[.int .i64 0,.int .i64 0,.slice none 0 0,.bool false,.bool false,.bool false,.int .i64 0] 49)).drew.heap.size≤k)→Stays (w1.alloc (.cells #[.int .i64 0,.int .i64 0,.slice none 0 0,.bool false,.bool false,.bool false,.int .i64 0] 49)).drew w4 (fun k=>k=a.G)→ROwMid w w1 (((((((w4.setCell ⟨w.heap.size+1+1,0,none⟩ (.int .i64 sc)).setCell ⟨w.heap.size+1+1,1,none⟩ (.int .i64 sf)).setCell ⟨w.heap.size+1+1,2,none⟩ (.slice Ad sdt.length cd)).setCell ⟨w.heap.size+1+1,3,none⟩ (.bool sn)).setCell ⟨w.heap.size+1+1,4,none⟩ (.bool sa)).setCell ⟨w.heap.size+1+1,5,none⟩ (.bool si)).setCell ⟨w.heap.size+1+1,6,none⟩ (.int .i64 sl)) B W (w.heap.size+1+1) { x with snd:=s' } a a1 m #[.int .i64 sc,.int .i64 sf,.slice Ad sdt.length cd,.bool sn,.bool sa,.bool si,.int .i64 sl]):=Lib.hid (fun w4 a1 Ad cd hg hs=>by
  have hb:Below w1.heap.size w1 (w1.alloc (.cells #[.int .i64 0,.int .i64 0,.slice none 0 0,.bool false,.bool false,.bool false,.int .i64 0] 49)).drew:=Below.drew (balloc (bself w1) _)
  have hsz:(w1.alloc (.cells #[.int .i64 0,.int .i64 0,.slice none 0 0,.bool false,.bool false,.bool false,.int .i64 0] 49)).drew.heap.size=w1.heap.size+1:=World.size_alloc _ _
  have hU:=HZD.out w4 hs
  have hne:∀ k,RF W a1 k→(RF W a k∨w1.heap.size≤k)∧k≠w.heap.size+1+1:=fun k hk=>by
   rcases hg.2 k hk with e | e
   ·have:=HWL.out k e
    exact ⟨.inl e,by omega⟩
   ·rw [hsz] at e
    exact ⟨.inr (by omega),by omega⟩
  have st:=Stays.seven w4 (w.heap.size+1+1) (.int .i64 sc) (.int .i64 sf) (.slice Ad sdt.length cd) (.bool sn) (.bool sa) (.bool si) (.int .i64 sl)
  have hs14:Stays w1 w4 (fun k=>k=a.G):=(Stays.of_below hb _).comp hs
  exact ⟨hg.1.stays st (fun k hk e=>(hne k hk).2 e),((Stays.of_below HB1.out _).trans hs14 (fun k hk e=>.inr (.inl (.inl e)))).trans st (fun k hk e=>by omega),hne,hU.seven _ _ _ _ _ _ _,by omega,(HZ1.out.stays hs14 (fun e=>by have:=HWL.out _ (.inr (.inl (.inl e)));omega)).stays st (by omega)⟩)
 clear h hi hG hR h2 hb1 HDO0
 go_enter Try.func62,Try.ntmps62
 go_upto_region 1 with (fail)
 rw [← hw1]
 clear hw1
 go_cut [4] (fun s4 wx=>∃ (U:Nat) (a1:RAd) (Ad:Option Addr) (cd:Nat),s4=.pointer (some ⟨U,0,none⟩)∧Hid (ROwMid w w1 wx B W U { x with snd:=s' } a a1 m #[.int .i64 sc,.int .i64 sf,.slice Ad sdt.length cd,.bool sn,.bool sa,.bool si,.int .i64 sl]))
 case first=>
  refine wp_region_tail [5,7] (fun wx=>wx.cell? ⟨X2,0,none⟩=some (.pointer (some ⟨W,0,none⟩))∧wx.cell? ⟨W,1,none⟩=some (.pointer (some ⟨a.G,0,none⟩))∧(∀ j:Nat,wx.cell? ⟨w.heap.size,j,none⟩ = #[Value.int .i64 dk,.slice G dd.length gc,.int .i64 da,.int .i64 dw,.slice R ds.length rc][j]?)) (by kernel_rfl) (HSS.out w1 (bself _)) ?_
  intro hHeld
  refine zT 0 [1,2,3,5,7] (v:=?_) ?_ hHeld ?_
  rotate_left
  ·intro w9 hS9;(try dsimp only at hS9);obtain ⟨q1,q2,q3⟩:=hS9;go_simp;try with_reducible rfl
  try simp only [Act.put,zA,zB,zC,zD,zE,zF]
  refine zP 1 (v:=?_) ?_ (fun _=>hHeld) ?_
  rotate_left
  ·intro w9;go_simp;try with_reducible rfl
  try simp only [Act.put,zA,zB,zC,zD,zE,zF]
  refine zP 2 (v:=?_) ?_ (fun _=>hHeld) ?_
  rotate_left
  ·intro w9;go_simp;try with_reducible rfl
  try simp only [Act.put,zA,zB,zC,zD,zE,zF]
  refine zT 3 [5,7] (v:=?_) ?_ hHeld ?_
  rotate_left
  ·intro w9 hS9;(try dsimp only at hS9);obtain ⟨q1,q2,q3⟩:=hS9;go_simp;try with_reducible rfl
  try simp only [Act.put,zA,zB,zC,zD,zE,zF]
  refine zT 4 [5,7] (v:=?_) ?_ hHeld ?_
  rotate_left
  ·intro w9 hS9;(try dsimp only at hS9);obtain ⟨q1,q2,q3⟩:=hS9;go_simp;try with_reducible rfl
  try simp only [Act.put,zA,zB,zC,zD,zE,zF]
  refine wpAnyT_fork (i:=5) (j:=6) (by kernel_rfl) rfl rfl ?_ ?_
  ·intro K hK
   go_simp
   go_at_call 27
   refine (HDO.out _ (by exact (by repeat (first | (with_reducible first | exact Below.refl _ _ | assumption | refine bset ?_ ?_ _ | refine balloc ?_ _ | refine Below.drew ?_ | refine bdrewN ?_ _ | refine bnext ?_ (by with_reducible assumption)) | exact Nat.le_refl _ | (simp;done) | omega | (simp;omega))))).mono ?_
   rintro e w4 ⟨cs,kl1,td1,D1,dc1,K1,kc1,rfl,g1,g2,g3,g4⟩
   obtain ⟨Ad,cd,rfl,g5⟩:=Sent.rep_iff.1 g1
   have G3:Hid (Stays w1 w4 (fun k=>k=a.G)):=Lib.hid ((Stays.of_below (by exact (by repeat (first | (with_reducible first | exact Below.refl _ _ | assumption | refine bset ?_ ?_ _ | refine balloc ?_ _ | refine Below.drew ?_ | refine bdrewN ?_ _ | refine bnext ?_ (by with_reducible assumption)) | exact Nat.le_refl _ | (simp;done) | omega | (simp;omega)))) _).comp g3)
   have G2:=Lib.hid (HPS.out _ _ _ _ _ _ _ _ (by exact (by repeat (first | (with_reducible first | exact Below.refl _ _ | assumption | refine bset ?_ ?_ _ | refine balloc ?_ _ | refine Below.drew ?_ | refine bdrewN ?_ _ | refine bnext ?_ (by with_reducible assumption)) | exact Nat.le_refl _ | (simp;done) | omega | (simp;omega)))) g2 g3 g4)
   (try with_reducible have zu:=(HZD.out w4 g3).get)
   (try with_reducible have zv:=(HZD.out w4 g3).frozen)
   (try with_reducible have zl:=(HZD.out w4 g3).lt)
   (try with_reducible have HG3:=Lib.hid g3)
   clear g1 g2 g3 g4 g5
   go_simp
   refine hK.out _ _ (zN (by kernel_rfl)) ?_
   clear hK K
   try simp only [Act.put,zA,zB,zC,zD,zE,zF]
   refine wpAnyT_next (i:=6) (by kernel_rfl) rfl ?_
   intro K hK
   go_simp
   refine hK.out _ _ (zN (by kernel_rfl)) ?_
   clear hK K
   try simp only [Act.put,zA,zB,zC,zD,zE,zF]
   refine wpAnyT_next (i:=7) (by kernel_rfl) rfl ?_
   intro K hK
   go_simp
   refine hK.out _ _ (zN (by kernel_rfl)) ?_
   clear hK K
   refine wpAnyT_done (by kernel_rfl) ?_ _
   go_wp2
   go_meet
   first
    | (with_reducible exact ⟨_,_,_,_,rfl,Lib.hid (HMB.out _ _ _ _ G2.out HG3.out)⟩)
    | (with_reducible exact ⟨_,_,_,_,rfl,Lib.hid (HMA.out _ _ _ _ G2.out G3.out)⟩)
    | trace_state
  ·intro K hK
   go_simp
   refine hK.out _ _ (fun _=>(HSS.out _ (by exact (by repeat (first | (with_reducible first | exact Below.refl _ _ | assumption | refine bset ?_ ?_ _ | refine balloc ?_ _ | refine Below.drew ?_ | refine bdrewN ?_ _ | refine bnext ?_ (by with_reducible assumption)) | exact Nat.le_refl _ | (simp;done) | omega | (simp;omega)))))) ?_
   clear hK K
   try simp only [Act.put,zA,zB,zC,zD,zE,zF]
   refine wpAnyT_next (i:=5) (by kernel_rfl) rfl ?_
   intro K hK
   go_simp
   go_at_call 27
   refine (HDO.out _ (by exact (by repeat (first | (with_reducible first | exact Below.refl _ _ | assumption | refine bset ?_ ?_ _ | refine balloc ?_ _ | refine Below.drew ?_ | refine bdrewN ?_ _ | refine bnext ?_ (by with_reducible assumption)) | exact Nat.le_refl _ | (simp;done) | omega | (simp;omega))))).mono ?_
   rintro e w4 ⟨cs,kl1,td1,D1,dc1,K1,kc1,rfl,g1,g2,g3,g4⟩
   obtain ⟨Ad,cd,rfl,g5⟩:=Sent.rep_iff.1 g1
   have G3:Hid (Stays w1 w4 (fun k=>k=a.G)):=Lib.hid ((Stays.of_below (by exact (by repeat (first | (with_reducible first | exact Below.refl _ _ | assumption | refine bset ?_ ?_ _ | refine balloc ?_ _ | refine Below.drew ?_ | refine bdrewN ?_ _ | refine bnext ?_ (by with_reducible assumption)) | exact Nat.le_refl _ | (simp;done) | omega | (simp;omega)))) _).comp g3)
   have G2:=Lib.hid (HPS.out _ _ _ _ _ _ _ _ (by exact (by repeat (first | (with_reducible first | exact Below.refl _ _ | assumption | refine bset ?_ ?_ _ | refine balloc ?_ _ | refine Below.drew ?_ | refine bdrewN ?_ _ | refine bnext ?_ (by with_reducible assumption)) | exact Nat.le_refl _ | (simp;done) | omega | (simp;omega)))) g2 g3 g4)
   (try with_reducible have zu:=(HZD.out w4 g3).get)
   (try with_reducible have zv:=(HZD.out w4 g3).frozen)
   (try with_reducible have zl:=(HZD.out w4 g3).lt)
   (try with_reducible have HG3:=Lib.hid g3)
   clear g1 g2 g3 g4 g5
   go_simp
   refine hK.out _ _ (zN (by kernel_rfl)) ?_
   clear hK K
   try simp only [Act.put,zA,zB,zC,zD,zE,zF]
   refine wpAnyT_next (i:=7) (by kernel_rfl) rfl ?_
   intro K hK
   go_simp
   refine hK.out _ _ (zN (by kernel_rfl)) ?_
   clear hK K
   refine wpAnyT_done (by kernel_rfl) ?_ _
   go_wp2
   go_meet
   first
    | (with_reducible exact ⟨_,_,_,_,rfl,Lib.hid (HMB.out _ _ _ _ G2.out HG3.out)⟩)
    | (with_reducible exact ⟨_,_,_,_,rfl,Lib.hid (HMA.out _ _ _ _ G2.out G3.out)⟩)
    | trace_state
 case rest=>
  obtain ⟨U,a1,Ad,cd,rfl,HM⟩:=hcut
  rename World=>w5
  have ud:=HM.out.box.get
  have ul:=HM.out.box.lt
  have zd:=HM.out.res.get
  have ze:=HM.out.res.frozen
  have zl:=HM.out.res.lt
  have HNW:Hid (¬ RF W a1 (w.heap.size+1)):=Lib.hid (fun e=>by
   rcases (HM.out.nm _ e).1 with e | e
   ·have:=HWL.out _ e;omega
   ·omega)
  have HFIN:Hid (∀ w',Stays w5 w' (fun k=>k=w.heap.size+1)→RPas b0 w B W a m (pp.own x ⟨dk,dd,da,dw,ds⟩) (.returned (.agg #[.int .i64 sc,.bool false,.int .i64 0,.slice none 0 0,.bool false,.int .i64 sl])) w'):=Lib.hid (fun w' hs=>by
   rw [HOW.out]
   exact RPas.plain (r:=({ pp.none_ with code:=sc,left:=sl },{ x with snd:=s' })) rfl HM.out.at_ HM.out.stay (fun k hk=>((HM.out.nm k hk).1).imp (fun e=>e) (fun e=>by omega)) (hs.mono fun k hk e=>⟨by omega,fun e2=>HNW.out (e ▸ e2)⟩))
  clear HPS HMA HMB HDO HSS HZD
  go_wp2
  refine bodyPost_ret (v:=.agg #[.int .i64 sc,.bool false,.int .i64 0,.slice none 0 0,.bool false,.int .i64 sl]) (by simp [results,Try.results62,go_sem, *]) rfl (HFIN.out _ ?_)
  exact Stays.sixP _ _ _ _ _ _ _ _
end Go.Proofs.Ytdldfllllgogoaa
namespace Go.Proofs.Ytdldfllllgogoaa
open Go.RowKit
set_option linter.unusedSimpArgs false
theorem rv.told_bd {room:Int} {s:rv.St} (h:rv.Inv room s) (hr:1≤room∧room≤4096) (a:Arrival) :
  (0≤(rv.doIt room s a).1.ack∧(rv.doIt room s a).1.ack≤1048576)∧(∀ r,r ∈ (rv.doIt room s a).1.sacks→(0≤r.lo∧r.lo≤1048576)∧(0≤r.hi∧r.hi≤1048576))∧(rv.doIt room s a).1.sacks.length≤100∧(rv.doIt room s a).1.data.length≤4096:=by
 have h2:=h.step a
 have hlo:=h2.lo
 have htop:=h2.top
 have e2:(rv.doIt room s a).2=(rv.step room s a).2:=rfl
 have e1:(rv.doIt room s a).1.ack=if (rv.step room s a).2.done=(rv.step room s a).2.end_ then (rv.step room s a).2.done+1 else (rv.step room s a).2.done:=rfl
 have e3:(rv.doIt room s a).1.sacks=sacks (rv.lastOf a) 3 (rv.step room s a).2.more:=rfl
 have e4:(rv.doIt room s a).1.data=(rv.step room s a).1.data:=rfl
 refine ⟨?_,fun r hr'=>?_,?_,?_⟩
 ·rw [e1]
  split <;> omega
 ·rw [e3] at hr'
  have hm:r ∈ (rv.step room s a).2.more:=by
   have h5:=List.mem_of_mem_take hr'
   rcases List.mem_append.1 h5 with h6 | h6
   ·exact (List.mem_filter.1 h6).1
   ·exact List.mem_reverse.1 (List.mem_filter.1 h6).1
  have h7:=h2.canon.mem r hm
  have h8:=(h2.hi r hm).2
  omega
 ·rw [e3]
  unfold sacks
  rw [List.length_take]
  have:((3:Int).toNat)=3:=rfl
  omega
 ·rw [e4]
  unfold rv.step
  split
  ·exact Nat.zero_le _
  ·split
   ·split
    ·exact Nat.zero_le _
    ·rename_i hc
     have h9:=rv.takeOf_le h (c:=a.count) (by omega)
     simp only
     rw [List.length_take]
     omega
   ·exact Nat.zero_le _
theorem sg.dec_err {b:List UInt8} {c:Int} (h:sg.dec b=.error c):c≠0:=by
 unfold sg.dec at h
 split at h
 ·cases h;decide
 ·split at h
  ·cases h;decide
  ·split at h
   ·cases h;decide
   ·split at h
    ·cases h;decide
    ·cases h
theorem pp.taken_err {x:pp.Wire} {id:Int} {b:Bool} {c:Int} (h:pp.taken x id b=.error c):c≠0:=by
 unfold pp.taken at h
 split at h
 ·cases h;decide
 ·exact sg.dec_err h
theorem sg.dec_ok {b:List UInt8} {s:Segment} (h:sg.dec b=.ok s):sg.fault s=0:=by
 unfold sg.dec at h
 split at h
 ·cases h
 ·split at h
  ·cases h
  ·split at h
   ·cases h
   ·split at h
    ·cases h
    ·rename_i hf
     cases h
     exact Decidable.not_not.1 hf
theorem pp.taken_ok {x:pp.Wire} {id:Int} {b:Bool} {s:Segment} (h:pp.taken x id b=.ok s):sg.fault s=0:=by
 unfold pp.taken at h
 split at h
 ·cases h
 ·exact sg.dec_ok h
/-- a segment that was decoded -/
theorem sg.may_ok {s:Segment} (h:sg.fault s=0):(0≤s.seq∧s.seq<65536)∧(0≤s.ack∧s.ack<65536)∧(0≤s.window∧s.window≤65535)∧s.sacks.length≤3∧s.data.length≤64∧∀ r,r ∈ s.sacks→(0≤r.lo∧r.lo<65536)∧(0≤r.hi∧r.hi<65536):=by
 obtain ⟨h1,h2,h3,h4,_⟩:=sg.fault_zero h
 unfold sg.bad1 at h1
 refine ⟨by omega,by omega,by omega,h2,h3,fun r hr=>?_⟩
 exact sg.rngOk_iff.1 (List.all_eq_true.1 h4 r hr)
theorem pp.place_bd (x:pp.Wire) {s near:Int} (h:0≤near∧near≤1048576):-65536≤pp.place x s near∧pp.place x s near≤1200000:=by
 unfold pp.place nearOf
 split <;> omega
set_option maxRecDepth 100000 in
set_option maxHeartbeats 4000000 in
theorem pipe_carry (B W:Nat) (x:pp.Wire) (a:WAd) (id:Int) (w:World) (h:WAt w B W x a) {k:Nat} (hi:pp.Inv x k) (hk:k≤1000) (hid:IntOk id) :
  Calls Try.prog 59 #[.pointer (some ⟨W,0,none⟩),.int .i64 id] w (PasRes w B W x a (pp.carry x id)):=by
 have H:=Lib.hid h
 have HI:=Lib.hid hi
 have hW:=h.blk.lt
 have hl:x.frames.length≤1000:=Nat.le_trans hi.few hk
 obtain ⟨w1,hw1⟩:∃ w1,w1=w.alloc (.cells #[.int .i64 0,.bool false,.int .i64 0,.slice none 0 0,.bool false,.int .i64 0] 58):=⟨_,rfl⟩
 have hb1:Below w.heap.size w w1:=by rw [hw1];exact balloc (bself w) _
 have HZ1:Hid (BlkA w1 w.heap.size 58 #[.int .i64 0,.bool false,.int .i64 0,.slice none 0 0,.bool false,.int .i64 0]):=Lib.hid (by rw [hw1];exact BlkA.new _ _ _)
 have hz1:w1.heap.size=w.heap.size+1:=by rw [hw1];simp
 have HB1:=Lib.hid hb1
 have HTK:=Lib.hid (pipe_taken B W x a id false w1 (h.next hb1) hl hid hi.size)
 have HCA:Hid (pp.carry x id=pp.carryOf x (pp.taken x id false)):=Lib.hid rfl
 have HER:=Lib.hid (fun c=>pp.taken_err (x:=x) (id:=id) (b:=false) (c:=c))
 have HOK:=Lib.hid (fun s=>pp.taken_ok (x:=x) (id:=id) (b:=false) (s:=s))
 have HWL:=Lib.hid (fun k (hk:WF W x a k)=>(h.lt hk).2)
 generalize pp.taken x id false=r at *
 have hz:=HZ1.out.lt
 clear h hi hb1
 go_enter Try.func59,Try.ntmps59
 go_upto_region 1 with (fail)
 rw [← hw1]
 clear hw1
 go_upto_region 2 with (first
  | (go_at_call 86;((with_reducible refine HTK.out.mono ?_);rintro e w2 hres;obtain ⟨sq,ak,wn,sy,fi,rs,as_,sk,dt,A0,c0,A1,c1,hseg,rfl,r0,r1,hb2⟩:=SegRes.open hres;have HSG:=Lib.hid hseg;have R0:=Lib.hid r0;have R1:=Lib.hid r1;have HB2:=Lib.hid hb2;clear hres hseg r0 r1 hb2))
  | fail)
 generalize hw3:World.alloc w2 _=w3
 generalize hT:w2.heap.size=T
 have hb23:Below w2.heap.size w2 w3:=by rw [← hw3];exact balloc (bself w2) _
 have HBT:Hid (BlkA w3 T 134 #[.int .i64 sq,.int .i64 ak,.int .i64 wn,.bool sy,.bool fi,.bool rs,.bool as_,.slice A0 sk.length c0,.slice A1 dt.length c1]):=Lib.hid (by rw [← hw3,← hT];exact BlkA.new _ _ _)
 have hs2:=HB2.out.size
 have hT1:w1.heap.size≤T:=by omega
 have hb13:Below w1.heap.size w1 w3:=bnext HB2.out hb23
 have hb03:Below w.heap.size w w3:=bnext HB1.out hb13
 have HB03:=Lib.hid hb03
 have H3:=Lib.hid (H.out.next hb03)
 have HZ3:=Lib.hid (HZ1.out.next hb13)
 have zd:=HZ3.out.get
 have ze:=HZ3.out.frozen
 have lz:=HZ3.out.lt
 have R1:Hid (SlRep Rep.u8 w3 (fun k=>w1.heap.size≤k∧k<w3.heap.size) dt A1 c1):=Lib.hid (R1.out.keep fun q hq=>⟨⟨hq.1,Nat.lt_of_lt_of_le hq.2 hb23.size⟩,hb23.block q hq.2⟩)
 clear hw3 hT hb23 hb13 hb03 hs2 R0 HB2
 cases r with
 | error c=>
  have hc:=HER.out c rfl
  have q1:(c != 0)=true:=by simpa using hc
  have q2:(c == 0)=false:=by simpa using hc
  have HNO:=Lib.hid (fun wx=>pipe_no c wx)
  have HFIN:Hid (∀ wx w',Below w3.heap.size w3 wx→Stays wx w' (fun k=>k=w.heap.size)→PasRes w B W x a (pp.carry x id) (.returned (.agg #[.int .i64 c,.bool false,.int .i64 0,.slice none 0 0,.bool false,.int .i64 0])) w'):=Lib.hid (fun wx w' hb hs=>by
   rw [HCA.out]
   exact PasRes.plain (r:=(pp.no c,x)) (a1:=a) rfl (H3.out.next hb) ((Stays.of_below HB03.out _).comp (Stays.of_below hb _)) (fun k hk=>.inl hk) (hs.mono fun k hk e=>⟨by omega,fun e2=>by have:=HWL.out k e2;omega⟩))
  simp only [exC]
  clear hc
  go_wp2_with (first
   | (go_at_call 57;((with_reducible refine (HNO.out _).mono ?_);rintro e w4 ⟨rfl,hb4⟩;have z4:=HZ3.out.next hb4;have zd:=z4.get;have ze:=z4.frozen;have lz4:=z4.lt;have HB4:=Lib.hid hb4;clear hb4 z4))
   | fail)
  refine bodyPost_ret (v:=.agg #[.int .i64 c,.bool false,.int .i64 0,.slice none 0 0,.bool false,.int .i64 0]) (by simp [results,Try.results59,go_sem, *]) rfl (HFIN.out _ _ HB4.out ?_)
  exact Stays.sixP _ _ _ _ _ _ _ _
 | ok s=>
  have hfa:=sg.may_ok (HOK.out s rfl)
  have hseg:s=⟨sq,ak,wn,sy,fi,rs,as_,sk,dt⟩:=HSG.out
  subst hseg
  simp only at hfa
  obtain ⟨hsq,_,_,_,hdt,_⟩:=hfa
  have hdn:0≤x.rcv.done∧x.rcv.done≤1048576:=by have:=HI.out.rcv.lo;have:=HI.out.rcv.top;omega
  have HSS:Hid (∀ wx,Below w3.heap.size w3 wx→wx.cell? ⟨T,0,none⟩=some (.int .i64 sq)∧wx.cell? ⟨W,2,none⟩=some (.pointer (some ⟨a.FH,0,none⟩))):=Lib.hid (fun wx hb=>⟨(HBT.out.next hb).get 0,(H3.out.next hb).ptrH⟩)
  have HDN:Hid (∀ wx,Below w3.heap.size w3 wx→Calls Try.prog 88 #[.pointer (some ⟨a.FH,0,none⟩)] wx fun e w'=>e=.returned (.int .i64 x.rcv.done)∧wx=w'):=Lib.hid (fun wx hb=>recv_Done B a.FH x.room x.rcv a.Dh a.dch a.Mh a.mch wx (H3.out.next hb).rcv)
  have HPL:Hid (∀ wx,Below w3.heap.size w3 wx→Calls Try.prog 87 #[.pointer (some ⟨W,0,none⟩),.int .i64 sq,.int .i64 x.rcv.done] wx fun e w'=>e=.returned (.tuple #[.int .i64 (pp.place x sq x.rcv.done),.bool (decide (0≤pp.place x sq x.rcv.done))])∧Below wx.heap.size wx w'):=Lib.hid (fun wx hb=>pipe_place B W x a sq x.rcv.done wx (H3.out.next hb) HI.out.first hsq hdn)
  have hpb:=pp.place_bd x (s:=sq) hdn
  have HCA2:Hid (pp.carry x id=if pp.place x sq x.rcv.done<0 then (pp.no 2,x) else pp.comes x ⟨1,pp.place x sq x.rcv.done,dt,fi,0⟩):=Lib.hid (by rw [HCA.out];rfl)
  generalize pp.place x sq x.rcv.done=fr at *
  have lT:=HBT.out.lt
  have hW3:=H3.out.blk.lt
  simp only [exC]
  go_upto_region 4 with (fail)
  refine wp_region_tail [] (fun wx=>wx.cell? ⟨T,0,none⟩=some (.int .i64 sq)∧wx.cell? ⟨W,2,none⟩=some (.pointer (some ⟨a.FH,0,none⟩))) (by kernel_rfl) (HSS.out w3 (bself _)) ?_
  intro hHeld
  refine zP 0 (v:=?_) ?_ (fun _=>hHeld) ?_
  rotate_left
  ·intro w9;go_simp;try with_reducible rfl
  try simp only [Act.put,zA,zB,zC,zD,zE,zF]
  refine zP 1 (v:=?_) ?_ (fun _=>hHeld) ?_
  rotate_left
  ·intro w9;go_simp;try with_reducible rfl
  try simp only [Act.put,zA,zB,zC,zD,zE,zF]
  refine zP 3 (v:=?_) ?_ (fun _=>hHeld) ?_
  rotate_left
  ·intro w9;go_simp;try with_reducible rfl
  try simp only [Act.put,zA,zB,zC,zD,zE,zF]
  refine zP 4 (v:=?_) ?_ (fun _=>hHeld) ?_
  rotate_left
  ·intro w9;go_simp;try with_reducible rfl
  try simp only [Act.put,zA,zB,zC,zD,zE,zF]
  refine zP 5 (v:=?_) ?_ (fun _=>hHeld) ?_
  rotate_left
  ·intro w9;go_simp;try with_reducible rfl
  try simp only [Act.put,zA,zB,zC,zD,zE,zF]
  refine zT 2 [] (v:=?_) ?_ hHeld ?_
  rotate_left
  ·intro w9 hS9;(try dsimp only at hS9);obtain ⟨q1,q2⟩:=hS9;go_simp;try with_reducible rfl
  try simp only [Act.put,zA,zB,zC,zD,zE,zF]
  refine zT 6 [] (v:=?_) ?_ hHeld ?_
  rotate_left
  ·intro w9 hS9;(try dsimp only at hS9);obtain ⟨q1,q2⟩:=hS9;go_simp;try with_reducible rfl
  try simp only [Act.put,zA,zB,zC,zD,zE,zF]
  refine wpAnyT_next (i:=7) (by kernel_rfl) rfl ?_
  intro K hK
  go_simp
  go_at_call 88
  refine (HDN.out _ (by exact Below.drew (bself w3))).mono ?_
  rintro e _ ⟨rfl,rfl⟩
  go_simp
  have hHeld2:=hHeld
  refine hK.out _ _ (fun _=>hHeld2) ?_
  clear hK K hHeld
  have hHeld:=hHeld2
  clear hHeld2
  try simp only [Act.put,zA,zB,zC,zD,zE,zF]
  refine wpAnyT_next (i:=8) (by kernel_rfl) rfl ?_
  intro K hK
  go_simp
  go_at_call 87
  refine (HPL.out _ (by exact Below.drew (bself w3))).mono ?_
  rintro e w4 ⟨rfl,hb4⟩
  have hb34:Below w3.heap.size w3 w4:=(Below.drew (bself w3)).trans hb4
  have HB34:=Lib.hid hb34
  have hs4:=HSS.out w4 hb34
  clear hb4 hb34
  go_simp
  have hHeld2:=hs4
  refine hK.out _ _ (fun _=>hHeld2) ?_
  clear hK K hHeld
  have hHeld:=hHeld2
  clear hHeld2
  try simp only [Act.put,zA,zB,zC,zD,zE,zF]
  refine zP 9 (v:=?_) ?_ (fun _=>hHeld) ?_
  rotate_left
  ·intro w9;go_simp;try with_reducible rfl
  try simp only [Act.put,zA,zB,zC,zD,zE,zF]
  refine zP 10 (v:=?_) ?_ (fun _=>hHeld) ?_
  rotate_left
  ·intro w9;go_simp;try with_reducible rfl
  try simp only [Act.put,zA,zB,zC,zD,zE,zF]
  refine zP 11 (v:=?_) ?_ (fun _=>hHeld) ?_
  rotate_left
  ·intro w9;go_simp;try with_reducible rfl
  try simp only [Act.put,zA,zB,zC,zD,zE,zF]
  refine zP 12 (v:=?_) ?_ (fun _=>hHeld) ?_
  rotate_left
  ·intro w9;go_simp;try with_reducible rfl
  try simp only [Act.put,zA,zB,zC,zD,zE,zF]
  refine zP 13 (v:=?_) ?_ (fun _=>hHeld) ?_
  rotate_left
  ·intro w9;go_simp;try with_reducible rfl
  try simp only [Act.put,zA,zB,zC,zD,zE,zF]
  refine wpAnyT_done (by kernel_rfl) ?_ _
  have H4:=Lib.hid (H3.out.next HB34.out)
  have HB04:Hid (Below w.heap.size w w4):=Lib.hid (bnext HB03.out HB34.out)
  have HZ4:=Lib.hid (HZ3.out.next HB34.out)
  have HNZ:Hid (¬ WF W x a w.heap.size):=Lib.hid (fun e=>by have:=HWL.out _ e;omega)
  have lz4:=HZ4.out.lt
  by_cases k5:0≤fr
  ·have q5:decide (0≤fr)=true:=by simpa using k5
   have HCA3:Hid (pp.carry x id=pp.comes x ⟨1,fr,dt,fi,0⟩):=Lib.hid (by rw [HCA2.out,if_neg (by omega)])
   have HTB:=Lib.hid (HBT.out.next HB34.out)
   have R14:Hid (SlRep Rep.u8 w4.drew (fun k=>w1.heap.size≤k∧k<w3.heap.size) dt A1 c1):=Lib.hid (R1.out.keep fun q hq=>⟨hq,HB34.out.block q hq.2⟩)
   have HDO:=Lib.hid (recv_Do B a.FH x.room x.rcv a.Dh a.dch a.Mh a.mch ⟨1,fr,dt,fi,0⟩ A1 c1 (fun k=>w1.heap.size≤k∧k<w3.heap.size) w4.drew (H4.out.next (Below.drew (bself w4))).rcv HI.out.rcv HI.out.room R14.out (fun q hq=>⟨Nat.lt_of_lt_of_le hq.2 HB34.out.size,fun e=>by have:=HWL.out q (.inr (.inr (.inl e)));omega⟩) (by unfold IntOk;simp only;omega) (Nat.le_trans hdt (by decide)))
   have htb:=rv.told_bd HI.out.rcv HI.out.room ⟨1,fr,dt,fi,0⟩
   have HCM:Hid (pp.comes x ⟨1,fr,dt,fi,0⟩=pp.reply { x with rcv:=(rv.doIt x.room x.rcv ⟨1,fr,dt,fi,0⟩).2 } (rv.doIt x.room x.rcv ⟨1,fr,dt,fi,0⟩).1):=Lib.hid rfl
   simp only at HDO
   generalize rv.doIt x.room x.rcv ⟨1,fr,dt,fi,0⟩=rr at *
   obtain ⟨⟨tc,ta,tw,ts,td,te⟩,s'⟩:=rr
   simp only at htb HCM HDO
   obtain ⟨x1,hx1⟩:∃ x1,{ x with rcv:=s' }=x1:=⟨_,rfl⟩
   have HX1:=Lib.hid hx1
   have hxf:x1.first=x.first∧x1.frames=x.frames:=by rw [← hx1];exact ⟨rfl,rfl⟩
   rw [hx1] at HCM
   have HSW:Hid (∀ (w5:World) (D5:Option Addr) (dc5:Nat) (M5:Option Addr) (mc5:Nat) (q:Nat),w4.drew.heap.size≤q∧q<w5.heap.size∧¬ HF a.FH D5 M5 s'.more q→q<w5.heap.size∧¬ WF W x1 { a with Dh:=D5,dch:=dc5,Mh:=M5,mch:=mc5 } q):=Lib.hid (fun w5 D5 dc5 M5 mc5 q hq=>⟨hq.2.1,fun e=>by
    have h9:w4.heap.size≤q:=hq.1
    have h10:∀ z,WF W x a z→z<w4.heap.size:=fun z hz=>(H4.out.lt hz).2
    rw [← HX1.out] at e
    rcases e with e | e | e | e
    ·have:=h10 q (.inl e);omega
    ·have:=h10 q (.inr (.inl e));omega
    ·exact hq.2.2 e
    ·have:=h10 q (.inr (.inr (.inr e)));omega⟩)
   have HRP:Hid (∀ (a1:WAd) (X5:Option Addr) (xc5:Nat) (Y5:Option Addr) (yc5:Nat) (S5:Nat→Prop) (w5:World),WAt w5 B W x1 a1→SlRep Rng.rep w5 S5 ts X5 xc5→SlRep Rep.u8 w5 S5 td Y5 yc5→(∀ k,S5 k→k<w5.heap.size∧¬ WF W x1 a1 k)→Calls Try.prog 61 #[.pointer (some ⟨W,0,none⟩),.agg #[.int .i64 tc,.int .i64 ta,.int .i64 tw,.slice X5 ts.length xc5,.slice Y5 td.length yc5,.bool te]] w5 (PasRes w5 B W x1 a1 (pp.reply x1 ⟨tc,ta,tw,ts,td,te⟩))):=Lib.hid (fun a1 X5 xc5 Y5 yc5 S5 w5 h1 h2 h3 h4=>pipe_reply B W x1 a1 ⟨tc,ta,tw,ts,td,te⟩ X5 xc5 Y5 yc5 S5 w5 h1 (by rw [hxf.1];exact HI.out.first) (by rw [hxf.2];exact hl) h2 h3 h4 htb.1 htb.2.1 htb.2.2.1 (Nat.le_trans htb.2.2.2 (by decide)))
   have HCA4:Hid (pp.carry x id=pp.reply x1 ⟨tc,ta,tw,ts,td,te⟩):=Lib.hid (by rw [HCA3.out,HCM.out])
   generalize pp.reply x1 ⟨tc,ta,tw,ts,td,te⟩=p at *
   obtain ⟨⟨pc,pp_,pi,pd,pe,pl⟩,x2⟩:=p
   have HSS7:Hid (∀ wx,Below w4.heap.size w4 wx→wx.cell? ⟨T,4,none⟩=some (.bool fi)∧wx.cell? ⟨T,8,none⟩=some (.slice A1 dt.length c1)∧wx.cell? ⟨W,2,none⟩=some (.pointer (some ⟨a.FH,0,none⟩))):=Lib.hid (fun wx hb=>by
    have h5:=HTB.out.next hb
    exact ⟨h5.get 4,h5.get 8,(H4.out.next hb).ptrH⟩)
   have lT4:=HTB.out.lt
   have hW4:=H4.out.blk.lt
   clear HCA HCA2 HCA3 HCM hx1 htb HSS HDN HPL hs4 zd ze lz
   go_upto_region 7 with (fail)
   refine wp_region_tail [11,12,13] (fun wx=>wx.cell? ⟨T,4,none⟩=some (.bool fi)∧wx.cell? ⟨T,8,none⟩=some (.slice A1 dt.length c1)∧wx.cell? ⟨W,2,none⟩=some (.pointer (some ⟨a.FH,0,none⟩))) (by kernel_rfl) (HSS7.out w4 (bself _)) ?_
   intro hHeld
   refine zP 0 (v:=?_) ?_ (fun _=>hHeld) ?_
   rotate_left
   ·intro w9;go_simp;try with_reducible rfl
   try simp only [Act.put,zA,zB,zC,zD,zE,zF]
   refine zP 1 (v:=?_) ?_ (fun _=>hHeld) ?_
   rotate_left
   ·intro w9;go_simp;try with_reducible rfl
   try simp only [Act.put,zA,zB,zC,zD,zE,zF]
   refine zP 2 (v:=?_) ?_ (fun _=>hHeld) ?_
   rotate_left
   ·intro w9;go_simp;try with_reducible rfl
   try simp only [Act.put,zA,zB,zC,zD,zE,zF]
   refine zP 3 (v:=?_) ?_ (fun _=>hHeld) ?_
   rotate_left
   ·intro w9;go_simp;try with_reducible rfl
   try simp only [Act.put,zA,zB,zC,zD,zE,zF]
   refine zP 5 (v:=?_) ?_ (fun _=>hHeld) ?_
   rotate_left
   ·intro w9;go_simp;try with_reducible rfl
   try simp only [Act.put,zA,zB,zC,zD,zE,zF]
   refine zP 6 (v:=?_) ?_ (fun _=>hHeld) ?_
   rotate_left
   ·intro w9;go_simp;try with_reducible rfl
   try simp only [Act.put,zA,zB,zC,zD,zE,zF]
   refine zP 8 (v:=?_) ?_ (fun _=>hHeld) ?_
   rotate_left
   ·intro w9;go_simp;try with_reducible rfl
   try simp only [Act.put,zA,zB,zC,zD,zE,zF]
   refine zT 4 [11,12,13] (v:=?_) ?_ hHeld ?_
   rotate_left
   ·intro w9 hS9;(try dsimp only at hS9);obtain ⟨q1,q2,q3⟩:=hS9;go_simp;try with_reducible rfl
   try simp only [Act.put,zA,zB,zC,zD,zE,zF]
   refine zT 7 [10,11,12,13] (v:=?_) ?_ hHeld ?_
   rotate_left
   ·intro w9 hS9;(try dsimp only at hS9);obtain ⟨q1,q2,q3⟩:=hS9;go_simp;try with_reducible rfl
   try simp only [Act.put,zA,zB,zC,zD,zE,zF]
   refine zT 9 [10,11,12,13] (v:=?_) ?_ hHeld ?_
   rotate_left
   ·intro w9 hS9;(try dsimp only at hS9);obtain ⟨q1,q2,q3⟩:=hS9;go_simp;try with_reducible rfl
   try simp only [Act.put,zA,zB,zC,zD,zE,zF]
   refine zP 10 (v:=?_) ?_ (fun _=>hHeld) ?_
   rotate_left
   ·intro w9;go_simp;try with_reducible rfl
   try simp only [Act.put,zA,zB,zC,zD,zE,zF]
   refine wpAnyT_next (i:=11) (by kernel_rfl) rfl ?_
   intro K hK
   go_simp
   go_at_call 21
   refine HDO.out.mono ?_
   rintro e w5 ⟨cs,D5,dc5,M5,mc5,rfl,g1,g2,g3,g4⟩
   obtain ⟨X5,xc5,Y5,yc5,rfl,g5,g6⟩:=Told.rep_iff.1 g1
   have G3:Hid (Stays w4 w5 (a.rF x)):=Lib.hid ((Stays.of_below (Below.drew (bself w4)) _).comp g3)
   have G2:=Lib.hid (H4.out.putRcv G3.out g2 g4)
   rw [HX1.out] at G2
   have G5:=Lib.hid g5
   have G6:=Lib.hid g6
   have HS5:=Lib.hid (HSW.out w5 D5 dc5 M5 mc5)
   clear g1 g2 g3 g4 g5 g6
   go_simp
   refine hK.out _ _ (zN (by kernel_rfl)) ?_
   clear hK K
   try simp only [Act.put,zA,zB,zC,zD,zE,zF]
   refine wpAnyT_next (i:=12) (by kernel_rfl) rfl ?_
   intro K hK
   go_simp
   go_at_call 61
   refine (HRP.out _ _ _ _ _ _ _ G2.out.1 G5.out G6.out HS5.out).mono ?_
   rintro e w6 ⟨cs6,a6,rfl,r1,r2,r3,r4⟩
   obtain ⟨Y6,yc6,rfl,r5⟩:=Passed.rep_iff.1 r1
   have R2:=Lib.hid r2
   have R3:=Lib.hid r3
   have R4:=Lib.hid r4
   have R5:=Lib.hid r5
   have z6:=(HZ4.out.stays G3.out (fun e=>HNZ.out (.inr (.inr (.inl e))))).stays r3 (fun e=>by rcases G2.out.2 _ e with e | e;exact HNZ.out e;omega)
   have zd:=z6.get
   have ze:=z6.frozen
   have lz6:=z6.lt
   clear r1 r2 r3 r4 r5 z6
   go_simp
   refine hK.out _ _ (zN (by kernel_rfl)) ?_
   clear hK K
   try simp only [Act.put,zA,zB,zC,zD,zE,zF]
   refine wpAnyT_next (i:=13) (by kernel_rfl) rfl ?_
   intro K hK
   go_simp
   refine hK.out _ _ (zN (by kernel_rfl)) ?_
   clear hK K
   refine wpAnyT_done (by kernel_rfl) ?_ _
   have HFIN:Hid (∀ w',Stays w6 w' (fun k=>k=w.heap.size)→PasRes w B W x a (pp.carry x id) (.returned (.agg #[.int .i64 pc,.bool pp_,.int .i64 pi,.slice Y6 pd.length yc6,.bool pe,.int .i64 pl])) w'):=Lib.hid (fun w' hs=>by
    rw [HCA4.out]
    have h4s:=G3.out.size
    have hn6:∀ q,WF W x2 a6 q→WF W x a q∨w4.heap.size≤q:=fun q hq=>by
     rcases R4.out q hq with e | e
     ·exact G2.out.2 q e
     ·exact .inr (by omega)
    have hs06:Stays w w6 (WF W x a):=((Stays.of_below HB04.out _).trans G3.out (fun q hq e=>.inr (.inr (.inl e)))).trans R3.out (fun q hq e=>by
     rcases G2.out.2 q e with e | e
     ·exact e
     ·omega)
    refine ⟨[.int .i64 pc,.bool pp_,.int .i64 pi,.slice Y6 pd.length yc6,.bool pe,.int .i64 pl],a6,rfl,Passed.rep_iff.2 ⟨Y6,yc6,rfl,?_⟩,R2.out.stays hs (fun q hq e=>?_),hs06.trans hs (fun q hq e=>by omega),fun q hq=>(hn6 q hq).imp (fun e=>e) (fun e=>by omega)⟩
    ·exact R5.out.keep fun q hq=>⟨⟨by omega,Nat.lt_of_lt_of_le hq.2.1 hs.size,hq.2.2⟩,hs.block q hq.2.1 (fun e=>by omega)⟩
    ·subst e
     rcases hn6 _ hq with e | e
     ·exact HNZ.out e
     ·omega)
   clear HRP HSW HSS7 HDO
   go_wp2
   refine bodyPost_ret (v:=.agg #[.int .i64 pc,.bool pp_,.int .i64 pi,.slice Y6 pd.length yc6,.bool pe,.int .i64 pl]) (by simp [results,Try.results59,go_sem, *]) rfl (HFIN.out _ ?_)
   exact Stays.sixP _ _ _ _ _ _ _ _
  ·have q5:decide (0≤fr)=false:=by simpa using k5
   have HCA3:Hid (pp.carry x id=(pp.no 2,x)):=Lib.hid (by rw [HCA2.out,if_pos (by omega)])
   have HNO:=Lib.hid (fun wx=>pipe_no 2 wx)
   have zd:=HZ4.out.get
   have ze:=HZ4.out.frozen
   have HFIN:Hid (∀ wx w',Below w4.heap.size w4 wx→Stays wx w' (fun k=>k=w.heap.size)→PasRes w B W x a (pp.carry x id) (.returned (.agg #[.int .i64 2,.bool false,.int .i64 0,.slice none 0 0,.bool false,.int .i64 0])) w'):=Lib.hid (fun wx w' hb hs=>by
    rw [HCA3.out]
    exact PasRes.plain (r:=(pp.no 2,x)) (a1:=a) rfl (H4.out.next hb) ((Stays.of_below HB04.out _).comp (Stays.of_below hb _)) (fun k hk=>.inl hk) (hs.mono fun k hk e=>⟨by omega,fun e2=>by have:=HWL.out k e2;omega⟩))
   clear HCA HCA2 HCA3 HSS HDN HPL hs4
   go_wp2_with (first
    | (go_at_call 57;((with_reducible refine (HNO.out _).mono ?_);rintro e w5 ⟨rfl,hb5⟩;have z5:=HZ4.out.next hb5;have zd:=z5.get;have ze:=z5.frozen;have lz5:=z5.lt;have HB5:=Lib.hid hb5;clear hb5 z5))
    | fail)
   refine bodyPost_ret (v:=.agg #[.int .i64 2,.bool false,.int .i64 0,.slice none 0 0,.bool false,.int .i64 0]) (by simp [results,Try.results59,go_sem, *]) rfl (HFIN.out _ _ HB5.out ?_)
   exact Stays.sixP _ _ _ _ _ _ _ _
end Go.Proofs.Ytdldfllllgogoaa
