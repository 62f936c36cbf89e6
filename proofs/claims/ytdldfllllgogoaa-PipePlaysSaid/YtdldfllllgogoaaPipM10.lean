/- Texts in one: Seg, Seg2. No condition. -/
import Derived.Test.YtdldfllllgogoaaPipM3
import Derived.Test.YtdldfllllgogoaaPipM1
import Derived.Deep.RegionHeld3
import Derived.RegionTactic
namespace Go.Proofs.Ytdldfllllgogoaa
open Go.RowKit
def Segment.val (s:Segment) (A0:Option Addr) (c0:Nat) (A1:Option Addr) (c1:Nat):Value:=
 .agg #[.int .i64 s.seq,.int .i64 s.ack,.int .i64 s.window,.bool s.syn,.bool s.fin,.bool s.rst,.bool s.acks,.slice A0 s.sacks.length c0,.slice A1 s.data.length c1]
theorem seg_serial_yes (n:Int) (h:0≤n∧n<65536) (w:World):Calls Try.prog 117 #[.int .i64 n] w fun e w'=>e=.returned (.bool true)∧w=w':=by
 obtain ⟨h1,h2⟩:=h
 go_enter Try.func117,Try.ntmps117
 go_wp2
 go_ret
 exact ⟨rfl,rfl⟩
theorem seg_serial_no (n:Int) (h:¬ (0≤n∧n<65536)) (w:World):Calls Try.prog 117 #[.int .i64 n] w fun e w'=>e=.returned (.bool false)∧w=w':=by
 by_cases h1:0≤n
 ·have h2:65536≤n:=by omega
  clear h
  go_enter Try.func117,Try.ntmps117
  go_wp2
  go_ret
  exact ⟨ret_bool (decide_eq_false (by omega)),rfl⟩
 ·have h2:n<0:=by omega
  clear h
  go_enter Try.func117,Try.ntmps117
  go_wp2
  go_ret
  exact ⟨rfl,rfl⟩
theorem ref_serial_yes (n:Int) (h:0≤n∧n<65536) (w:World):Calls Try.prog 30 #[.int .i64 n] w fun e w'=>e=.returned (.bool true)∧w=w':=by
 obtain ⟨h1,h2⟩:=h
 have h3:n≤65535:=by omega
 go_enter Try.func30,Try.ntmps30
 go_wp2
 go_ret
 exact ⟨rfl,rfl⟩
theorem ref_serial_no (n:Int) (h:¬ (0≤n∧n<65536)) (w:World):Calls Try.prog 30 #[.int .i64 n] w fun e w'=>e=.returned (.bool false)∧w=w':=by
 by_cases h1:0≤n
 ·have h2:65535<n:=by omega
  clear h
  go_enter Try.func30,Try.ntmps30
  go_wp2
  go_ret
  exact ⟨ret_bool (decide_eq_false (by omega)),rfl⟩
 ·have h2:n<0:=by omega
  clear h
  go_enter Try.func30,Try.ntmps30
  go_wp2
  go_ret
  exact ⟨rfl,rfl⟩
set_option maxHeartbeats 400000 in
theorem seg_odd_no (x y:Int) (hx:0≤x∧x<65536) (hy:0≤y∧y<65536) (w:World):Calls Try.prog 116 #[.agg #[.int .i64 x,.int .i64 y]] w fun e w'=>e=.returned (.bool false)∧Below w.heap.size w w':=by
 have HX:=Lib.hid hx
 have HY:=Lib.hid hy
 clear hx hy
 go_enter Try.func116,Try.ntmps116
 go_wp2_with (first
  | (go_at_call 117;((with_reducible refine (seg_serial_yes x HX.out _).mono ?_);rintro e w' ⟨rfl,rfl⟩))
  | (go_at_call 117;((with_reducible refine (seg_serial_yes y HY.out _).mono ?_);rintro e w' ⟨rfl,rfl⟩)))
 go_ret
 exact ⟨rfl,(by repeat (first | (with_reducible first | exact Below.refl _ _ | assumption | refine bset ?_ ?_ _ | refine balloc ?_ _ | refine Below.drew ?_ | refine bdrewN ?_ _ | refine bnext ?_ (by with_reducible assumption)) | exact Nat.le_refl _ | (simp;done) | omega | (simp;omega)))⟩
set_option maxHeartbeats 400000 in
theorem seg_odd_yes (x y:Int) (h:¬ (0≤x∧x<65536)∨¬ (0≤y∧y<65536)) (w:World):Calls Try.prog 116 #[.agg #[.int .i64 x,.int .i64 y]] w fun e w'=>e=.returned (.bool true)∧Below w.heap.size w w':=by
 by_cases hx:0≤x∧x<65536
 ·have hy:¬ (0≤y∧y<65536):=by omega
  have HX:=Lib.hid hx
  have HY:=Lib.hid hy
  clear hx hy h
  go_enter Try.func116,Try.ntmps116
  go_wp2_with (first
   | (go_at_call 117;((with_reducible refine (seg_serial_yes x HX.out _).mono ?_);rintro e w' ⟨rfl,rfl⟩))
   | (go_at_call 117;((with_reducible refine (seg_serial_no y HY.out _).mono ?_);rintro e w' ⟨rfl,rfl⟩)))
  go_ret
  exact ⟨rfl,(by repeat (first | (with_reducible first | exact Below.refl _ _ | assumption | refine bset ?_ ?_ _ | refine balloc ?_ _ | refine Below.drew ?_ | refine bdrewN ?_ _ | refine bnext ?_ (by with_reducible assumption)) | exact Nat.le_refl _ | (simp;done) | omega | (simp;omega)))⟩
 ·have HX:=Lib.hid hx
  clear hx h
  go_enter Try.func116,Try.ntmps116
  go_wp2_with (go_at_call 117;((with_reducible refine (seg_serial_no x HX.out _).mono ?_);rintro e w' ⟨rfl,rfl⟩))
  go_ret
  exact ⟨rfl,(by repeat (first | (with_reducible first | exact Below.refl _ _ | assumption | refine bset ?_ ?_ _ | refine balloc ?_ _ | refine Below.drew ?_ | refine bdrewN ?_ _ | refine bnext ?_ (by with_reducible assumption)) | exact Nat.le_refl _ | (simp;done) | omega | (simp;omega)))⟩
def IdxPostS (b:Bool) (w:World) (e:Ending) (w':World):Prop:=(∃ n:Int,e=.returned (.int .i64 n) ∧ -1≤n∧n≤3∧(0≤n↔b=false))∧Below w.heap.size w w'
theorem IdxPostS.mk {b:Bool} {w w':World} {e:Ending} (n:Int) (h:e=.returned (.int .i64 n)) (h1:-1≤n) (h2:n≤3) (h3:0≤n↔b=false) (hb:Below w.heap.size w w'):IdxPostS b w e w':=⟨⟨n,h,h1,h2,h3⟩,hb⟩
set_option maxHeartbeats 1000000 in
theorem seg_index (l:List Rng) (A:Option Addr) (c:Nat) (w:World) (hl:SlRep Rng.rep w (· < w.heap.size) l A c) (hn:l.length≤3) :
  Calls Try.prog 98 #[.slice A l.length c,.func (.func 116) #[] #[]] w (IdxPostS (l.all sg.rngOk) w):=by
 have HL:=Lib.hid hl
 clear hl
 go_enter Try.func98,Try.ntmps98
 go_wp2
 go_loopw [5,8] (fun _ i wr=>∃ k:Nat,k≤l.length∧i=.int .i64 k∧Hid (∀ j,j<k→sg.rngOk (l.getD j ⟨0,0⟩)=true)∧Below w.heap.size w wr) (fun _ i _=>l.length - (intOf i).toNat)
 case atStart=>exact ⟨0,by omega,rfl,Lib.hid (fun j hj=>by omega),Below.refl _ _⟩
 case round=>
  obtain ⟨k,hk,rfl,HA,hB⟩:=hrel
  rename World=>wr
  by_cases hlt:k<l.length
  ·obtain ⟨b,o,rfl,hb,hc1,hc2⟩:=Rng.cells_at ⟨0,0⟩ (HL.out.below hB) hlt
   have hbw:b<wr.heap.size:=Nat.lt_of_lt_of_le hb hB.size
   have HI:=Lib.hid (@sg.rngOk_iff (l.getD k ⟨0,0⟩))
   have HN:Hid (sg.rngOk (l.getD k ⟨0,0⟩)=true→∀ j,j<k+1→sg.rngOk (l.getD j ⟨0,0⟩)=true):=Lib.hid (fun h j hj=>by
    rcases Nat.lt_or_ge j k with h' | h'
    ·exact HA.out j h'
    ·obtain rfl:j=k:=by omega
     exact h)
   have HF:Hid (sg.rngOk (l.getD k ⟨0,0⟩)=false→l.all sg.rngOk=false):=Lib.hid (fun h=>sg.all_false hlt ⟨0,0⟩ h)
   clear HL HA
   generalize l.getD k ⟨0,0⟩=r at *
   by_cases hr:(0≤r.lo∧r.lo<65536)∧(0≤r.hi∧r.hi<65536)
   ·have HR:=Lib.hid hr
    clear hr
    go_wp2_with (go_at_call 116;((with_reducible refine (seg_odd_no r.lo r.hi HR.out.1 HR.out.2 _).mono ?_);rintro e w2 ⟨rfl,hb2⟩))
    go_roundw
    case rel=>exact ⟨k+1,by omega,by go_num,Lib.hid (HN.out (HI.out.2 HR.out)),bnext hB hb2⟩
    case measure=>simp [intOf];omega
   ·have HR:Hid (¬ (0≤r.lo∧r.lo<65536)∨¬ (0≤r.hi∧r.hi<65536)):=Lib.hid (by omega)
    have HR2:Hid (sg.rngOk r=false):=Lib.hid (by cases e:sg.rngOk r with | false=>rfl | true=>exact absurd (HI.out.1 e) hr)
    clear hr
    go_wp2_with (go_at_call 116;((with_reducible refine (seg_odd_yes r.lo r.hi HR.out _).mono ?_);rintro e w2 ⟨rfl,hb2⟩))
    go_ret
    exact IdxPostS.mk k rfl (by omega) (by omega) ⟨fun _=>HF.out HR2.out,fun _=>by omega⟩ (bnext hB hb2)
  ·obtain rfl:k=l.length:=by omega
   have HT:Hid (l.all sg.rngOk=true):=Lib.hid (sg.all_of ⟨0,0⟩ HA.out)
   clear HA HL
   go_wp2
   go_ret
   exact IdxPostS.mk (-1) rfl (by omega) (by omega) ⟨fun h=>by omega,fun h=>by rw [HT.out] at h;cases h⟩ hB
set_option maxHeartbeats 400000 in
theorem seg_contains_yes (l:List Rng) (A:Option Addr) (c:Nat) (w:World) (hl:SlRep Rng.rep w (· < w.heap.size) l A c) (hn:l.length≤3) (h:l.all sg.rngOk=false) :
  Calls Try.prog 77 #[.slice A l.length c,.func (.func 116) #[] #[]] w fun e w'=>e=.returned (.bool true)∧Below w.heap.size w w':=by
 have HI:=Lib.hid (seg_index l A c w hl hn)
 have HH:=Lib.hid h
 clear hl h
 go_enter Try.func77,Try.ntmps77
 go_wp2_with (go_at_call 98;refine HI.out.mono ?_;rintro e w2 ⟨⟨n,rfl,h1,h2,h3⟩,hb2⟩;have h4:0≤n:=h3.2 HH.out;clear h3)
 go_ret
 exact ⟨rfl,hb2⟩
set_option maxHeartbeats 400000 in
theorem seg_contains_no (l:List Rng) (A:Option Addr) (c:Nat) (w:World) (hl:SlRep Rng.rep w (· < w.heap.size) l A c) (hn:l.length≤3) (h:l.all sg.rngOk=true) :
  Calls Try.prog 77 #[.slice A l.length c,.func (.func 116) #[] #[]] w fun e w'=>e=.returned (.bool false)∧Below w.heap.size w w':=by
 have HI:=Lib.hid (seg_index l A c w hl hn)
 have HH:=Lib.hid h
 clear hl h
 go_enter Try.func77,Try.ntmps77
 go_wp2_with (go_at_call 98;refine HI.out.mono ?_;rintro e w2 ⟨⟨n,rfl,h1,h2,h3⟩,hb2⟩;have h4:n<0:=Int.not_le.1 (fun h=>by rw [HH.out] at h3;exact absurd (h3.1 h) (by simp));clear h3)
 go_ret
 exact ⟨ret_bool (decide_eq_false (by omega)),hb2⟩
set_option maxRecDepth 100000 in
set_option maxHeartbeats 2000000 in
theorem seg_fault (s:Segment) (A0 A1:Option Addr) (c0 c1:Nat) (w:World) (h0:SlRep Rng.rep w (· < w.heap.size) s.sacks A0 c0) (hn0:s.sacks.length≤140737488351232) (hn1:s.data.length≤140737488351232) :
  Calls Try.prog 109 #[s.val A0 c0 A1 c1] w fun e w'=>e=.returned (.int .i64 (sg.fault s))∧Below w.heap.size w w':=by
 have H0:=Lib.hid h0
 clear h0
 have HFT:Hid (sg.fault s=if sg.bad1 s then 2 else if 3<s.sacks.length∨64<s.data.length then 1 else if s.sacks.all sg.rngOk=false then 2 else if sg.bad4 s then 4 else 0):=Lib.hid rfl
 have HB1:Hid (sg.bad1 s↔¬ (0≤s.seq∧s.seq<65536)∨¬ (0≤s.ack∧s.ack<65536)∨s.window<0∨65535<s.window):=Lib.hid Iff.rfl
 have HB4:Hid (sg.bad4 s↔s.acks=false∧(s.ack≠0∨s.window≠0∨s.sacks.length≠0)):=Lib.hid Iff.rfl
 unfold Segment.val
 have HE:=Lib.hid (fun (x:Int) (h:sg.fault s=x)=>h)
 obtain ⟨seq,ack,window,syn,fin,rst,acks,sacks,data⟩:=s
 dsimp only at *
 by_cases hq:0≤seq∧seq<65536
 ·have HQ:=Lib.hid hq
  by_cases ha:0≤ack∧ack<65536
  ·have HA:=Lib.hid ha
   by_cases hw:window<0
   ·have HR:Hid (sg.fault ⟨seq,ack,window,syn,fin,rst,acks,sacks,data⟩=2):=Lib.hid (by rw [HFT.out,if_pos (HB1.out.2 (.inr (.inr (.inl hw))))])
    clear H0 HFT HB1 HB4 HE
    have HG:=Lib.hid (ret_int (k:=.i64) HR.out)
    clear hq ha
    go_enter Try.func109,Try.ntmps109
    go_wp2_with (first | (go_at_call 117;((with_reducible refine (seg_serial_yes seq HQ.out _).mono ?_);rintro e w' ⟨rfl,rfl⟩)) | (go_at_call 117;((with_reducible refine (seg_serial_yes ack HA.out _).mono ?_);rintro e w' ⟨rfl,rfl⟩)))
    go_ret
    exact ⟨HG.out.symm,(by repeat (first | (with_reducible first | exact Below.refl _ _ | assumption | refine bset ?_ ?_ _ | refine balloc ?_ _ | refine Below.drew ?_ | refine bdrewN ?_ _ | refine bnext ?_ (by with_reducible assumption)) | exact Nat.le_refl _ | (simp;done) | omega | (simp;omega)))⟩
   ·by_cases hw2:65535<window
    ·have HR:Hid (sg.fault ⟨seq,ack,window,syn,fin,rst,acks,sacks,data⟩=2):=Lib.hid (by rw [HFT.out,if_pos (HB1.out.2 (.inr (.inr (.inr hw2))))])
     clear H0 HFT HB1 HB4 HE
     have HG:=Lib.hid (ret_int (k:=.i64) HR.out)
     clear hq ha
     go_enter Try.func109,Try.ntmps109
     go_wp2_with (first | (go_at_call 117;((with_reducible refine (seg_serial_yes seq HQ.out _).mono ?_);rintro e w' ⟨rfl,rfl⟩)) | (go_at_call 117;((with_reducible refine (seg_serial_yes ack HA.out _).mono ?_);rintro e w' ⟨rfl,rfl⟩)))
     go_ret
     exact ⟨HG.out.symm,(by repeat (first | (with_reducible first | exact Below.refl _ _ | assumption | refine bset ?_ ?_ _ | refine balloc ?_ _ | refine Below.drew ?_ | refine bdrewN ?_ _ | refine bnext ?_ (by with_reducible assumption)) | exact Nat.le_refl _ | (simp;done) | omega | (simp;omega)))⟩
    ·have hw':0≤window:=by omega
     have hw2':window≤65535:=by omega
     have HN1:Hid (¬ sg.bad1 ⟨seq,ack,window,syn,fin,rst,acks,sacks,data⟩):=Lib.hid (fun h=>by rcases HB1.out.1 h with h | h | h | h;exact h hq;exact h ha;exact hw h;exact hw2 h)
     clear hq ha hw hw2
     by_cases hs:3<sacks.length
     ·have HR:Hid (sg.fault ⟨seq,ack,window,syn,fin,rst,acks,sacks,data⟩=1):=Lib.hid (by rw [HFT.out,if_neg HN1.out,if_pos (.inl hs)])
      clear H0 HFT HB1 HB4 HE HN1
      have HG:=Lib.hid (ret_int (k:=.i64) HR.out)
      go_enter Try.func109,Try.ntmps109
      go_wp2_with (first | (go_at_call 117;((with_reducible refine (seg_serial_yes seq HQ.out _).mono ?_);rintro e w' ⟨rfl,rfl⟩)) | (go_at_call 117;((with_reducible refine (seg_serial_yes ack HA.out _).mono ?_);rintro e w' ⟨rfl,rfl⟩)))
      go_ret
      exact ⟨HG.out.symm,(by repeat (first | (with_reducible first | exact Below.refl _ _ | assumption | refine bset ?_ ?_ _ | refine balloc ?_ _ | refine Below.drew ?_ | refine bdrewN ?_ _ | refine bnext ?_ (by with_reducible assumption)) | exact Nat.le_refl _ | (simp;done) | omega | (simp;omega)))⟩
     ·by_cases hd:64<data.length
      ·have HR:Hid (sg.fault ⟨seq,ack,window,syn,fin,rst,acks,sacks,data⟩=1):=Lib.hid (by rw [HFT.out,if_neg HN1.out,if_pos (.inr hd)])
       clear HFT HB1 HB4 HE HN1
       have HG:=Lib.hid (ret_int (k:=.i64) HR.out)
       have hs':sacks.length≤3:=by omega
       go_enter Try.func109,Try.ntmps109
       go_wp2_with (first | (go_at_call 117;((with_reducible refine (seg_serial_yes seq HQ.out _).mono ?_);rintro e w' ⟨rfl,rfl⟩)) | (go_at_call 117;((with_reducible refine (seg_serial_yes ack HA.out _).mono ?_);rintro e w' ⟨rfl,rfl⟩)))
       go_ret
       exact ⟨HG.out.symm,(by repeat (first | (with_reducible first | exact Below.refl _ _ | assumption | refine bset ?_ ?_ _ | refine balloc ?_ _ | refine Below.drew ?_ | refine bdrewN ?_ _ | refine bnext ?_ (by with_reducible assumption)) | exact Nat.le_refl _ | (simp;done) | omega | (simp;omega)))⟩
      ·have hs':sacks.length≤3:=by omega
       have hd':data.length≤64:=by omega
       have HN2:Hid (¬ (3<sacks.length∨64<data.length)):=Lib.hid (by omega)
       clear hs hd
       cases hall:sacks.all sg.rngOk with
       | false=>
        have HALL:=Lib.hid hall
        have HR:Hid (sg.fault ⟨seq,ack,window,syn,fin,rst,acks,sacks,data⟩=2):=Lib.hid (by rw [HFT.out,if_neg HN1.out,if_neg HN2.out,if_pos HALL.out])
        clear HFT HB1 HB4 HE HN1 HN2
        have HG:=Lib.hid (ret_int (k:=.i64) HR.out)
        clear hall
        go_enter Try.func109,Try.ntmps109
        go_wp2_with (first | (go_at_call 117;((with_reducible refine (seg_serial_yes seq HQ.out _).mono ?_);rintro e w' ⟨rfl,rfl⟩)) | (go_at_call 117;((with_reducible refine (seg_serial_yes ack HA.out _).mono ?_);rintro e w' ⟨rfl,rfl⟩)) | (go_at_call 77;refine (seg_contains_yes sacks A0 c0 _ (H0.out.next (by repeat (first | (with_reducible first | exact Below.refl _ _ | assumption | refine bset ?_ ?_ _ | refine balloc ?_ _ | refine Below.drew ?_ | refine bdrewN ?_ _ | refine bnext ?_ (by with_reducible assumption)) | exact Nat.le_refl _ | (simp;done) | omega | (simp;omega)))) hs' HALL.out).mono ?_;rintro e w2 ⟨rfl,hb2⟩;have B2:Below w.heap.size w w2:=(by repeat (first | (with_reducible first | exact Below.refl _ _ | assumption | refine bset ?_ ?_ _ | refine balloc ?_ _ | refine Below.drew ?_ | refine bdrewN ?_ _ | refine bnext ?_ (by with_reducible assumption)) | exact Nat.le_refl _ | (simp;done) | omega | (simp;omega)));have ha2:∀ b o,b<w.heap.size→w2.cell? ⟨b,o,none⟩=w.cell? ⟨b,o,none⟩:=fun b o h=>B2.cell (p:=⟨b,o,none⟩) h;have hk2:∀ k,k<w.heap.size→k<w2.heap.size:=fun _ h=>Nat.lt_of_lt_of_le h B2.size;have hz2:=hb2.size;(try simp at hz2);have hl2_w0:w.heap.size<w2.heap.size:=Nat.lt_of_lt_of_le (by first | (simp;done) | (simp;omega) | omega) hb2.size;have hc2_w0:=fun o=>hb2.cell (p:=⟨w.heap.size,o,none⟩) (by first | (simp;done) | (simp;omega) | omega);have hf2_w0:=fun o=>hb2.frozen (p:=⟨w.heap.size,o,none⟩) (by first | (simp;done) | (simp;omega) | omega);(try simp [go_sem, *] at hc2_w0);(try simp [go_sem, *] at hf2_w0);clear hb2))
        go_ret
        exact ⟨HG.out.symm,(by repeat (first | (with_reducible first | exact Below.refl _ _ | assumption | refine bset ?_ ?_ _ | refine balloc ?_ _ | refine Below.drew ?_ | refine bdrewN ?_ _ | refine bnext ?_ (by with_reducible assumption)) | exact Nat.le_refl _ | (simp;done) | omega | (simp;omega)))⟩
       | true=>
        have HALL:=Lib.hid hall
        have HN3:Hid (¬ (sacks.all sg.rngOk=false)):=Lib.hid (by rw [hall];simp)
        clear hall
        have HX4:Hid (∀ x:Int,(if sg.bad4 ⟨seq,ack,window,syn,fin,rst,acks,sacks,data⟩ then (4:Int) else 0)=x→sg.fault ⟨seq,ack,window,syn,fin,rst,acks,sacks,data⟩=x):=Lib.hid (fun x hx=>by rw [HFT.out,if_neg HN1.out,if_neg HN2.out,if_neg HN3.out,hx])
        cases acks with
        | true=>
         have HR:Hid (sg.fault ⟨seq,ack,window,syn,fin,rst,true,sacks,data⟩=0):=Lib.hid (by exact HX4.out 0 (if_neg (fun h=>by have:=(HB4.out.1 h).1;cases this)))
         clear HFT HB1 HB4 HE HN1 HN2 HN3 HX4
         have HG:=Lib.hid (ret_int (k:=.i64) HR.out)
         go_enter Try.func109,Try.ntmps109
         go_wp2_with (first | (go_at_call 117;((with_reducible refine (seg_serial_yes seq HQ.out _).mono ?_);rintro e w' ⟨rfl,rfl⟩)) | (go_at_call 117;((with_reducible refine (seg_serial_yes ack HA.out _).mono ?_);rintro e w' ⟨rfl,rfl⟩)) | (go_at_call 77;refine (seg_contains_no sacks A0 c0 _ (H0.out.next (by repeat (first | (with_reducible first | exact Below.refl _ _ | assumption | refine bset ?_ ?_ _ | refine balloc ?_ _ | refine Below.drew ?_ | refine bdrewN ?_ _ | refine bnext ?_ (by with_reducible assumption)) | exact Nat.le_refl _ | (simp;done) | omega | (simp;omega)))) hs' HALL.out).mono ?_;rintro e w2 ⟨rfl,hb2⟩;have B2:Below w.heap.size w w2:=(by repeat (first | (with_reducible first | exact Below.refl _ _ | assumption | refine bset ?_ ?_ _ | refine balloc ?_ _ | refine Below.drew ?_ | refine bdrewN ?_ _ | refine bnext ?_ (by with_reducible assumption)) | exact Nat.le_refl _ | (simp;done) | omega | (simp;omega)));have ha2:∀ b o,b<w.heap.size→w2.cell? ⟨b,o,none⟩=w.cell? ⟨b,o,none⟩:=fun b o h=>B2.cell (p:=⟨b,o,none⟩) h;have hk2:∀ k,k<w.heap.size→k<w2.heap.size:=fun _ h=>Nat.lt_of_lt_of_le h B2.size;have hz2:=hb2.size;(try simp at hz2);have hl2_w0:w.heap.size<w2.heap.size:=Nat.lt_of_lt_of_le (by first | (simp;done) | (simp;omega) | omega) hb2.size;have hc2_w0:=fun o=>hb2.cell (p:=⟨w.heap.size,o,none⟩) (by first | (simp;done) | (simp;omega) | omega);have hf2_w0:=fun o=>hb2.frozen (p:=⟨w.heap.size,o,none⟩) (by first | (simp;done) | (simp;omega) | omega);(try simp [go_sem, *] at hc2_w0);(try simp [go_sem, *] at hf2_w0);clear hb2))
         go_ret
         exact ⟨HG.out.symm,(by repeat (first | (with_reducible first | exact Below.refl _ _ | assumption | refine bset ?_ ?_ _ | refine balloc ?_ _ | refine Below.drew ?_ | refine bdrewN ?_ _ | refine bnext ?_ (by with_reducible assumption)) | exact Nat.le_refl _ | (simp;done) | omega | (simp;omega)))⟩
        | false=>
         by_cases z1:ack=0
         ·have Z1:=Lib.hid z1
          clear z1
          have hba1:(ack == 0)=true:=by rw [beq_iff_eq];exact Z1.out
          have hba2:(ack != 0)=false:=by rw [bne,hba1];rfl
          by_cases z2:window=0
          ·have Z2:=Lib.hid z2
           clear z2
           have hbw1:(window == 0)=true:=by rw [beq_iff_eq];exact Z2.out
           have hbw2:(window != 0)=false:=by rw [bne,hbw1];rfl
           by_cases z3:0<sacks.length
           ·have HR:Hid (sg.fault ⟨seq,ack,window,syn,fin,rst,false,sacks,data⟩=4):=Lib.hid (by exact HX4.out 4 (if_pos (HB4.out.2 ⟨rfl,.inr (.inr (by omega))⟩)))
            clear HFT HB1 HB4 HE HN1 HN2 HN3 HX4
            have HG:=Lib.hid (ret_int (k:=.i64) HR.out)
            go_enter Try.func109,Try.ntmps109
            go_wp2_with (first | (go_at_call 117;((with_reducible refine (seg_serial_yes seq HQ.out _).mono ?_);rintro e w' ⟨rfl,rfl⟩)) | (go_at_call 117;((with_reducible refine (seg_serial_yes ack HA.out _).mono ?_);rintro e w' ⟨rfl,rfl⟩)) | (go_at_call 77;refine (seg_contains_no sacks A0 c0 _ (H0.out.next (by repeat (first | (with_reducible first | exact Below.refl _ _ | assumption | refine bset ?_ ?_ _ | refine balloc ?_ _ | refine Below.drew ?_ | refine bdrewN ?_ _ | refine bnext ?_ (by with_reducible assumption)) | exact Nat.le_refl _ | (simp;done) | omega | (simp;omega)))) hs' HALL.out).mono ?_;rintro e w2 ⟨rfl,hb2⟩;have B2:Below w.heap.size w w2:=(by repeat (first | (with_reducible first | exact Below.refl _ _ | assumption | refine bset ?_ ?_ _ | refine balloc ?_ _ | refine Below.drew ?_ | refine bdrewN ?_ _ | refine bnext ?_ (by with_reducible assumption)) | exact Nat.le_refl _ | (simp;done) | omega | (simp;omega)));have ha2:∀ b o,b<w.heap.size→w2.cell? ⟨b,o,none⟩=w.cell? ⟨b,o,none⟩:=fun b o h=>B2.cell (p:=⟨b,o,none⟩) h;have hk2:∀ k,k<w.heap.size→k<w2.heap.size:=fun _ h=>Nat.lt_of_lt_of_le h B2.size;have hz2:=hb2.size;(try simp at hz2);have hl2_w0:w.heap.size<w2.heap.size:=Nat.lt_of_lt_of_le (by first | (simp;done) | (simp;omega) | omega) hb2.size;have hc2_w0:=fun o=>hb2.cell (p:=⟨w.heap.size,o,none⟩) (by first | (simp;done) | (simp;omega) | omega);have hf2_w0:=fun o=>hb2.frozen (p:=⟨w.heap.size,o,none⟩) (by first | (simp;done) | (simp;omega) | omega);(try simp [go_sem, *] at hc2_w0);(try simp [go_sem, *] at hf2_w0);clear hb2))
            go_ret
            exact ⟨HG.out.symm,(by repeat (first | (with_reducible first | exact Below.refl _ _ | assumption | refine bset ?_ ?_ _ | refine balloc ?_ _ | refine Below.drew ?_ | refine bdrewN ?_ _ | refine bnext ?_ (by with_reducible assumption)) | exact Nat.le_refl _ | (simp;done) | omega | (simp;omega)))⟩
           ·have HR:Hid (sg.fault ⟨seq,ack,window,syn,fin,rst,false,sacks,data⟩=0):=Lib.hid (by exact HX4.out 0 (if_neg (fun h=>by rcases (HB4.out.1 h).2 with h | h | h;exact h Z1.out;exact h Z2.out;exact h (by omega))))
            clear HFT HB1 HB4 HE HN1 HN2 HN3 HX4
            have HG:=Lib.hid (ret_int (k:=.i64) HR.out)
            have z3':sacks.length≤0:=by omega
            go_enter Try.func109,Try.ntmps109
            go_wp2_with (first | (go_at_call 117;((with_reducible refine (seg_serial_yes seq HQ.out _).mono ?_);rintro e w' ⟨rfl,rfl⟩)) | (go_at_call 117;((with_reducible refine (seg_serial_yes ack HA.out _).mono ?_);rintro e w' ⟨rfl,rfl⟩)) | (go_at_call 77;refine (seg_contains_no sacks A0 c0 _ (H0.out.next (by repeat (first | (with_reducible first | exact Below.refl _ _ | assumption | refine bset ?_ ?_ _ | refine balloc ?_ _ | refine Below.drew ?_ | refine bdrewN ?_ _ | refine bnext ?_ (by with_reducible assumption)) | exact Nat.le_refl _ | (simp;done) | omega | (simp;omega)))) hs' HALL.out).mono ?_;rintro e w2 ⟨rfl,hb2⟩;have B2:Below w.heap.size w w2:=(by repeat (first | (with_reducible first | exact Below.refl _ _ | assumption | refine bset ?_ ?_ _ | refine balloc ?_ _ | refine Below.drew ?_ | refine bdrewN ?_ _ | refine bnext ?_ (by with_reducible assumption)) | exact Nat.le_refl _ | (simp;done) | omega | (simp;omega)));have ha2:∀ b o,b<w.heap.size→w2.cell? ⟨b,o,none⟩=w.cell? ⟨b,o,none⟩:=fun b o h=>B2.cell (p:=⟨b,o,none⟩) h;have hk2:∀ k,k<w.heap.size→k<w2.heap.size:=fun _ h=>Nat.lt_of_lt_of_le h B2.size;have hz2:=hb2.size;(try simp at hz2);have hl2_w0:w.heap.size<w2.heap.size:=Nat.lt_of_lt_of_le (by first | (simp;done) | (simp;omega) | omega) hb2.size;have hc2_w0:=fun o=>hb2.cell (p:=⟨w.heap.size,o,none⟩) (by first | (simp;done) | (simp;omega) | omega);have hf2_w0:=fun o=>hb2.frozen (p:=⟨w.heap.size,o,none⟩) (by first | (simp;done) | (simp;omega) | omega);(try simp [go_sem, *] at hc2_w0);(try simp [go_sem, *] at hf2_w0);clear hb2))
            go_ret
            exact ⟨HG.out.symm,(by repeat (first | (with_reducible first | exact Below.refl _ _ | assumption | refine bset ?_ ?_ _ | refine balloc ?_ _ | refine Below.drew ?_ | refine bdrewN ?_ _ | refine bnext ?_ (by with_reducible assumption)) | exact Nat.le_refl _ | (simp;done) | omega | (simp;omega)))⟩
          ·have Z2:=Lib.hid z2
           clear z2
           have hbw1:(window == 0)=false:=by rw [beq_eq_false_iff_ne];exact Z2.out
           have hbw2:(window != 0)=true:=by rw [bne,hbw1];rfl
           have HR:Hid (sg.fault ⟨seq,ack,window,syn,fin,rst,false,sacks,data⟩=4):=Lib.hid (by exact HX4.out 4 (if_pos (HB4.out.2 ⟨rfl,.inr (.inl Z2.out)⟩)))
           clear HFT HB1 HB4 HE HN1 HN2 HN3 HX4
           have HG:=Lib.hid (ret_int (k:=.i64) HR.out)
           go_enter Try.func109,Try.ntmps109
           go_wp2_with (first | (go_at_call 117;((with_reducible refine (seg_serial_yes seq HQ.out _).mono ?_);rintro e w' ⟨rfl,rfl⟩)) | (go_at_call 117;((with_reducible refine (seg_serial_yes ack HA.out _).mono ?_);rintro e w' ⟨rfl,rfl⟩)) | (go_at_call 77;refine (seg_contains_no sacks A0 c0 _ (H0.out.next (by repeat (first | (with_reducible first | exact Below.refl _ _ | assumption | refine bset ?_ ?_ _ | refine balloc ?_ _ | refine Below.drew ?_ | refine bdrewN ?_ _ | refine bnext ?_ (by with_reducible assumption)) | exact Nat.le_refl _ | (simp;done) | omega | (simp;omega)))) hs' HALL.out).mono ?_;rintro e w2 ⟨rfl,hb2⟩;have B2:Below w.heap.size w w2:=(by repeat (first | (with_reducible first | exact Below.refl _ _ | assumption | refine bset ?_ ?_ _ | refine balloc ?_ _ | refine Below.drew ?_ | refine bdrewN ?_ _ | refine bnext ?_ (by with_reducible assumption)) | exact Nat.le_refl _ | (simp;done) | omega | (simp;omega)));have ha2:∀ b o,b<w.heap.size→w2.cell? ⟨b,o,none⟩=w.cell? ⟨b,o,none⟩:=fun b o h=>B2.cell (p:=⟨b,o,none⟩) h;have hk2:∀ k,k<w.heap.size→k<w2.heap.size:=fun _ h=>Nat.lt_of_lt_of_le h B2.size;have hz2:=hb2.size;(try simp at hz2);have hl2_w0:w.heap.size<w2.heap.size:=Nat.lt_of_lt_of_le (by first | (simp;done) | (simp;omega) | omega) hb2.size;have hc2_w0:=fun o=>hb2.cell (p:=⟨w.heap.size,o,none⟩) (by first | (simp;done) | (simp;omega) | omega);have hf2_w0:=fun o=>hb2.frozen (p:=⟨w.heap.size,o,none⟩) (by first | (simp;done) | (simp;omega) | omega);(try simp [go_sem, *] at hc2_w0);(try simp [go_sem, *] at hf2_w0);clear hb2))
           go_ret
           exact ⟨HG.out.symm,(by repeat (first | (with_reducible first | exact Below.refl _ _ | assumption | refine bset ?_ ?_ _ | refine balloc ?_ _ | refine Below.drew ?_ | refine bdrewN ?_ _ | refine bnext ?_ (by with_reducible assumption)) | exact Nat.le_refl _ | (simp;done) | omega | (simp;omega)))⟩
         ·have Z1:=Lib.hid z1
          clear z1
          have hba1:(ack == 0)=false:=by rw [beq_eq_false_iff_ne];exact Z1.out
          have hba2:(ack != 0)=true:=by rw [bne,hba1];rfl
          have HR:Hid (sg.fault ⟨seq,ack,window,syn,fin,rst,false,sacks,data⟩=4):=Lib.hid (by exact HX4.out 4 (if_pos (HB4.out.2 ⟨rfl,.inl Z1.out⟩)))
          clear HFT HB1 HB4 HE HN1 HN2 HN3 HX4
          have HG:=Lib.hid (ret_int (k:=.i64) HR.out)
          go_enter Try.func109,Try.ntmps109
          go_wp2_with (first | (go_at_call 117;((with_reducible refine (seg_serial_yes seq HQ.out _).mono ?_);rintro e w' ⟨rfl,rfl⟩)) | (go_at_call 117;((with_reducible refine (seg_serial_yes ack HA.out _).mono ?_);rintro e w' ⟨rfl,rfl⟩)) | (go_at_call 77;refine (seg_contains_no sacks A0 c0 _ (H0.out.next (by repeat (first | (with_reducible first | exact Below.refl _ _ | assumption | refine bset ?_ ?_ _ | refine balloc ?_ _ | refine Below.drew ?_ | refine bdrewN ?_ _ | refine bnext ?_ (by with_reducible assumption)) | exact Nat.le_refl _ | (simp;done) | omega | (simp;omega)))) hs' HALL.out).mono ?_;rintro e w2 ⟨rfl,hb2⟩;have B2:Below w.heap.size w w2:=(by repeat (first | (with_reducible first | exact Below.refl _ _ | assumption | refine bset ?_ ?_ _ | refine balloc ?_ _ | refine Below.drew ?_ | refine bdrewN ?_ _ | refine bnext ?_ (by with_reducible assumption)) | exact Nat.le_refl _ | (simp;done) | omega | (simp;omega)));have ha2:∀ b o,b<w.heap.size→w2.cell? ⟨b,o,none⟩=w.cell? ⟨b,o,none⟩:=fun b o h=>B2.cell (p:=⟨b,o,none⟩) h;have hk2:∀ k,k<w.heap.size→k<w2.heap.size:=fun _ h=>Nat.lt_of_lt_of_le h B2.size;have hz2:=hb2.size;(try simp at hz2);have hl2_w0:w.heap.size<w2.heap.size:=Nat.lt_of_lt_of_le (by first | (simp;done) | (simp;omega) | omega) hb2.size;have hc2_w0:=fun o=>hb2.cell (p:=⟨w.heap.size,o,none⟩) (by first | (simp;done) | (simp;omega) | omega);have hf2_w0:=fun o=>hb2.frozen (p:=⟨w.heap.size,o,none⟩) (by first | (simp;done) | (simp;omega) | omega);(try simp [go_sem, *] at hc2_w0);(try simp [go_sem, *] at hf2_w0);clear hb2))
          go_ret
          exact ⟨HG.out.symm,(by repeat (first | (with_reducible first | exact Below.refl _ _ | assumption | refine bset ?_ ?_ _ | refine balloc ?_ _ | refine Below.drew ?_ | refine bdrewN ?_ _ | refine bnext ?_ (by with_reducible assumption)) | exact Nat.le_refl _ | (simp;done) | omega | (simp;omega)))⟩
  ·have HA:=Lib.hid ha
   have HR:Hid (sg.fault ⟨seq,ack,window,syn,fin,rst,acks,sacks,data⟩=2):=Lib.hid (by rw [HFT.out,if_pos (HB1.out.2 (.inr (.inl ha)))])
   clear H0 HFT HB1 HB4 HE
   have HG:=Lib.hid (ret_int (k:=.i64) HR.out)
   clear hq ha
   go_enter Try.func109,Try.ntmps109
   go_wp2_with (first | (go_at_call 117;((with_reducible refine (seg_serial_yes seq HQ.out _).mono ?_);rintro e w' ⟨rfl,rfl⟩)) | (go_at_call 117;((with_reducible refine (seg_serial_no ack HA.out _).mono ?_);rintro e w' ⟨rfl,rfl⟩)))
   go_ret
   exact ⟨HG.out.symm,(by repeat (first | (with_reducible first | exact Below.refl _ _ | assumption | refine bset ?_ ?_ _ | refine balloc ?_ _ | refine Below.drew ?_ | refine bdrewN ?_ _ | refine bnext ?_ (by with_reducible assumption)) | exact Nat.le_refl _ | (simp;done) | omega | (simp;omega)))⟩
 ·have HQ:=Lib.hid hq
  have HR:Hid (sg.fault ⟨seq,ack,window,syn,fin,rst,acks,sacks,data⟩=2):=Lib.hid (by rw [HFT.out,if_pos (HB1.out.2 (.inl hq))])
  clear H0 HFT HB1 HB4 HE
  have HG:=Lib.hid (ret_int (k:=.i64) HR.out)
  clear hq
  go_enter Try.func109,Try.ntmps109
  go_wp2_with (first | (go_at_call 117;((with_reducible refine (seg_serial_no seq HQ.out _).mono ?_);rintro e w' ⟨rfl,rfl⟩)))
  go_ret
  exact ⟨HG.out.symm,(by repeat (first | (with_reducible first | exact Below.refl _ _ | assumption | refine bset ?_ ?_ _ | refine balloc ?_ _ | refine Below.drew ?_ | refine bdrewN ?_ _ | refine bnext ?_ (by with_reducible assumption)) | exact Nat.le_refl _ | (simp;done) | omega | (simp;omega)))⟩
set_option maxRecDepth 100000 in
set_option maxHeartbeats 2000000 in
theorem ref_segFault (s:Segment) (A0 A1:Option Addr) (c0 c1:Nat) (w:World) (h0:SlRep Rng.rep w (· < w.heap.size) s.sacks A0 c0) (hn0:s.sacks.length≤140737488351232) (hn1:s.data.length≤140737488351232) :
  Calls Try.prog 105 #[s.val A0 c0 A1 c1] w fun e w'=>e=.returned (.int .i64 (sg.fault s))∧Below w.heap.size w w':=by
 have H0:=Lib.hid h0
 clear h0
 have HFT:Hid (sg.fault s=if sg.bad1 s then 2 else if 3<s.sacks.length∨64<s.data.length then 1 else if s.sacks.all sg.rngOk=false then 2 else if sg.bad4 s then 4 else 0):=Lib.hid rfl
 have HB1:Hid (sg.bad1 s↔¬ (0≤s.seq∧s.seq<65536)∨¬ (0≤s.ack∧s.ack<65536)∨s.window<0∨65535<s.window):=Lib.hid Iff.rfl
 have HB4:Hid (sg.bad4 s↔s.acks=false∧(s.ack≠0∨s.window≠0∨s.sacks.length≠0)):=Lib.hid Iff.rfl
 unfold Segment.val
 have HE:=Lib.hid (fun (x:Int) (h:sg.fault s=x)=>h)
 obtain ⟨seq,ack,window,syn,fin,rst,acks,sacks,data⟩:=s
 dsimp only at *
 by_cases hq:0≤seq∧seq<65536
 ·have HQ:=Lib.hid hq
  by_cases ha:0≤ack∧ack<65536
  ·have HA:=Lib.hid ha
   by_cases hw:window<0
   ·have HR:Hid (sg.fault ⟨seq,ack,window,syn,fin,rst,acks,sacks,data⟩=2):=Lib.hid (by rw [HFT.out,if_pos (HB1.out.2 (.inr (.inr (.inl hw))))])
    clear H0 HFT HB1 HB4 HE
    have HG:=Lib.hid (ret_int (k:=.i64) HR.out)
    clear hq ha
    go_enter Try.func105,Try.ntmps105
    go_wp2_with (first | (go_at_call 30;((with_reducible refine (ref_serial_yes seq HQ.out _).mono ?_);rintro e w' ⟨rfl,rfl⟩)) | (go_at_call 30;((with_reducible refine (ref_serial_yes ack HA.out _).mono ?_);rintro e w' ⟨rfl,rfl⟩)))
    go_ret
    exact ⟨HG.out.symm,(by repeat (first | (with_reducible first | exact Below.refl _ _ | assumption | refine bset ?_ ?_ _ | refine balloc ?_ _ | refine Below.drew ?_ | refine bdrewN ?_ _ | refine bnext ?_ (by with_reducible assumption)) | exact Nat.le_refl _ | (simp;done) | omega | (simp;omega)))⟩
   ·by_cases hw2:65535<window
    ·have HR:Hid (sg.fault ⟨seq,ack,window,syn,fin,rst,acks,sacks,data⟩=2):=Lib.hid (by rw [HFT.out,if_pos (HB1.out.2 (.inr (.inr (.inr hw2))))])
     clear H0 HFT HB1 HB4 HE
     have HG:=Lib.hid (ret_int (k:=.i64) HR.out)
     clear hq ha
     go_enter Try.func105,Try.ntmps105
     go_wp2_with (first | (go_at_call 30;((with_reducible refine (ref_serial_yes seq HQ.out _).mono ?_);rintro e w' ⟨rfl,rfl⟩)) | (go_at_call 30;((with_reducible refine (ref_serial_yes ack HA.out _).mono ?_);rintro e w' ⟨rfl,rfl⟩)))
     go_ret
     exact ⟨HG.out.symm,(by repeat (first | (with_reducible first | exact Below.refl _ _ | assumption | refine bset ?_ ?_ _ | refine balloc ?_ _ | refine Below.drew ?_ | refine bdrewN ?_ _ | refine bnext ?_ (by with_reducible assumption)) | exact Nat.le_refl _ | (simp;done) | omega | (simp;omega)))⟩
    ·have hw':0≤window:=by omega
     have hw2':window≤65535:=by omega
     have HN1:Hid (¬ sg.bad1 ⟨seq,ack,window,syn,fin,rst,acks,sacks,data⟩):=Lib.hid (fun h=>by rcases HB1.out.1 h with h | h | h | h;exact h hq;exact h ha;exact hw h;exact hw2 h)
     clear hq ha hw hw2
     by_cases hs:3<sacks.length
     ·have HR:Hid (sg.fault ⟨seq,ack,window,syn,fin,rst,acks,sacks,data⟩=1):=Lib.hid (by rw [HFT.out,if_neg HN1.out,if_pos (.inl hs)])
      clear H0 HFT HB1 HB4 HE HN1
      have HG:=Lib.hid (ret_int (k:=.i64) HR.out)
      go_enter Try.func105,Try.ntmps105
      go_wp2_with (first | (go_at_call 30;((with_reducible refine (ref_serial_yes seq HQ.out _).mono ?_);rintro e w' ⟨rfl,rfl⟩)) | (go_at_call 30;((with_reducible refine (ref_serial_yes ack HA.out _).mono ?_);rintro e w' ⟨rfl,rfl⟩)))
      go_ret
      exact ⟨HG.out.symm,(by repeat (first | (with_reducible first | exact Below.refl _ _ | assumption | refine bset ?_ ?_ _ | refine balloc ?_ _ | refine Below.drew ?_ | refine bdrewN ?_ _ | refine bnext ?_ (by with_reducible assumption)) | exact Nat.le_refl _ | (simp;done) | omega | (simp;omega)))⟩
     ·by_cases hd:64<data.length
      ·have HR:Hid (sg.fault ⟨seq,ack,window,syn,fin,rst,acks,sacks,data⟩=1):=Lib.hid (by rw [HFT.out,if_neg HN1.out,if_pos (.inr hd)])
       clear HFT HB1 HB4 HE HN1
       have HG:=Lib.hid (ret_int (k:=.i64) HR.out)
       have hs':sacks.length≤3:=by omega
       go_enter Try.func105,Try.ntmps105
       go_wp2_with (first | (go_at_call 30;((with_reducible refine (ref_serial_yes seq HQ.out _).mono ?_);rintro e w' ⟨rfl,rfl⟩)) | (go_at_call 30;((with_reducible refine (ref_serial_yes ack HA.out _).mono ?_);rintro e w' ⟨rfl,rfl⟩)))
       go_ret
       exact ⟨HG.out.symm,(by repeat (first | (with_reducible first | exact Below.refl _ _ | assumption | refine bset ?_ ?_ _ | refine balloc ?_ _ | refine Below.drew ?_ | refine bdrewN ?_ _ | refine bnext ?_ (by with_reducible assumption)) | exact Nat.le_refl _ | (simp;done) | omega | (simp;omega)))⟩
      ·have hs':sacks.length≤3:=by omega
       have hd':data.length≤64:=by omega
       have HN2:Hid (¬ (3<sacks.length∨64<data.length)):=Lib.hid (by omega)
       clear hs hd
       cases hall:sacks.all sg.rngOk with
       | false=>
        have HALL:=Lib.hid hall
        have HR:Hid (sg.fault ⟨seq,ack,window,syn,fin,rst,acks,sacks,data⟩=2):=Lib.hid (by rw [HFT.out,if_neg HN1.out,if_neg HN2.out,if_pos HALL.out])
        clear HFT HB1 HB4 HE HN1 HN2
        have HG:=Lib.hid (ret_int (k:=.i64) HR.out)
        clear hall
        go_enter Try.func105,Try.ntmps105
        go_wp2_with (first | (go_at_call 30;((with_reducible refine (ref_serial_yes seq HQ.out _).mono ?_);rintro e w' ⟨rfl,rfl⟩)) | (go_at_call 30;((with_reducible refine (ref_serial_yes ack HA.out _).mono ?_);rintro e w' ⟨rfl,rfl⟩)))
        obtain ⟨w1,hw1⟩:∃ w1,w1=w.alloc (.cells #[.int .i64 seq,.int .i64 ack,.int .i64 window,.bool syn,.bool fin,.bool rst,.bool acks,.slice A0 sacks.length c0,.slice A1 data.length c1] 134):=⟨_,rfl⟩
        have hx1:w1.cell? ⟨w.heap.size,1,none⟩=some (.int .i64 ack):=by rw [hw1];simp [go_sem]
        have hx2:w1.cell? ⟨w.heap.size,2,none⟩=some (.int .i64 window):=by rw [hw1];simp [go_sem]
        have hx6:w1.cell? ⟨w.heap.size,6,none⟩=some (.bool acks):=by rw [hw1];simp [go_sem]
        have hx7:w1.cell? ⟨w.heap.size,7,none⟩=some (.slice A0 sacks.length c0):=by rw [hw1];simp [go_sem]
        have hs1:w.heap.size<w1.heap.size:=by rw [hw1];simp
        have hb1:Below w.heap.size w w1:=by rw [hw1];exact balloc (bself w) _
        rw [← hw1]
        clear hw1
        have HX1:=Lib.hid hx1
        have HX2:=Lib.hid hx2
        have HX6:=Lib.hid hx6
        have HX7:=Lib.hid hx7
        clear hx1 hx2 hx6 hx7
        go_loopw [38] (fun i wr=>∃ k:Nat,k≤sacks.length∧i=.int .i64 k∧Hid (∀ j,j<k→sg.rngOk (sacks.getD j ⟨0,0⟩)=true)∧Below w.heap.size w wr∧Below (w.heap.size+1) w1 wr) (fun i _=>sacks.length - (intOf i).toNat)
        case atStart=>exact ⟨0,by omega,rfl,Lib.hid (fun j hj=>by omega),hb1,Below.refl _ _⟩
        case round=>
         obtain ⟨k,hk,rfl,HAK,hB,hB1⟩:=hrel
         rename World=>wr
         by_cases hlt:k<sacks.length
         ·obtain ⟨b,o,rfl,hb,hc1,hc2⟩:=Rng.cells_at ⟨0,0⟩ (H0.out.below hB) hlt
          have hbw:b<wr.heap.size:=Nat.lt_of_lt_of_le hb hB.size
          have HI:=Lib.hid (@sg.rngOk_iff (sacks.getD k ⟨0,0⟩))
          have HN:Hid (sg.rngOk (sacks.getD k ⟨0,0⟩)=true→∀ j,j<k+1→sg.rngOk (sacks.getD j ⟨0,0⟩)=true):=Lib.hid (fun h j hj=>by
           rcases Nat.lt_or_ge j k with h' | h'
           ·exact HAK.out j h'
           ·obtain rfl:j=k:=by omega
            exact h)
          have HDUMMY:Hid True:=Lib.hid trivial
          clear H0 HAK
          generalize sacks.getD k ⟨0,0⟩=r at *
          by_cases hr:(0≤r.lo∧r.lo<65536)∧(0≤r.hi∧r.hi<65536)
          ·have HR1:=Lib.hid hr.1
           have HR2:=Lib.hid hr.2
           have HOK:=Lib.hid (HI.out.2 hr)
           clear hr
           go_wp2_with (first | (go_at_call 30;((with_reducible refine (ref_serial_yes r.lo HR1.out _).mono ?_);rintro e w' ⟨rfl,rfl⟩)) | (go_at_call 30;((with_reducible refine (ref_serial_yes r.hi HR2.out _).mono ?_);rintro e w' ⟨rfl,rfl⟩)))
           go_roundw
           case rel=>exact ⟨k+1,by omega,by go_num,Lib.hid (HN.out HOK.out),(by repeat (first | (with_reducible first | exact Below.refl _ _ | assumption | refine bset ?_ ?_ _ | refine balloc ?_ _ | refine Below.drew ?_ | refine bdrewN ?_ _ | refine bnext ?_ (by with_reducible assumption)) | exact Nat.le_refl _ | (simp;done) | omega | (simp;omega))),Below.alloc hB1 (by have:=hB1.size;omega) _⟩
           case measure=>simp [intOf];omega
          ·by_cases hlo:0≤r.lo∧r.lo<65536
           ·have HR1:=Lib.hid hlo
            have HR2:Hid (¬ (0≤r.hi∧r.hi<65536)):=Lib.hid (fun h=>hr ⟨hlo,h⟩)
            clear hr hlo
            go_wp2_with (first | (go_at_call 30;((with_reducible refine (ref_serial_yes r.lo HR1.out _).mono ?_);rintro e w' ⟨rfl,rfl⟩)) | (go_at_call 30;((with_reducible refine (ref_serial_no r.hi HR2.out _).mono ?_);rintro e w' ⟨rfl,rfl⟩)))
            go_ret
            exact ⟨HG.out.symm,(by repeat (first | (with_reducible first | exact Below.refl _ _ | assumption | refine bset ?_ ?_ _ | refine balloc ?_ _ | refine Below.drew ?_ | refine bdrewN ?_ _ | refine bnext ?_ (by with_reducible assumption)) | exact Nat.le_refl _ | (simp;done) | omega | (simp;omega)))⟩
           ·have HR1:=Lib.hid hlo
            clear hr hlo
            go_wp2_with (go_at_call 30;((with_reducible refine (ref_serial_no r.lo HR1.out _).mono ?_);rintro e w' ⟨rfl,rfl⟩))
            go_ret
            exact ⟨HG.out.symm,(by repeat (first | (with_reducible first | exact Below.refl _ _ | assumption | refine bset ?_ ?_ _ | refine balloc ?_ _ | refine Below.drew ?_ | refine bdrewN ?_ _ | refine bnext ?_ (by with_reducible assumption)) | exact Nat.le_refl _ | (simp;done) | omega | (simp;omega)))⟩
         ·obtain rfl:k=sacks.length:=by omega
          exact absurd (sg.all_of ⟨0,0⟩ HAK.out) (by rw [HALL.out];simp)
       | true=>
        have HALL:=Lib.hid hall
        have HN3:Hid (¬ (sacks.all sg.rngOk=false)):=Lib.hid (by rw [hall];simp)
        clear hall
        have HX4:Hid (∀ x:Int,(if sg.bad4 ⟨seq,ack,window,syn,fin,rst,acks,sacks,data⟩ then (4:Int) else 0)=x→sg.fault ⟨seq,ack,window,syn,fin,rst,acks,sacks,data⟩=x):=Lib.hid (fun x hx=>by rw [HFT.out,if_neg HN1.out,if_neg HN2.out,if_neg HN3.out,hx])
        cases acks with
        | true=>
         have HR:Hid (sg.fault ⟨seq,ack,window,syn,fin,rst,true,sacks,data⟩=0):=Lib.hid (by exact HX4.out 0 (if_neg (fun h=>by have:=(HB4.out.1 h).1;cases this)))
         clear HFT HB1 HB4 HE HN1 HN2 HN3 HX4
         have HG:=Lib.hid (ret_int (k:=.i64) HR.out)
         go_enter Try.func105,Try.ntmps105
         go_wp2_with (first | (go_at_call 30;((with_reducible refine (ref_serial_yes seq HQ.out _).mono ?_);rintro e w' ⟨rfl,rfl⟩)) | (go_at_call 30;((with_reducible refine (ref_serial_yes ack HA.out _).mono ?_);rintro e w' ⟨rfl,rfl⟩)))
         obtain ⟨w1,hw1⟩:∃ w1,w1=w.alloc (.cells #[.int .i64 seq,.int .i64 ack,.int .i64 window,.bool syn,.bool fin,.bool rst,.bool true,.slice A0 sacks.length c0,.slice A1 data.length c1] 134):=⟨_,rfl⟩
         have hx1:w1.cell? ⟨w.heap.size,1,none⟩=some (.int .i64 ack):=by rw [hw1];simp [go_sem]
         have hx2:w1.cell? ⟨w.heap.size,2,none⟩=some (.int .i64 window):=by rw [hw1];simp [go_sem]
         have hx6:w1.cell? ⟨w.heap.size,6,none⟩=some (.bool true):=by rw [hw1];simp [go_sem]
         have hx7:w1.cell? ⟨w.heap.size,7,none⟩=some (.slice A0 sacks.length c0):=by rw [hw1];simp [go_sem]
         have hs1:w.heap.size<w1.heap.size:=by rw [hw1];simp
         have hb1:Below w.heap.size w w1:=by rw [hw1];exact balloc (bself w) _
         rw [← hw1]
         clear hw1
         have HX1:=Lib.hid hx1
         have HX2:=Lib.hid hx2
         have HX6:=Lib.hid hx6
         have HX7:=Lib.hid hx7
         clear hx1 hx2 hx6 hx7
         go_loopw [38] (fun i wr=>∃ k:Nat,k≤sacks.length∧i=.int .i64 k∧Hid (∀ j,j<k→sg.rngOk (sacks.getD j ⟨0,0⟩)=true)∧Below w.heap.size w wr∧Below (w.heap.size+1) w1 wr) (fun i _=>sacks.length - (intOf i).toNat)
         case atStart=>exact ⟨0,by omega,rfl,Lib.hid (fun j hj=>by omega),hb1,Below.refl _ _⟩
         case round=>
          obtain ⟨k,hk,rfl,HAK,hB,hB1⟩:=hrel
          rename World=>wr
          by_cases hlt:k<sacks.length
          ·obtain ⟨b,o,rfl,hb,hc1,hc2⟩:=Rng.cells_at ⟨0,0⟩ (H0.out.below hB) hlt
           have hbw:b<wr.heap.size:=Nat.lt_of_lt_of_le hb hB.size
           have HI:=Lib.hid (@sg.rngOk_iff (sacks.getD k ⟨0,0⟩))
           have HN:Hid (sg.rngOk (sacks.getD k ⟨0,0⟩)=true→∀ j,j<k+1→sg.rngOk (sacks.getD j ⟨0,0⟩)=true):=Lib.hid (fun h j hj=>by
            rcases Nat.lt_or_ge j k with h' | h'
            ·exact HAK.out j h'
            ·obtain rfl:j=k:=by omega
             exact h)
           have hrok:sg.rngOk (sacks.getD k ⟨0,0⟩)=true:=sg.all_true HALL.out hlt ⟨0,0⟩
           clear H0 HAK
           generalize sacks.getD k ⟨0,0⟩=r at *
           have HR1:=Lib.hid (HI.out.1 hrok).1
           have HR2:=Lib.hid (HI.out.1 hrok).2
           have HOK:=Lib.hid hrok
           clear hrok
           go_wp2_with (first | (go_at_call 30;((with_reducible refine (ref_serial_yes r.lo HR1.out _).mono ?_);rintro e w' ⟨rfl,rfl⟩)) | (go_at_call 30;((with_reducible refine (ref_serial_yes r.hi HR2.out _).mono ?_);rintro e w' ⟨rfl,rfl⟩)))
           go_roundw
           case rel=>exact ⟨k+1,by omega,by go_num,Lib.hid (HN.out HOK.out),(by repeat (first | (with_reducible first | exact Below.refl _ _ | assumption | refine bset ?_ ?_ _ | refine balloc ?_ _ | refine Below.drew ?_ | refine bdrewN ?_ _ | refine bnext ?_ (by with_reducible assumption)) | exact Nat.le_refl _ | (simp;done) | omega | (simp;omega))),Below.alloc hB1 (by have:=hB1.size;omega) _⟩
           case measure=>simp [intOf];omega
          ·obtain rfl:k=sacks.length:=by omega
           have hd1:=(hB1.cell (p:=⟨w.heap.size,1,none⟩) (Nat.lt_succ_self _)).trans HX1.out
           have hd2:=(hB1.cell (p:=⟨w.heap.size,2,none⟩) (Nat.lt_succ_self _)).trans HX2.out
           have hd6:=(hB1.cell (p:=⟨w.heap.size,6,none⟩) (Nat.lt_succ_self _)).trans HX6.out
           have hd7:=(hB1.cell (p:=⟨w.heap.size,7,none⟩) (Nat.lt_succ_self _)).trans HX7.out
           have hwr:w.heap.size<wr.heap.size:=by have:=hB1.size;omega
           clear H0 HAK
           go_wp2
           go_ret
           exact ⟨HG.out.symm,hB⟩
        | false=>
         by_cases z1:ack=0
         ·have Z1:=Lib.hid z1
          clear z1
          have hba1:(ack == 0)=true:=by rw [beq_iff_eq];exact Z1.out
          have hba2:(ack != 0)=false:=by rw [bne,hba1];rfl
          by_cases z2:window=0
          ·have Z2:=Lib.hid z2
           clear z2
           have hbw1:(window == 0)=true:=by rw [beq_iff_eq];exact Z2.out
           have hbw2:(window != 0)=false:=by rw [bne,hbw1];rfl
           by_cases z3:0<sacks.length
           ·have HR:Hid (sg.fault ⟨seq,ack,window,syn,fin,rst,false,sacks,data⟩=4):=Lib.hid (by exact HX4.out 4 (if_pos (HB4.out.2 ⟨rfl,.inr (.inr (by omega))⟩)))
            clear HFT HB1 HB4 HE HN1 HN2 HN3 HX4
            have HG:=Lib.hid (ret_int (k:=.i64) HR.out)
            go_enter Try.func105,Try.ntmps105
            go_wp2_with (first | (go_at_call 30;((with_reducible refine (ref_serial_yes seq HQ.out _).mono ?_);rintro e w' ⟨rfl,rfl⟩)) | (go_at_call 30;((with_reducible refine (ref_serial_yes ack HA.out _).mono ?_);rintro e w' ⟨rfl,rfl⟩)))
            obtain ⟨w1,hw1⟩:∃ w1,w1=w.alloc (.cells #[.int .i64 seq,.int .i64 ack,.int .i64 window,.bool syn,.bool fin,.bool rst,.bool false,.slice A0 sacks.length c0,.slice A1 data.length c1] 134):=⟨_,rfl⟩
            have hx1:w1.cell? ⟨w.heap.size,1,none⟩=some (.int .i64 ack):=by rw [hw1];simp [go_sem]
            have hx2:w1.cell? ⟨w.heap.size,2,none⟩=some (.int .i64 window):=by rw [hw1];simp [go_sem]
            have hx6:w1.cell? ⟨w.heap.size,6,none⟩=some (.bool false):=by rw [hw1];simp [go_sem]
            have hx7:w1.cell? ⟨w.heap.size,7,none⟩=some (.slice A0 sacks.length c0):=by rw [hw1];simp [go_sem]
            have hs1:w.heap.size<w1.heap.size:=by rw [hw1];simp
            have hb1:Below w.heap.size w w1:=by rw [hw1];exact balloc (bself w) _
            rw [← hw1]
            clear hw1
            have HX1:=Lib.hid hx1
            have HX2:=Lib.hid hx2
            have HX6:=Lib.hid hx6
            have HX7:=Lib.hid hx7
            clear hx1 hx2 hx6 hx7
            go_loopw [38] (fun i wr=>∃ k:Nat,k≤sacks.length∧i=.int .i64 k∧Hid (∀ j,j<k→sg.rngOk (sacks.getD j ⟨0,0⟩)=true)∧Below w.heap.size w wr∧Below (w.heap.size+1) w1 wr) (fun i _=>sacks.length - (intOf i).toNat)
            case atStart=>exact ⟨0,by omega,rfl,Lib.hid (fun j hj=>by omega),hb1,Below.refl _ _⟩
            case round=>
             obtain ⟨k,hk,rfl,HAK,hB,hB1⟩:=hrel
             rename World=>wr
             by_cases hlt:k<sacks.length
             ·obtain ⟨b,o,rfl,hb,hc1,hc2⟩:=Rng.cells_at ⟨0,0⟩ (H0.out.below hB) hlt
              have hbw:b<wr.heap.size:=Nat.lt_of_lt_of_le hb hB.size
              have HI:=Lib.hid (@sg.rngOk_iff (sacks.getD k ⟨0,0⟩))
              have HN:Hid (sg.rngOk (sacks.getD k ⟨0,0⟩)=true→∀ j,j<k+1→sg.rngOk (sacks.getD j ⟨0,0⟩)=true):=Lib.hid (fun h j hj=>by
               rcases Nat.lt_or_ge j k with h' | h'
               ·exact HAK.out j h'
               ·obtain rfl:j=k:=by omega
                exact h)
              have hrok:sg.rngOk (sacks.getD k ⟨0,0⟩)=true:=sg.all_true HALL.out hlt ⟨0,0⟩
              clear H0 HAK
              generalize sacks.getD k ⟨0,0⟩=r at *
              have HR1:=Lib.hid (HI.out.1 hrok).1
              have HR2:=Lib.hid (HI.out.1 hrok).2
              have HOK:=Lib.hid hrok
              clear hrok
              go_wp2_with (first | (go_at_call 30;((with_reducible refine (ref_serial_yes r.lo HR1.out _).mono ?_);rintro e w' ⟨rfl,rfl⟩)) | (go_at_call 30;((with_reducible refine (ref_serial_yes r.hi HR2.out _).mono ?_);rintro e w' ⟨rfl,rfl⟩)))
              go_roundw
              case rel=>exact ⟨k+1,by omega,by go_num,Lib.hid (HN.out HOK.out),(by repeat (first | (with_reducible first | exact Below.refl _ _ | assumption | refine bset ?_ ?_ _ | refine balloc ?_ _ | refine Below.drew ?_ | refine bdrewN ?_ _ | refine bnext ?_ (by with_reducible assumption)) | exact Nat.le_refl _ | (simp;done) | omega | (simp;omega))),Below.alloc hB1 (by have:=hB1.size;omega) _⟩
              case measure=>simp [intOf];omega
             ·obtain rfl:k=sacks.length:=by omega
              have hd1:=(hB1.cell (p:=⟨w.heap.size,1,none⟩) (Nat.lt_succ_self _)).trans HX1.out
              have hd2:=(hB1.cell (p:=⟨w.heap.size,2,none⟩) (Nat.lt_succ_self _)).trans HX2.out
              have hd6:=(hB1.cell (p:=⟨w.heap.size,6,none⟩) (Nat.lt_succ_self _)).trans HX6.out
              have hd7:=(hB1.cell (p:=⟨w.heap.size,7,none⟩) (Nat.lt_succ_self _)).trans HX7.out
              have hwr:w.heap.size<wr.heap.size:=by have:=hB1.size;omega
              clear H0 HAK
              go_wp2
              go_ret
              exact ⟨HG.out.symm,hB⟩
           ·have HR:Hid (sg.fault ⟨seq,ack,window,syn,fin,rst,false,sacks,data⟩=0):=Lib.hid (by exact HX4.out 0 (if_neg (fun h=>by rcases (HB4.out.1 h).2 with h | h | h;exact h Z1.out;exact h Z2.out;exact h (by omega))))
            clear HFT HB1 HB4 HE HN1 HN2 HN3 HX4
            have HG:=Lib.hid (ret_int (k:=.i64) HR.out)
            have z3':sacks.length≤0:=by omega
            go_enter Try.func105,Try.ntmps105
            go_wp2_with (first | (go_at_call 30;((with_reducible refine (ref_serial_yes seq HQ.out _).mono ?_);rintro e w' ⟨rfl,rfl⟩)) | (go_at_call 30;((with_reducible refine (ref_serial_yes ack HA.out _).mono ?_);rintro e w' ⟨rfl,rfl⟩)))
            obtain ⟨w1,hw1⟩:∃ w1,w1=w.alloc (.cells #[.int .i64 seq,.int .i64 ack,.int .i64 window,.bool syn,.bool fin,.bool rst,.bool false,.slice A0 sacks.length c0,.slice A1 data.length c1] 134):=⟨_,rfl⟩
            have hx1:w1.cell? ⟨w.heap.size,1,none⟩=some (.int .i64 ack):=by rw [hw1];simp [go_sem]
            have hx2:w1.cell? ⟨w.heap.size,2,none⟩=some (.int .i64 window):=by rw [hw1];simp [go_sem]
            have hx6:w1.cell? ⟨w.heap.size,6,none⟩=some (.bool false):=by rw [hw1];simp [go_sem]
            have hx7:w1.cell? ⟨w.heap.size,7,none⟩=some (.slice A0 sacks.length c0):=by rw [hw1];simp [go_sem]
            have hs1:w.heap.size<w1.heap.size:=by rw [hw1];simp
            have hb1:Below w.heap.size w w1:=by rw [hw1];exact balloc (bself w) _
            rw [← hw1]
            clear hw1
            have HX1:=Lib.hid hx1
            have HX2:=Lib.hid hx2
            have HX6:=Lib.hid hx6
            have HX7:=Lib.hid hx7
            clear hx1 hx2 hx6 hx7
            go_loopw [38] (fun i wr=>∃ k:Nat,k≤sacks.length∧i=.int .i64 k∧Hid (∀ j,j<k→sg.rngOk (sacks.getD j ⟨0,0⟩)=true)∧Below w.heap.size w wr∧Below (w.heap.size+1) w1 wr) (fun i _=>sacks.length - (intOf i).toNat)
            case atStart=>exact ⟨0,by omega,rfl,Lib.hid (fun j hj=>by omega),hb1,Below.refl _ _⟩
            case round=>
             obtain ⟨k,hk,rfl,HAK,hB,hB1⟩:=hrel
             rename World=>wr
             by_cases hlt:k<sacks.length
             ·exact absurd hlt (by omega)
             ·obtain rfl:k=sacks.length:=by omega
              have hd1:=(hB1.cell (p:=⟨w.heap.size,1,none⟩) (Nat.lt_succ_self _)).trans HX1.out
              have hd2:=(hB1.cell (p:=⟨w.heap.size,2,none⟩) (Nat.lt_succ_self _)).trans HX2.out
              have hd6:=(hB1.cell (p:=⟨w.heap.size,6,none⟩) (Nat.lt_succ_self _)).trans HX6.out
              have hd7:=(hB1.cell (p:=⟨w.heap.size,7,none⟩) (Nat.lt_succ_self _)).trans HX7.out
              have hwr:w.heap.size<wr.heap.size:=by have:=hB1.size;omega
              clear H0 HAK
              go_wp2
              go_ret
              exact ⟨HG.out.symm,hB⟩
          ·have Z2:=Lib.hid z2
           clear z2
           have hbw1:(window == 0)=false:=by rw [beq_eq_false_iff_ne];exact Z2.out
           have hbw2:(window != 0)=true:=by rw [bne,hbw1];rfl
           have HR:Hid (sg.fault ⟨seq,ack,window,syn,fin,rst,false,sacks,data⟩=4):=Lib.hid (by exact HX4.out 4 (if_pos (HB4.out.2 ⟨rfl,.inr (.inl Z2.out)⟩)))
           clear HFT HB1 HB4 HE HN1 HN2 HN3 HX4
           have HG:=Lib.hid (ret_int (k:=.i64) HR.out)
           go_enter Try.func105,Try.ntmps105
           go_wp2_with (first | (go_at_call 30;((with_reducible refine (ref_serial_yes seq HQ.out _).mono ?_);rintro e w' ⟨rfl,rfl⟩)) | (go_at_call 30;((with_reducible refine (ref_serial_yes ack HA.out _).mono ?_);rintro e w' ⟨rfl,rfl⟩)))
           obtain ⟨w1,hw1⟩:∃ w1,w1=w.alloc (.cells #[.int .i64 seq,.int .i64 ack,.int .i64 window,.bool syn,.bool fin,.bool rst,.bool false,.slice A0 sacks.length c0,.slice A1 data.length c1] 134):=⟨_,rfl⟩
           have hx1:w1.cell? ⟨w.heap.size,1,none⟩=some (.int .i64 ack):=by rw [hw1];simp [go_sem]
           have hx2:w1.cell? ⟨w.heap.size,2,none⟩=some (.int .i64 window):=by rw [hw1];simp [go_sem]
           have hx6:w1.cell? ⟨w.heap.size,6,none⟩=some (.bool false):=by rw [hw1];simp [go_sem]
           have hx7:w1.cell? ⟨w.heap.size,7,none⟩=some (.slice A0 sacks.length c0):=by rw [hw1];simp [go_sem]
           have hs1:w.heap.size<w1.heap.size:=by rw [hw1];simp
           have hb1:Below w.heap.size w w1:=by rw [hw1];exact balloc (bself w) _
           rw [← hw1]
           clear hw1
           have HX1:=Lib.hid hx1
           have HX2:=Lib.hid hx2
           have HX6:=Lib.hid hx6
           have HX7:=Lib.hid hx7
           clear hx1 hx2 hx6 hx7
           go_loopw [38] (fun i wr=>∃ k:Nat,k≤sacks.length∧i=.int .i64 k∧Hid (∀ j,j<k→sg.rngOk (sacks.getD j ⟨0,0⟩)=true)∧Below w.heap.size w wr∧Below (w.heap.size+1) w1 wr) (fun i _=>sacks.length - (intOf i).toNat)
           case atStart=>exact ⟨0,by omega,rfl,Lib.hid (fun j hj=>by omega),hb1,Below.refl _ _⟩
           case round=>
            obtain ⟨k,hk,rfl,HAK,hB,hB1⟩:=hrel
            rename World=>wr
            by_cases hlt:k<sacks.length
            ·obtain ⟨b,o,rfl,hb,hc1,hc2⟩:=Rng.cells_at ⟨0,0⟩ (H0.out.below hB) hlt
             have hbw:b<wr.heap.size:=Nat.lt_of_lt_of_le hb hB.size
             have HI:=Lib.hid (@sg.rngOk_iff (sacks.getD k ⟨0,0⟩))
             have HN:Hid (sg.rngOk (sacks.getD k ⟨0,0⟩)=true→∀ j,j<k+1→sg.rngOk (sacks.getD j ⟨0,0⟩)=true):=Lib.hid (fun h j hj=>by
              rcases Nat.lt_or_ge j k with h' | h'
              ·exact HAK.out j h'
              ·obtain rfl:j=k:=by omega
               exact h)
             have hrok:sg.rngOk (sacks.getD k ⟨0,0⟩)=true:=sg.all_true HALL.out hlt ⟨0,0⟩
             clear H0 HAK
             generalize sacks.getD k ⟨0,0⟩=r at *
             have HR1:=Lib.hid (HI.out.1 hrok).1
             have HR2:=Lib.hid (HI.out.1 hrok).2
             have HOK:=Lib.hid hrok
             clear hrok
             go_wp2_with (first | (go_at_call 30;((with_reducible refine (ref_serial_yes r.lo HR1.out _).mono ?_);rintro e w' ⟨rfl,rfl⟩)) | (go_at_call 30;((with_reducible refine (ref_serial_yes r.hi HR2.out _).mono ?_);rintro e w' ⟨rfl,rfl⟩)))
             go_roundw
             case rel=>exact ⟨k+1,by omega,by go_num,Lib.hid (HN.out HOK.out),(by repeat (first | (with_reducible first | exact Below.refl _ _ | assumption | refine bset ?_ ?_ _ | refine balloc ?_ _ | refine Below.drew ?_ | refine bdrewN ?_ _ | refine bnext ?_ (by with_reducible assumption)) | exact Nat.le_refl _ | (simp;done) | omega | (simp;omega))),Below.alloc hB1 (by have:=hB1.size;omega) _⟩
             case measure=>simp [intOf];omega
            ·obtain rfl:k=sacks.length:=by omega
             have hd1:=(hB1.cell (p:=⟨w.heap.size,1,none⟩) (Nat.lt_succ_self _)).trans HX1.out
             have hd2:=(hB1.cell (p:=⟨w.heap.size,2,none⟩) (Nat.lt_succ_self _)).trans HX2.out
             have hd6:=(hB1.cell (p:=⟨w.heap.size,6,none⟩) (Nat.lt_succ_self _)).trans HX6.out
             have hd7:=(hB1.cell (p:=⟨w.heap.size,7,none⟩) (Nat.lt_succ_self _)).trans HX7.out
             have hwr:w.heap.size<wr.heap.size:=by have:=hB1.size;omega
             clear H0 HAK
             go_wp2
             go_ret
             exact ⟨HG.out.symm,hB⟩
         ·have Z1:=Lib.hid z1
          clear z1
          have hba1:(ack == 0)=false:=by rw [beq_eq_false_iff_ne];exact Z1.out
          have hba2:(ack != 0)=true:=by rw [bne,hba1];rfl
          have HR:Hid (sg.fault ⟨seq,ack,window,syn,fin,rst,false,sacks,data⟩=4):=Lib.hid (by exact HX4.out 4 (if_pos (HB4.out.2 ⟨rfl,.inl Z1.out⟩)))
          clear HFT HB1 HB4 HE HN1 HN2 HN3 HX4
          have HG:=Lib.hid (ret_int (k:=.i64) HR.out)
          go_enter Try.func105,Try.ntmps105
          go_wp2_with (first | (go_at_call 30;((with_reducible refine (ref_serial_yes seq HQ.out _).mono ?_);rintro e w' ⟨rfl,rfl⟩)) | (go_at_call 30;((with_reducible refine (ref_serial_yes ack HA.out _).mono ?_);rintro e w' ⟨rfl,rfl⟩)))
          obtain ⟨w1,hw1⟩:∃ w1,w1=w.alloc (.cells #[.int .i64 seq,.int .i64 ack,.int .i64 window,.bool syn,.bool fin,.bool rst,.bool false,.slice A0 sacks.length c0,.slice A1 data.length c1] 134):=⟨_,rfl⟩
          have hx1:w1.cell? ⟨w.heap.size,1,none⟩=some (.int .i64 ack):=by rw [hw1];simp [go_sem]
          have hx2:w1.cell? ⟨w.heap.size,2,none⟩=some (.int .i64 window):=by rw [hw1];simp [go_sem]
          have hx6:w1.cell? ⟨w.heap.size,6,none⟩=some (.bool false):=by rw [hw1];simp [go_sem]
          have hx7:w1.cell? ⟨w.heap.size,7,none⟩=some (.slice A0 sacks.length c0):=by rw [hw1];simp [go_sem]
          have hs1:w.heap.size<w1.heap.size:=by rw [hw1];simp
          have hb1:Below w.heap.size w w1:=by rw [hw1];exact balloc (bself w) _
          rw [← hw1]
          clear hw1
          have HX1:=Lib.hid hx1
          have HX2:=Lib.hid hx2
          have HX6:=Lib.hid hx6
          have HX7:=Lib.hid hx7
          clear hx1 hx2 hx6 hx7
          go_loopw [38] (fun i wr=>∃ k:Nat,k≤sacks.length∧i=.int .i64 k∧Hid (∀ j,j<k→sg.rngOk (sacks.getD j ⟨0,0⟩)=true)∧Below w.heap.size w wr∧Below (w.heap.size+1) w1 wr) (fun i _=>sacks.length - (intOf i).toNat)
          case atStart=>exact ⟨0,by omega,rfl,Lib.hid (fun j hj=>by omega),hb1,Below.refl _ _⟩
          case round=>
           obtain ⟨k,hk,rfl,HAK,hB,hB1⟩:=hrel
           rename World=>wr
           by_cases hlt:k<sacks.length
           ·obtain ⟨b,o,rfl,hb,hc1,hc2⟩:=Rng.cells_at ⟨0,0⟩ (H0.out.below hB) hlt
            have hbw:b<wr.heap.size:=Nat.lt_of_lt_of_le hb hB.size
            have HI:=Lib.hid (@sg.rngOk_iff (sacks.getD k ⟨0,0⟩))
            have HN:Hid (sg.rngOk (sacks.getD k ⟨0,0⟩)=true→∀ j,j<k+1→sg.rngOk (sacks.getD j ⟨0,0⟩)=true):=Lib.hid (fun h j hj=>by
             rcases Nat.lt_or_ge j k with h' | h'
             ·exact HAK.out j h'
             ·obtain rfl:j=k:=by omega
              exact h)
            have hrok:sg.rngOk (sacks.getD k ⟨0,0⟩)=true:=sg.all_true HALL.out hlt ⟨0,0⟩
            clear H0 HAK
            generalize sacks.getD k ⟨0,0⟩=r at *
            have HR1:=Lib.hid (HI.out.1 hrok).1
            have HR2:=Lib.hid (HI.out.1 hrok).2
            have HOK:=Lib.hid hrok
            clear hrok
            go_wp2_with (first | (go_at_call 30;((with_reducible refine (ref_serial_yes r.lo HR1.out _).mono ?_);rintro e w' ⟨rfl,rfl⟩)) | (go_at_call 30;((with_reducible refine (ref_serial_yes r.hi HR2.out _).mono ?_);rintro e w' ⟨rfl,rfl⟩)))
            go_roundw
            case rel=>exact ⟨k+1,by omega,by go_num,Lib.hid (HN.out HOK.out),(by repeat (first | (with_reducible first | exact Below.refl _ _ | assumption | refine bset ?_ ?_ _ | refine balloc ?_ _ | refine Below.drew ?_ | refine bdrewN ?_ _ | refine bnext ?_ (by with_reducible assumption)) | exact Nat.le_refl _ | (simp;done) | omega | (simp;omega))),Below.alloc hB1 (by have:=hB1.size;omega) _⟩
            case measure=>simp [intOf];omega
           ·obtain rfl:k=sacks.length:=by omega
            have hd1:=(hB1.cell (p:=⟨w.heap.size,1,none⟩) (Nat.lt_succ_self _)).trans HX1.out
            have hd2:=(hB1.cell (p:=⟨w.heap.size,2,none⟩) (Nat.lt_succ_self _)).trans HX2.out
            have hd6:=(hB1.cell (p:=⟨w.heap.size,6,none⟩) (Nat.lt_succ_self _)).trans HX6.out
            have hd7:=(hB1.cell (p:=⟨w.heap.size,7,none⟩) (Nat.lt_succ_self _)).trans HX7.out
            have hwr:w.heap.size<wr.heap.size:=by have:=hB1.size;omega
            clear H0 HAK
            go_wp2
            go_ret
            exact ⟨HG.out.symm,hB⟩
  ·have HA:=Lib.hid ha
   have HR:Hid (sg.fault ⟨seq,ack,window,syn,fin,rst,acks,sacks,data⟩=2):=Lib.hid (by rw [HFT.out,if_pos (HB1.out.2 (.inr (.inl ha)))])
   clear H0 HFT HB1 HB4 HE
   have HG:=Lib.hid (ret_int (k:=.i64) HR.out)
   clear hq ha
   go_enter Try.func105,Try.ntmps105
   go_wp2_with (first | (go_at_call 30;((with_reducible refine (ref_serial_yes seq HQ.out _).mono ?_);rintro e w' ⟨rfl,rfl⟩)) | (go_at_call 30;((with_reducible refine (ref_serial_no ack HA.out _).mono ?_);rintro e w' ⟨rfl,rfl⟩)))
   go_ret
   exact ⟨HG.out.symm,(by repeat (first | (with_reducible first | exact Below.refl _ _ | assumption | refine bset ?_ ?_ _ | refine balloc ?_ _ | refine Below.drew ?_ | refine bdrewN ?_ _ | refine bnext ?_ (by with_reducible assumption)) | exact Nat.le_refl _ | (simp;done) | omega | (simp;omega)))⟩
 ·have HQ:=Lib.hid hq
  have HR:Hid (sg.fault ⟨seq,ack,window,syn,fin,rst,acks,sacks,data⟩=2):=Lib.hid (by rw [HFT.out,if_pos (HB1.out.2 (.inl hq))])
  clear H0 HFT HB1 HB4 HE
  have HG:=Lib.hid (ret_int (k:=.i64) HR.out)
  clear hq
  go_enter Try.func105,Try.ntmps105
  go_wp2_with (first | (go_at_call 30;((with_reducible refine (ref_serial_no seq HQ.out _).mono ?_);rintro e w' ⟨rfl,rfl⟩)))
  go_ret
  exact ⟨HG.out.symm,(by repeat (first | (with_reducible first | exact Below.refl _ _ | assumption | refine bset ?_ ?_ _ | refine balloc ?_ _ | refine Below.drew ?_ | refine bdrewN ?_ _ | refine bnext ?_ (by with_reducible assumption)) | exact Nat.le_refl _ | (simp;done) | omega | (simp;omega)))⟩
end Go.Proofs.Ytdldfllllgogoaa
namespace Go.Proofs.Ytdldfllllgogoaa
open Go.RowKit
theorem Own.set {w:World} {base:Nat} {e:TypeId} {g n c:Nat} {xs:List Value} (h:Own w base e 1 (Option.some ⟨g,0,none⟩) n c xs) {j:Nat} (v:Value):Own (w.setCell ⟨g,j,none⟩ v) base e 1 (Option.some ⟨g,0,none⟩) n c (xs.set j v):=by
 obtain ⟨h1,h2⟩:=h
 refine ⟨by rw [List.length_set];exact h1,.inr ?_⟩
 rcases h2 with ⟨h3,_⟩ | ⟨g',cap,cur,h3,h4,h5,h6,h7,h8,h9⟩
 ·simp at h3
 ·simp only [Value.slice.injEq,Option.some.injEq,Addr.mk.injEq,and_true] at h3
  obtain ⟨rfl,_,rfl⟩:=h3
  refine ⟨g,c,cur.set! j v,rfl,h4,heap_setCell_same w g j _ _ _ h5,h6,h7,by simpa using h8,?_⟩
  rw [← h9]
  simp only [Array.set!_eq_setIfInBounds,Array.toList_setIfInBounds,List.take_set]
set_option maxHeartbeats 400000 in
theorem seg_two (n:Int) (hn:0≤n∧n<65536) (base:Nat) (A:Option Addr) (m c:Nat) (xs:List Value) (w:World) (ho:Own w base 5 1 A m c xs) (hb:base≤w.heap.size) (hm:m≤1000000) :
  Calls Try.prog 110 #[.slice A m c,.int .i64 n] w fun e w'=>∃ A' c',e=.returned (.slice A' (m+2) c')∧Own w' base 5 1 A' (m+2) c' (xs ++ (sg.two n).map u8v)∧Grew w w' A A':=by
 have HO:=Lib.hid ho
 obtain ⟨h1,h2⟩:=hn
 have HV:Hid ((sg.two n).map u8v=[.int .u8 (n / 256),.int .u8 (n % 256)]):=Lib.hid (by
  simp only [sg.two,List.map_cons,List.map_nil,u8v,byteOf_toNat]
  congr 2
  omega)
 clear ho
 go_enter Try.func110,Try.ntmps110
 go_wp2_with (at_builtin;(refine wp_app _ rfl _ _ _ rfl elemU8 base A _ c _ rfl (HO.out.alloc _) _ 2 2 [_,_] rfl rfl (Cells.newAt _ _ _ rfl) (by simp [Value.oneCell']) (by omega) (by unfold maxLen;omega) (by simp;omega) ?_;intro A2 c2 w2 hO2 hg2;have HO2:=Lib.hid hO2;clear hO2))
 go_ret
 exact ⟨A2,c2,rfl,by rw [HV.out];exact HO2.out,((Grew.refl w A).alloc _).trans hg2⟩
theorem bits_or_u8 (f k:Int) (hf:(0≤f∧f<k)) (hk:k=1∨k=2∨k=4∨k=8):bits .or .u8 f k=f+k:=by
 rcases hk with rfl | rfl | rfl | rfl
 ·obtain rfl:f=0:=by omega
  decide
 ·obtain rfl | rfl:f=0∨f=1:=by omega
  all_goals decide
 ·obtain rfl | rfl | rfl | rfl:f=0∨f=1∨f=2∨f=3:=by omega
  all_goals decide
 ·obtain rfl | rfl | rfl | rfl | rfl | rfl | rfl | rfl:f=0∨f=1∨f=2∨f=3∨f=4∨f=5∨f=6∨f=7:=by omega
  all_goals decide
/-- block g holds the segment -/
def SegAt (w:World) (g:Nat) (s:Segment) (A0:Option Addr) (c0:Nat) (A1:Option Addr) (c1:Nat):Prop:=
 g<w.heap.size∧w.cell? ⟨g,0,none⟩=some (.int .i64 s.seq)∧w.cell? ⟨g,1,none⟩=some (.int .i64 s.ack)∧w.cell? ⟨g,2,none⟩=some (.int .i64 s.window)∧w.cell? ⟨g,3,none⟩=some (.bool s.syn)∧w.cell? ⟨g,4,none⟩=some (.bool s.fin) ∧
 w.cell? ⟨g,5,none⟩=some (.bool s.rst)∧w.cell? ⟨g,6,none⟩=some (.bool s.acks)∧w.cell? ⟨g,7,none⟩=some (.slice A0 s.sacks.length c0)∧w.cell? ⟨g,8,none⟩=some (.slice A1 s.data.length c1)
theorem SegAt.below {w w':World} {g:Nat} {s:Segment} {A0:Option Addr} {c0:Nat} {A1:Option Addr} {c1:Nat} (h:SegAt w g s A0 c0 A1 c1) {B:Nat} (hb:Below B w w') (hg:g<B):SegAt w' g s A0 c0 A1 c1:=by
 obtain ⟨h0,h1,h2,h3,h4,h5,h6,h7,h8,h9⟩:=h
 have k:∀ o,w'.cell? ⟨g,o,none⟩=w.cell? ⟨g,o,none⟩:=fun o=>hb.cell (p:=⟨g,o,none⟩) hg
 exact ⟨Nat.lt_of_lt_of_le h0 hb.size,(k _).trans h1,(k _).trans h2,(k _).trans h3,(k _).trans h4,(k _).trans h5,(k _).trans h6,(k _).trans h7,(k _).trans h8,(k _).trans h9⟩
set_option maxHeartbeats 400000 in
theorem seg_flags (g:Nat) (w:World) (hg:g<w.heap.size) :
  Calls Try.prog 111 #[.pointer (some ⟨g,0,none⟩)] w fun e w'=>e=.returned (.agg #[.pointer (some ⟨g,3,none⟩),.pointer (some ⟨g,4,none⟩),.pointer (some ⟨g,5,none⟩),.pointer (some ⟨g,6,none⟩)])∧Below w.heap.size w w':=by
 go_enter Try.func111,Try.ntmps111
 go_wp2
 go_region
 go_wp2
 exact bodyPost_ret (v:=.agg #[.pointer (some ⟨g,3,none⟩),.pointer (some ⟨g,4,none⟩),.pointer (some ⟨g,5,none⟩),.pointer (some ⟨g,6,none⟩)]) (by first | (simp [results,Try.results111,go_sem];done) | (simp [results,Try.results111,go_sem, *];done)) rfl ⟨rfl,(by repeat (first | (with_reducible first | exact Below.refl _ _ | assumption | refine bset ?_ ?_ _ | refine balloc ?_ _ | refine Below.drew ?_ | refine bdrewN ?_ _ | refine bnext ?_ (by with_reducible assumption)) | exact Nat.le_refl _ | (simp;done) | omega | (simp;omega)))⟩
theorem flags_at0 (g:Nat) (W:World):(Instr.index 178 (.agg #[.pointer (some ⟨g,3,none⟩),.pointer (some ⟨g,4,none⟩),.pointer (some ⟨g,5,none⟩),.pointer (some ⟨g,6,none⟩)]) (.int .i64 0)).run Try.prog W=.ok (.pointer (some ⟨g,3,none⟩)) W:=by kernel_rfl
theorem flags_at1 (g:Nat) (W:World):(Instr.index 178 (.agg #[.pointer (some ⟨g,3,none⟩),.pointer (some ⟨g,4,none⟩),.pointer (some ⟨g,5,none⟩),.pointer (some ⟨g,6,none⟩)]) (.int .i64 1)).run Try.prog W=.ok (.pointer (some ⟨g,4,none⟩)) W:=by kernel_rfl
theorem flags_at2 (g:Nat) (W:World):(Instr.index 178 (.agg #[.pointer (some ⟨g,3,none⟩),.pointer (some ⟨g,4,none⟩),.pointer (some ⟨g,5,none⟩),.pointer (some ⟨g,6,none⟩)]) (.int .i64 2)).run Try.prog W=.ok (.pointer (some ⟨g,5,none⟩)) W:=by kernel_rfl
theorem flags_at3 (g:Nat) (W:World):(Instr.index 178 (.agg #[.pointer (some ⟨g,3,none⟩),.pointer (some ⟨g,4,none⟩),.pointer (some ⟨g,5,none⟩),.pointer (some ⟨g,6,none⟩)]) (.int .i64 3)).run Try.prog W=.ok (.pointer (some ⟨g,6,none⟩)) W:=by kernel_rfl
set_option maxRecDepth 100000 in
set_option maxHeartbeats 2000000 in
theorem seg_Encode_no (s:Segment) (A0 A1:Option Addr) (c0 c1:Nat) (w:World) (h0:SlRep Rng.rep w (· < w.heap.size) s.sacks A0 c0) (hn0:s.sacks.length≤140737488351232) (hn1:s.data.length≤140737488351232) (hf:sg.fault s≠0) :
  Calls Try.prog 100 #[s.val A0 c0 A1 c1] w fun e w'=>e=.returned (.tuple #[.slice none 0 0,.int .i64 (sg.fault s)])∧Below w.heap.size w w':=by
 have H:=Lib.hid (fun w' hb=>seg_fault s A0 A1 c0 c1 w' (SlRep.next (w:=w) (w':=w') h0 hb) hn0 hn1)
 have hb1:(sg.fault s == 0)=false:=by rw [beq_eq_false_iff_ne];exact hf
 have hb2:(sg.fault s != 0)=true:=by rw [bne,hb1];rfl
 clear h0 hf
 unfold Segment.val at *
 generalize sg.fault s=ft at *
 obtain ⟨seq,ack,window,syn,fin,rst,acks,sacks,data⟩:=s
 dsimp only at *
 go_enter Try.func100,Try.ntmps100
 go_wp2_with (go_at_call 109;refine (H.out _ (balloc (bself w) _)).mono ?_;rintro e w2 ⟨rfl,hb3⟩)
 go_ret2
 exact ⟨rfl,(by repeat (first | (with_reducible first | exact Below.refl _ _ | assumption | refine bset ?_ ?_ _ | refine balloc ?_ _ | refine Below.drew ?_ | refine bdrewN ?_ _ | refine bnext ?_ (by with_reducible assumption)) | exact Nat.le_refl _ | (simp;done) | omega | (simp;omega)))⟩
theorem Own.frozen_ {w:World} {base:Nat} {e:TypeId} {size g n c:Nat} {xs:List Value} (h:Own w base e size (Option.some ⟨g,0,none⟩) n c xs) (o:Nat):w.frozen? ⟨g,o,none⟩=false:=by
 rcases h.2 with ⟨h1,_⟩ | ⟨g',cap,cur,h1,_,h3,_⟩
 ·simp at h1
 ·simp only [Value.slice.injEq,Option.some.injEq,Addr.mk.injEq,and_true] at h1
  obtain ⟨rfl,_,rfl⟩:=h1
  simp [World.frozen?,h3]
theorem seg_bare_cells {w:World} {base:Nat} {s:Segment} {A:Option Addr} {n c:Nat} (h:Own w base 5 1 A n c ((sg.head s ++ sg.ranges s s.sacks.length).map u8v ++ s.data.map u8v)) :
  ∃ g,A=some ⟨g,0,none⟩∧base≤g∧w.cell? ⟨g,8,none⟩=some (.int .u8 0)∧w.cell? ⟨g,9,none⟩=some (.int .u8 0)∧(∀ o,w.frozen? ⟨g,o,none⟩=false)∧g<w.heap.size:=by
 obtain ⟨g,e,hb,hg,hc⟩:=h.cell (j:=8) (u:=.int .u8 0) rfl
 obtain ⟨g',e',_,_,hc'⟩:=h.cell (j:=9) (u:=.int .u8 0) rfl
 subst e
 simp only [Option.some.injEq,Addr.mk.injEq,and_true] at e'
 subst e'
 exact ⟨g,rfl,hb,hc,hc',h.frozen_,hg⟩
theorem seg_bare_sum {w:World} {base:Nat} {s:Segment} {A:Option Addr} {c:Nat} (h:Own w base 5 1 A (10+4 * s.sacks.length+s.data.length) c ((sg.head s ++ sg.ranges s s.sacks.length).map u8v ++ s.data.map u8v))
  (hn:10+4 * s.sacks.length+s.data.length≤1000):Calls Try.prog 112 #[.slice A (10+4 * s.sacks.length+s.data.length) c] w fun e w'=>e=.returned (.int .i64 (sg.sumOf (sg.bare s)))∧w=w':=by
 rw [← List.map_append] at h
 have h2:Own w base 5 1 A (10+4 * s.sacks.length+s.data.length) c ((sg.bare s).map u8v):=h
 rw [← sg.bare_length s] at h2 ⊢
 exact inet_Sum (sg.bare s) A c _ w h2.u8.2 (by have:=sg.bare_length s;omega)
set_option maxRecDepth 100000 in
set_option maxHeartbeats 2000000 in
theorem seg_Encode_ok (s:Segment) (A0 A1:Option Addr) (c0 c1:Nat) (w:World) (h0:SlRep Rng.rep w (· < w.heap.size) s.sacks A0 c0) (h1:SlRep Rep.u8 w (· < w.heap.size) s.data A1 c1) (hf:sg.fault s=0) :
    Calls Try.prog 100 #[s.val A0 c0 A1 c1] w (BytesRes (.ok (sg.summed (sg.bare s))) w):=by
  obtain ⟨hk1,hk2,hk3,hk4,_⟩:=sg.fault_zero hf
  have hq:(0≤s.seq∧s.seq<65536)∧(0≤s.ack∧s.ack<65536)∧(0≤s.window∧s.window<65536):=by unfold sg.bad1 at hk1;omega
  have HQ:=Lib.hid hq
  have HALL:=Lib.hid hk4
  have H:=Lib.hid (fun w' hb=>seg_fault s A0 A1 c0 c1 w' (SlRep.next (w:=w) (w':=w') h0 hb) (by omega) (by omega))
  have H0:=Lib.hid h0
  have H1:=Lib.hid h1
  have HFZ:=Lib.hid hf
  have hcx:SegAt (w.alloc (.cells #[.int .i64 s.seq,.int .i64 s.ack,.int .i64 s.window,.bool s.syn,.bool s.fin,.bool s.rst,.bool s.acks,.slice A0 s.sacks.length c0,.slice A1 s.data.length c1] 134)) w.heap.size s A0 c0 A1 c1:=⟨by simp,by simp [go_sem],by simp [go_sem],by simp [go_sem],by simp [go_sem],by simp [go_sem],by simp [go_sem],by simp [go_sem],by simp [go_sem],by simp [go_sem]⟩
  have HCX:=Lib.hid hcx
  have hb0:Below w.heap.size w (w.alloc (.cells #[.int .i64 s.seq,.int .i64 s.ack,.int .i64 s.window,.bool s.syn,.bool s.fin,.bool s.rst,.bool s.acks,.slice A0 s.sacks.length c0,.slice A1 s.data.length c1] 134)):=balloc (bself w) _
  have hs0:w.heap.size<(w.alloc (.cells #[.int .i64 s.seq,.int .i64 s.ack,.int .i64 s.window,.bool s.syn,.bool s.fin,.bool s.rst,.bool s.acks,.slice A0 s.sacks.length c0,.slice A1 s.data.length c1] 134)).heap.size:=by simp
  clear h0 h1 hk1 hk4 hq hf hcx
  unfold Segment.val
  go_enter Try.func100,Try.ntmps100
  go_wp2_with fail
  generalize w.alloc (.cells #[.int .i64 s.seq,.int .i64 s.ack,.int .i64 s.window,.bool s.syn,.bool s.fin,.bool s.rst,.bool s.acks,.slice A0 s.sacks.length c0,.slice A1 s.data.length c1] 134)=w0 at *
  refine (H.out w0 hb0).mono ?_
  rintro e w1 ⟨rfl,hb1⟩
  rw [HFZ.out]
  have hsz1:=hb1.size
  have HC1:=Lib.hid (HCX.out.below hb1 hs0)
  have hB1:Below w.heap.size w w1:=bnext hb0 hb1
  have hBx1:Below (w.heap.size+1) w0 w1:=hb1.mono (by omega)
  clear HCX H HFZ
  go_wp2_with fail
  obtain ⟨hl,x0,x1,x2,x3,x4,x5,x6,x7,x8⟩:=HC1.out
  go_region_held3 (fun w'=>w'.cell? ⟨w.heap.size,0,none⟩=some (.int .i64 s.seq)∧w'.cell? ⟨w.heap.size,1,none⟩=some (.int .i64 s.ack)∧w'.cell? ⟨w.heap.size,2,none⟩=some (.int .i64 s.window))
    (first
      | go_keep
      | (go_split_ands
         refine ⟨?_,?_,?_⟩ <;> (first
           | (rw [hg2.cell _ (by first | assumption | (simp;assumption)) (fun x hx=>by cases hx)];assumption)
           | (rw [hg3.cell _ (by have:=hg2.grown.size;(try simp only [World.size_drew] at this);omega) (hg2.ne (fun x hx=>by cases hx) (by first | assumption | (simp;assumption)))];assumption)
           | (rw [hg4.cell _ (by have h2:=hg2.grown.size;have h3:=hg3.grown.size;(try simp only [World.size_drew] at h2);(try simp only [World.size_drew] at h3);omega) (hg3.ne (hg2.ne (fun x hx=>by cases hx) (by first | assumption | (simp;assumption))) (by have:=hg2.grown.size;(try simp only [World.size_drew] at this);omega))];assumption)
           | fail))
      | fail)
    (first
      | (go_at_call 110;((with_reducible refine (seg_two s.seq HQ.out.1 (w.heap.size+1) none 0 0 [] _ (Own.nil _ _ _ _) (by (try simp only [World.size_drew]);omega) (by omega)).mono ?_);rintro e w2 ⟨A2,c2,rfl,ho2,hg2⟩))
      | (go_at_call 110;((with_reducible refine (seg_two s.ack HQ.out.2.1 (w.heap.size+1) A2 (0+2) c2 _ _ ho2 (by have:=hg2.grown.size;(try simp only [World.size_drew] at this);omega) (by omega)).mono ?_);rintro e w3 ⟨A3,c3,rfl,ho3,hg3⟩))
      | (go_at_call 110;((with_reducible refine (seg_two s.window HQ.out.2.2 (w.heap.size+1) A3 (0+2+2) c3 _ _ ho3 (by have h2:=hg2.grown.size;have h3:=hg3.grown.size;(try simp only [World.size_drew] at h2);(try simp only [World.size_drew] at h3);omega) (by omega)).mono ?_);rintro e w4 ⟨A4,c4,rfl,ho4,hg4⟩))
      | fail)
  have hn2:=hg2.grown.size
  have hn3:=hg3.grown.size
  have hn4:=hg4.grown.size
  simp only [World.size_drew] at hn2
  have hb12:Below (w.heap.size+1) w1 w2:=(Below.drew (Below.refl _ w1)).trans (hg2.below (by simp only [World.size_drew];omega) (fun k hk=>by cases hk))
  have hb13:Below (w.heap.size+1) w1 w3:=hb12.trans (hg3.below (by omega) (fun k hk=>(ho2.lt k hk).1))
  have hb14:Below (w.heap.size+1) w1 w4:=hb13.trans (hg4.below (by omega) (fun k hk=>(ho3.lt k hk).1))
  have hB4:Below w.heap.size w w4:=hB1.trans (hb14.mono (by omega))
  have HC4:=Lib.hid (HC1.out.below hb14 (Nat.lt_succ_self _))
  have HO4:=Lib.hid ho4
  clear ho2 ho3 ho4 hg2 hg3 hg4 hb12 hb13 HC1 x0 x1 x2 x3 x4 x5 x6 x7 x8 hb14
  have hl4:w.heap.size<w4.heap.size:=by omega
  go_wp2_with (go_at_call 111;refine (seg_flags w.heap.size _ hl4).mono ?_;rintro e w5 ⟨rfl,hb5⟩)
  have HC5:=Lib.hid (HC4.out.below hb5 hl4)
  have HO5:=Lib.hid (HO4.out.next hb5)
  have hB5:Below w.heap.size w w5:=bnext hB4 hb5
  have hsz5:=hb5.size
  clear HC4 HO4
  obtain ⟨f1,HF1,lf1,lf1'⟩:∃ f1:Int,Hid (f1=if s.syn then 1 else 0)∧0≤f1∧f1<2:=⟨_,Lib.hid rfl,by split <;> omega,by split <;> omega⟩
  obtain ⟨f2,HF2,lf2,lf2'⟩:∃ f2:Int,Hid (f2=f1+if s.fin then 2 else 0)∧0≤f2∧f2<4:=⟨_,Lib.hid rfl,by split <;> omega,by split <;> omega⟩
  obtain ⟨f3,HF3,lf3,lf3'⟩:∃ f3:Int,Hid (f3=f2+if s.rst then 4 else 0)∧0≤f3∧f3<8:=⟨_,Lib.hid rfl,by split <;> omega,by split <;> omega⟩
  obtain ⟨f4,HF4,lf4,lf4'⟩:∃ f4:Int,Hid (f4=f3+if s.acks then 8 else 0)∧0≤f4∧f4<16:=⟨_,Lib.hid rfl,by split <;> omega,by split <;> omega⟩
  have HFL:Hid (f4=sg.flagsOf s):=Lib.hid (by rw [HF4.out,HF3.out,HF2.out,HF1.out];rfl)
  go_loop [6,7,8,27] (fun f _ _ i=>(i=.int .i64 0∧f=.int .u8 0)∨(i=.int .i64 1∧f=.int .u8 f1)∨(i=.int .i64 2∧f=.int .u8 f2)∨(i=.int .i64 3∧f=.int .u8 f3)∨(i=.int .i64 4∧f=.int .u8 f4)) (fun _ _ _ i=>4 - (intOf i).toNat)
  case atStart=>exact .inl ⟨rfl,rfl⟩
  case round=>
    have i0:=flags_at0 w.heap.size
    have i1:=flags_at1 w.heap.size
    have i2:=flags_at2 w.heap.size
    have i3:=flags_at3 w.heap.size
    obtain ⟨hl5,y0,y1,y2,y3,y4,y5,y6,y7,y8⟩:=HC5.out
    rcases hrel with ⟨rfl,rfl⟩ | ⟨rfl,rfl⟩ | ⟨rfl,rfl⟩ | ⟨rfl,rfl⟩ | ⟨rfl,rfl⟩
    · by_cases hb:s.syn=true
      · rw [hb] at y3
        have HB:=Lib.hid hb
        clear hb
        go_wp2
        go_round
        case rel=>exact .inr (.inl ⟨rfl,by rw [HF1.out,HB.out];first | done | rfl | simp⟩)
        case measure=>simp [intOf]
      · have hb2:s.syn=false:=by simpa using hb
        rw [hb2] at y3
        have HB:=Lib.hid hb2
        clear hb hb2
        go_wp2
        go_round
        case rel=>exact .inr (.inl ⟨rfl,by rw [HF1.out,HB.out];first | done | rfl | simp⟩)
        case measure=>simp [intOf]
    · by_cases hb:s.fin=true
      · rw [hb] at y4
        have HB:=Lib.hid hb
        clear hb
        go_wp2
        go_round
        case rel=>exact .inr (.inr (.inl ⟨rfl,by rw [HF2.out,HB.out,bits_or_u8 f1 2 ⟨lf1,lf1'⟩ (by simp)];first | done | rfl | simp⟩))
        case measure=>simp [intOf]
      · have hb2:s.fin=false:=by simpa using hb
        rw [hb2] at y4
        have HB:=Lib.hid hb2
        clear hb hb2
        go_wp2
        go_round
        case rel=>exact .inr (.inr (.inl ⟨rfl,by rw [HF2.out,HB.out];first | done | simp⟩))
        case measure=>simp [intOf]
    · by_cases hb:s.rst=true
      · rw [hb] at y5
        have HB:=Lib.hid hb
        clear hb
        go_wp2
        go_round
        case rel=>exact .inr (.inr (.inr (.inl ⟨rfl,by rw [HF3.out,HB.out,bits_or_u8 f2 4 ⟨lf2,lf2'⟩ (by simp)];first | done | rfl | simp⟩)))
        case measure=>simp [intOf]
      · have hb2:s.rst=false:=by simpa using hb
        rw [hb2] at y5
        have HB:=Lib.hid hb2
        clear hb hb2
        go_wp2
        go_round
        case rel=>exact .inr (.inr (.inr (.inl ⟨rfl,by rw [HF3.out,HB.out];first | done | simp⟩)))
        case measure=>simp [intOf]
    · by_cases hb:s.acks=true
      · rw [hb] at y6
        have HB:=Lib.hid hb
        clear hb
        go_wp2
        go_round
        case rel=>exact .inr (.inr (.inr (.inr ⟨rfl,by rw [HF4.out,HB.out,bits_or_u8 f3 8 ⟨lf3,lf3'⟩ (by simp)];first | done | rfl | simp⟩)))
        case measure=>simp [intOf]
      · have hb2:s.acks=false:=by simpa using hb
        rw [hb2] at y6
        have HB:=Lib.hid hb2
        clear hb hb2
        go_wp2
        go_round
        case rel=>exact .inr (.inr (.inr (.inr ⟨rfl,by rw [HF4.out,HB.out];first | done | simp⟩)))
        case measure=>simp [intOf]
    · clear HF1 HF2 HF3 HF4
      clear i0 i1 i2 i3
      have HV1:Hid ([u8v (byteOf (sg.flagsOf s)),u8v (byteOf s.sacks.length)]=[.int .u8 f4,.int .u8 (s.sacks.length:Int)]):=Lib.hid (by
        unfold u8v
        rw [byteOf_toNat,byteOf_toNat,← HFL.out,Int.emod_eq_of_lt lf4 (by omega),Int.emod_eq_of_lt (by omega) (by omega)])
      have hlk:(s.sacks.length:Int)≤3:=by omega
      go_wp2_with (first
        | (at_builtin;(refine wp_app _ rfl _ _ _ rfl elemU8 (w.heap.size+1) A4 _ c4 _ rfl (HO5.out.alloc _) _ 2 2 [_,_] rfl rfl (Cells.newAt _ _ _ rfl) (by simp [Value.oneCell']) (by omega) (by unfold maxLen;omega) (by simp;omega) ?_;intro A6 c6 w6 hO6 hg6;have HO6:=Lib.hid hO6;clear hO6))
        | (go_at_call 110;(refine (seg_two 0 (by omega) (w.heap.size+1) A6 _ c6 _ _ HO6.out (by have:=hg6.grown.size;simp at this;omega) (by omega)).mono ?_;rintro e w7 ⟨A7,c7,rfl,ho7,hg7⟩;have HO7:=Lib.hid ho7;clear ho7;have hgg:Grew w5 w7 A4 A7:=(((Grew.refl w5 A4).alloc _).trans hg6).trans hg7;have hb57:Below (w.heap.size+1) w5 w7:=hgg.below (by omega) (fun k hk=>(HO5.out.lt k hk).1);have HC7:=Lib.hid (HC5.out.below hb57 (Nat.lt_succ_self _));have hsz7:=hgg.grown.size;have x7:=HC7.out.2.2.2.2.2.2.2.2.1;clear hgg)))
      have hB7:Below w.heap.size w w7:=hB5.trans (hb57.mono (by omega))
      have HOH:Hid (Own w7 (w.heap.size+1) 5 1 A7 10 c7 ((sg.head s ++ sg.ranges s 0).map u8v)):=Lib.hid (by
        have e:(sg.head s ++ sg.ranges s 0).map u8v=(([] ++ (sg.two s.seq).map u8v ++ (sg.two s.ack).map u8v ++ (sg.two s.window).map u8v) ++ [.int .u8 f4,.int .u8 (s.sacks.length:Int)]) ++ (sg.two 0).map u8v:=by
          rw [← HV1.out]
          simp [sg.head,sg.ranges,sg.two,u8v]
          decide
        rw [e]
        exact HO7.out)
      clear HO7 HV1 HFL HO5 HC5
      go_loopw [5,51] (fun b i wr=>∃ (k:Nat) (A':Option Addr) (c':Nat),k≤s.sacks.length∧i=.int .i64 k∧b=.slice A' (10+4 * k) c'∧Hid (Own wr (w.heap.size+1) 5 1 A' (10+4 * k) c' ((sg.head s ++ sg.ranges s k).map u8v))∧Below (w.heap.size+1) w7 wr) (fun _ i _=>s.sacks.length - (intOf i).toNat)
      case atStart=>exact ⟨0,A7,c7,by omega,rfl,rfl,HOH,Below.refl _ _⟩
      case round=>
        obtain ⟨k,A',c',hk,rfl,rfl,HO,hB⟩:=hrel
        rename World=>wr
        have hszr:=hB.size
        have hBw:Below w.heap.size w wr:=hB7.trans (hB.mono (by omega))
        by_cases hlt:k<s.sacks.length
        · obtain ⟨bb,oo,rfl,hbb,d1,d2⟩:=Rng.cells_at ⟨0,0⟩ (H0.out.below hBw) hlt
          have hbw:bb<wr.heap.size:=by omega
          have hr:=sg.rngOk_iff.1 (sg.all_true HALL.out hlt ⟨0,0⟩)
          have HR:=Lib.hid hr
          have HRG:Hid ((sg.head s ++ sg.ranges s (k+1)).map u8v=(sg.head s ++ sg.ranges s k).map u8v ++ (sg.two (s.sacks.getD k ⟨0,0⟩).lo).map u8v ++ (sg.two (s.sacks.getD k ⟨0,0⟩).hi).map u8v):=Lib.hid (by simp [sg.ranges])
          clear hr HOH x7
          generalize s.sacks.getD k ⟨0,0⟩=r at *
          obtain ⟨w8,hw8⟩:∃ w8,w8=wr.alloc (.cells #[.int .i64 r.lo,.int .i64 r.hi] 78):=⟨_,rfl⟩
          have y1:w8.cell? ⟨wr.heap.size,0,none⟩=some (.int .i64 r.lo):=by rw [hw8];simp [go_sem]
          have y2:w8.cell? ⟨wr.heap.size,1,none⟩=some (.int .i64 r.hi):=by rw [hw8];simp [go_sem]
          have hs8:wr.heap.size<w8.heap.size:=by rw [hw8];simp
          have HO8:Hid (Own w8 (w.heap.size+1) 5 1 A' (10+4 * k) c' ((sg.head s ++ sg.ranges s k).map u8v)):=Lib.hid (by rw [hw8];exact HO.out.alloc _)
          have hb8:Below (w.heap.size+1) wr w8:=by rw [hw8];exact (Below.refl _ _).alloc (by omega) _
          go_wp2_with fail
          rw [← hw8]
          clear hw8 d1 d2
          go_region_held3 (fun w'=>w'.cell? ⟨wr.heap.size,0,none⟩=some (.int .i64 r.lo)∧w'.cell? ⟨wr.heap.size,1,none⟩=some (.int .i64 r.hi))
            (first
              | go_keep
              | (go_split_ands
                 refine ⟨?_,?_⟩ <;> (first
                   | (rw [hg2.cell _ (by first | assumption | (simp;assumption)) (fun x hx=>by have:=(HO.out.lt x hx).2;omega)];assumption)
                   | (rw [hg3.cell _ (by have:=hg2.grown.size;(try simp only [World.size_drew] at this);omega) (hg2.ne (fun x hx=>by have:=(HO.out.lt x hx).2;omega) (by first | assumption | (simp;assumption)))];assumption)
                   | fail))
              | fail)
            (first
              | (go_at_call 110;((with_reducible refine (seg_two r.lo HR.out.1 (w.heap.size+1) A' (10+4 * k) c' _ _ HO8.out.drew (by (try simp only [World.size_drew]);omega) (by omega)).mono ?_);rintro e w9 ⟨A2,c2,rfl,ho2,hg2⟩))
              | (go_at_call 110;((with_reducible refine (seg_two r.hi HR.out.2 (w.heap.size+1) A2 (10+4 * k+2) c2 _ _ ho2 (by have:=hg2.grown.size;(try simp only [World.size_drew] at this);omega) (by omega)).mono ?_);rintro e w10 ⟨A3,c3,rfl,ho3,hg3⟩))
              | fail)
          have hgg:Grew w8.drew w10 A' A3:=hg2.trans hg3
          have HO9:Hid (Own w10 (w.heap.size+1) 5 1 A3 (10+4 * (k+1)) c3 ((sg.head s ++ sg.ranges s (k+1)).map u8v)):=Lib.hid (by rw [HRG.out];exact ho3)
          clear ho2 ho3 hg2 hg3 HRG
          go_wp2
          go_roundw
          case rel=>exact ⟨k+1,A3,c3,by omega,by go_num,rfl,HO9,(hB.trans hb8.drew).trans (hgg.below (by simp only [World.size_drew];omega) (fun x hx=>(HO.out.lt x hx).1))⟩
          case measure=>simp [intOf];omega
        · obtain rfl:k=s.sacks.length:=by omega
          have HC8:=Lib.hid (HC7.out.below hB (Nat.lt_succ_self _))
          have x8:=HC8.out.2.2.2.2.2.2.2.2.2
          have hlw:w.heap.size<wr.heap.size:=by omega
          clear HOH x7 HC7
          obtain ⟨sm,HSM,lsm,lsm'⟩:∃ sm:Int,Hid (sm=sg.sumOf (sg.bare s))∧0≤sm∧sm≤65535:=⟨_,Lib.hid rfl,(sg.sumOf_bd _).1,(sg.sumOf_bd _).2⟩
          go_wp2_with (at_builtin;(refine wp_app _ rfl _ _ _ rfl elemU8 (w.heap.size+1) A' _ c' _ rfl HO.out A1 s.data.length c1 (s.data.map u8v) rfl (by simp) (by exact (H1.out.below hBw).cells_u8) (oneCell_u8 _) (by omega) (by unfold maxLen;omega) (by omega) ?_;intro A9 c9 w9 hO9 hg9;obtain ⟨g,rfl,hg1,z8,z9,hzf,hzl⟩:=seg_bare_cells hO9;have HO9:=Lib.hid hO9;have hSU:=seg_bare_sum hO9 (by omega);rw [← HSM.out] at hSU;have HSU:=Lib.hid hSU;clear hO9 hSU))
          clear x8
          refine HSU.out.mono ?_
          rintro e w10 ⟨rfl,rfl⟩
          go_wp2
          go_ret2
          refine BytesRes.yes rfl (Own.base_le (?_:Own _ (w.heap.size+1) 5 1 _ _ _ _) (Nat.le_succ _)) ?_
          · have h:=(HO9.out.set (j:=8) (.int .u8 (sm / 256))).set (j:=9) (.int .u8 (sm % 256))
            have e:(sg.summed (sg.bare s)).map u8v=(((sg.head s ++ sg.ranges s s.sacks.length).map u8v ++ s.data.map u8v).set 8 (.int .u8 (sm / 256))).set 9 (.int .u8 (sm % 256)):=by
              rw [← List.map_append,sg.summed,List.map_set,List.map_set,← HSM.out]
              unfold u8v
              rw [byteOf_toNat,byteOf_toNat,Int.emod_eq_of_lt (by omega) (by omega)]
              rfl
            rw [e]
            exact h
          · exact ((Grew.step hBw hg9 (fun x hx=>by have:=(HO.out.lt x hx).1;omega)).setCell (p:=⟨g,8,none⟩) (by show w.heap.size≤g;omega) _).setCell (p:=⟨g,9,none⟩) (by show w.heap.size≤g;omega) _
theorem seg_Encode_res (s:Segment) (A0 A1:Option Addr) (c0 c1:Nat) (w:World) (h0:SlRep Rng.rep w (· < w.heap.size) s.sacks A0 c0) (h1:SlRep Rep.u8 w (· < w.heap.size) s.data A1 c1) (hn0:s.sacks.length≤140737488351232) (hn1:s.data.length≤140737488351232) :
  Calls Try.prog 100 #[s.val A0 c0 A1 c1] w (BytesRes (sg.enc s) w):=by
 by_cases hf:sg.fault s=0
 ·rw [show sg.enc s=.ok (sg.summed (sg.bare s)) from if_pos hf]
  exact seg_Encode_ok s A0 A1 c0 c1 w h0 h1 hf
 ·rw [show sg.enc s=.error (sg.fault s) from if_neg hf]
  exact (seg_Encode_no s A0 A1 c0 c1 w h0 hn0 hn1 hf).mono fun e w' ⟨he,hb⟩=>by
   subst he
   exact BytesRes.no rfl hb
end Go.Proofs.Ytdldfllllgogoaa
