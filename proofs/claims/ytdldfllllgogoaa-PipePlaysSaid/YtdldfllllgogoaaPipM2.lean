/- Texts in one: Hole, AddP, Add4, Hole2, AddH, Sacks, Back, SacksI. No condition. -/
import Derived.Test.YtdldfllllgogoaaPipM1
import Derived.Deep.DeepCutAuto
import Derived.IntWalk
import Derived.RangeFuncNested
import Derived.RangeFuncBound
import Derived.RangeFuncCalls
import Derived.RangeFuncLeaves
import Derived.RangeFuncBox
import Derived.Shelf.Abstract
import Derived.OwnWalkIn
import Derived.TacticsInMore
import Derived.LoopNIn
import Derived.LoopIn
namespace Go.Proofs.Ytdldfllllgogoaa
open Go.RowKit
/-! ### The plain law -/
/-- where the range ahead of the i-th one ends -/
def endAt (done:Int) (l:List Rng) (i:Nat):Int:=if i=0 then done else (l.getD (i - 1) Rng.z).hi
/-- the first n ranges lie one behind the other -/
def Chain (done:Int) (l:List Rng) (n:Nat):Prop:=∀ i,i<n→endAt done l i<(l.getD i Rng.z).lo∧(l.getD i Rng.z).lo<(l.getD i Rng.z).hi
def HoleMay (done:Int) (l:List Rng):Prop:=0≤done∧done≤1048576∧l.length≤16∧Chain done l l.length∧endAt done l l.length≤1048576
open Classical in
noncomputable def holeMayB (done:Int) (l:List Rng):Bool:=decide (HoleMay done l)
theorem holeMayB_true {done:Int} {l:List Rng} (h:HoleMay done l):holeMayB done l=true:=by simp [holeMayB,h]
theorem holeMayB_false {done:Int} {l:List Rng} (h:¬ HoleMay done l):holeMayB done l=false:=by simp [holeMayB,h]
theorem endAt_succ (done:Int) (l:List Rng) (i:Nat):endAt done l (i+1)=(l.getD i Rng.z).hi:=by simp [endAt]
theorem Chain.snoc {done:Int} {l:List Rng} {n:Nat} (h:Chain done l n) (h1:endAt done l n<(l.getD n Rng.z).lo) (h2:(l.getD n Rng.z).lo<(l.getD n Rng.z).hi):Chain done l (n+1):=by
 intro i hi
 rcases Nat.lt_or_ge i n with h' | h'
 ·exact h i h'
 ·obtain rfl:i=n:=by omega
  exact ⟨h1,h2⟩
theorem Chain.le {done : Int} {l : List Rng} {n : Nat} (h : Chain done l n) : ∀ i, i ≤ n → endAt done l i ≤ endAt done l n := by
  induction n with
  | zero => intro i hi; obtain rfl : i = 0 := by omega
            exact Int.le_refl _
  | succ n ih =>
    intro i hi
    rcases Nat.lt_or_ge i (n + 1) with h' | h'
    · have := ih (fun j hj => h j (by omega)) i (by omega)
      have := h n (by omega)
      rw [endAt_succ]
      omega
    · obtain rfl : i = n + 1 := by omega
      exact Int.le_refl _
/-! ### The walks -/
set_option maxHeartbeats 1000000 in
theorem hole_May (done:Int) (l:List Rng) (A:Option Addr) (c:Nat) (w:World) (hl:SlRep Rng.rep w (· < w.heap.size) l A c) (hn:l.length≤140737488351232) :
  Calls Try.prog 73 #[.int .i64 done,.slice A l.length c] w fun e w'=>e=.returned (.bool (holeMayB done l))∧Below w.heap.size w w':=by
 have HL:=Lib.hid hl
 clear hl
 go_enter Try.func73,Try.ntmps73
 go_wp2
 go_loopw [5,7,11] (fun lo _ i wr=>∃ k:Nat,k≤l.length∧i=.int .i64 k∧lo=.int .i64 (endAt done l k)∧Hid (Chain done l k)∧Below w.heap.size w wr) (fun _ _ i _=>l.length - (intOf i).toNat)
 case atStart=>exact ⟨0,Nat.zero_le _,rfl,rfl,Lib.hid (fun i hi=>absurd hi (Nat.not_lt_zero i)),Below.refl _ _⟩
 case round=>
  obtain ⟨k,hk,rfl,rfl,HC,hB⟩:=hrel
  by_cases hlt:k<l.length
  ·obtain ⟨b,o,rfl,hb,hc1,hc2⟩:=Rng.cells_at Rng.z (HL.out.below hB) hlt
   rename_i wr _
   have hbw:b<wr.heap.size:=Nat.lt_of_lt_of_le hb hB.size
   have HS:=Lib.hid (endAt_succ done l k)
   have HN:Hid (endAt done l k<(l.getD k Rng.z).lo→(l.getD k Rng.z).lo<(l.getD k Rng.z).hi→Chain done l (k+1)):=Lib.hid (fun h1 h2=>HC.out.snoc h1 h2)
   have HF:Hid (¬ (endAt done l k<(l.getD k Rng.z).lo∧(l.getD k Rng.z).lo<(l.getD k Rng.z).hi)→holeMayB done l=false):=Lib.hid (fun h=>holeMayB_false (fun hm=>h (hm.2.2.2.1 k hlt)))
   clear HC HL
   generalize (l.getD k Rng.z).lo=x at *
   generalize (l.getD k Rng.z).hi=y at *
   generalize endAt done l k=e at *
   by_cases c1:e<x
   ·by_cases c2:x<y
    ·go_wp2
     go_roundw
     case rel=>exact ⟨k+1,by omega,by go_num,by rw [HS.out],Lib.hid (HN.out c1 c2),(by repeat (first | (with_reducible first | exact Below.refl _ _ | assumption | refine bset ?_ ?_ _ | refine balloc ?_ _ | refine Below.drew ?_ | refine bdrewN ?_ _ | refine bnext ?_ (by with_reducible assumption)) | exact Nat.le_refl _ | (simp;done) | omega | (simp;omega)))⟩
     case measure=>simp [intOf];omega
    ·go_wp2
     go_ret
     exact ⟨ret_bool (HF.out (by omega)).symm,(by repeat (first | (with_reducible first | exact Below.refl _ _ | assumption | refine bset ?_ ?_ _ | refine balloc ?_ _ | refine Below.drew ?_ | refine bdrewN ?_ _ | refine bnext ?_ (by with_reducible assumption)) | exact Nat.le_refl _ | (simp;done) | omega | (simp;omega)))⟩
   ·go_wp2
    go_ret
    exact ⟨ret_bool (HF.out (by omega)).symm,(by repeat (first | (with_reducible first | exact Below.refl _ _ | assumption | refine bset ?_ ?_ _ | refine balloc ?_ _ | refine Below.drew ?_ | refine bdrewN ?_ _ | refine bnext ?_ (by with_reducible assumption)) | exact Nat.le_refl _ | (simp;done) | omega | (simp;omega)))⟩
  ·obtain rfl:k=l.length:=by omega
   have HT:Hid (0≤done→done≤1048576→l.length≤16→endAt done l l.length≤1048576→holeMayB done l=true):=Lib.hid (fun h1 h2 h3 h4=>holeMayB_true ⟨h1,h2,h3,HC.out,h4⟩)
   have HF:Hid (¬ (0≤done∧done≤1048576∧l.length≤16∧endAt done l l.length≤1048576)→holeMayB done l=false):=Lib.hid (fun h=>holeMayB_false (fun hm=>h ⟨hm.1,hm.2.1,hm.2.2.1,hm.2.2.2.2⟩))
   clear HC HL
   generalize endAt done l l.length=e at *
   by_cases c1:0≤done
   ·by_cases c2:e≤1048576
    ·by_cases c3:done≤1048576
     ·by_cases c4:l.length≤16
      ·go_wp2
       go_ret
       exact ⟨ret_bool (by rw [HT.out c1 c3 c4 c2];simp;omega),(by repeat (first | (with_reducible first | exact Below.refl _ _ | assumption | refine bset ?_ ?_ _ | refine balloc ?_ _ | refine Below.drew ?_ | refine bdrewN ?_ _ | refine bnext ?_ (by with_reducible assumption)) | exact Nat.le_refl _ | (simp;done) | omega | (simp;omega)))⟩
      ·go_wp2
       go_ret
       exact ⟨ret_bool (by rw [HF.out (by omega)];simp;omega),(by repeat (first | (with_reducible first | exact Below.refl _ _ | assumption | refine bset ?_ ?_ _ | refine balloc ?_ _ | refine Below.drew ?_ | refine bdrewN ?_ _ | refine bnext ?_ (by with_reducible assumption)) | exact Nat.le_refl _ | (simp;done) | omega | (simp;omega)))⟩
     ·go_wp2
      go_ret
      exact ⟨ret_bool (by rw [HF.out (by omega)]),(by repeat (first | (with_reducible first | exact Below.refl _ _ | assumption | refine bset ?_ ?_ _ | refine balloc ?_ _ | refine Below.drew ?_ | refine bdrewN ?_ _ | refine bnext ?_ (by with_reducible assumption)) | exact Nat.le_refl _ | (simp;done) | omega | (simp;omega)))⟩
    ·go_wp2
     go_ret
     exact ⟨ret_bool (by rw [HF.out (by omega)]),(by repeat (first | (with_reducible first | exact Below.refl _ _ | assumption | refine bset ?_ ?_ _ | refine balloc ?_ _ | refine Below.drew ?_ | refine bdrewN ?_ _ | refine bnext ?_ (by with_reducible assumption)) | exact Nat.le_refl _ | (simp;done) | omega | (simp;omega)))⟩
   ·go_wp2
    go_ret
    exact ⟨ret_bool (by rw [HF.out (by omega)]),(by repeat (first | (with_reducible first | exact Below.refl _ _ | assumption | refine bset ?_ ?_ _ | refine balloc ?_ _ | refine Below.drew ?_ | refine bdrewN ?_ _ | refine bnext ?_ (by with_reducible assumption)) | exact Nat.le_refl _ | (simp;done) | omega | (simp;omega)))⟩
set_option maxHeartbeats 1000000 in
theorem ref_HoleMay (done:Int) (l:List Rng) (A:Option Addr) (c:Nat) (w:World) (hl:SlRep Rng.rep w (· < w.heap.size) l A c) (hn:l.length≤140737488351232) :
    Calls Try.prog 75 #[.int .i64 done,.slice A l.length c] w fun e w'=>e=.returned (.bool (holeMayB done l))∧Below w.heap.size w w':=by
  by_cases hpre:0≤done∧done≤1048576∧l.length≤16
  · obtain ⟨d1,d2,d3⟩:=hpre
    have HL:=Lib.hid hl
    clear hl
    go_enter Try.func75,Try.ntmps75
    go_wp2
    go_loopw [5,6,7,21] (fun _ _ _ i wr=>∃ k:Nat,k≤l.length∧i=.int .i64 k∧Hid (Chain done l k∧∀ i,i<k→(l.getD i Rng.z).hi≤1048576)∧Below w.heap.size w wr) (fun _ _ _ i _=>l.length - (intOf i).toNat)
    case atStart=>exact ⟨0,Nat.zero_le _,rfl,Lib.hid ⟨fun i hi=>absurd hi (Nat.not_lt_zero i),fun i hi=>absurd hi (Nat.not_lt_zero i)⟩,Below.refl _ _⟩
    case round=>
      obtain ⟨k,hk,rfl,HC,hB⟩:=hrel
      by_cases hlt:k<l.length
      · obtain ⟨b,o,rfl,hb,hc1,hc2⟩:=Rng.cells_at Rng.z (HL.out.below hB) hlt
        rename_i wr _
        have hbw:b<wr.heap.size:=Nat.lt_of_lt_of_le hb hB.size
        have HN:Hid (endAt done l k<(l.getD k Rng.z).lo→(l.getD k Rng.z).lo<(l.getD k Rng.z).hi→(l.getD k Rng.z).hi≤1048576→Chain done l (k+1)∧∀ i,i<k+1→(l.getD i Rng.z).hi≤1048576):=Lib.hid (fun h1 h2 h3=>⟨HC.out.1.snoc h1 h2,fun i hi=>by
          rcases Nat.lt_or_ge i k with h' | h'
          · exact HC.out.2 i h'
          · obtain rfl:i=k:=by omega
            exact h3⟩)
        have HF:Hid (¬ (endAt done l k<(l.getD k Rng.z).lo∧(l.getD k Rng.z).lo<(l.getD k Rng.z).hi∧(l.getD k Rng.z).hi≤1048576)→holeMayB done l=false):=Lib.hid (fun h=>holeMayB_false (fun hm=>h ⟨(hm.2.2.2.1 k hlt).1,(hm.2.2.2.1 k hlt).2,by
          have h1:=hm.2.2.2.1.le (k+1) (by omega)
          rw [endAt_succ] at h1
          have:=hm.2.2.2.2
          omega⟩))
        have hz:k=0→endAt done l k=done:=fun h=>by subst h;rfl
        have hcz:0<k→wr.cell? ⟨b,o+(k - 1) * 2+1,none⟩=some (.int .i64 (endAt done l k)):=fun h0=>by
          obtain ⟨b',o',hbo,_,_,hd⟩:=Rng.cells_at Rng.z (k:=k - 1) (HL.out.below hB) (by omega)
          simp only [Option.some.injEq,Addr.mk.injEq,and_true] at hbo
          obtain ⟨rfl,rfl⟩:=hbo
          rw [hd]
          unfold endAt
          rw [if_neg (by omega)]
        clear HC HL
        generalize (l.getD k Rng.z).lo=x at *
        generalize (l.getD k Rng.z).hi=y at *
        generalize endAt done l k=e at *
        by_cases c0:k=0
        · obtain rfl:e=done:=hz c0
          subst c0
          clear hz hcz
          simp only [Nat.zero_mul,Nat.add_zero] at hc1 hc2
          go_wp2
          all_goals first
            | (go_ret;exact ⟨ret_bool (HF.out (by omega)).symm,(by repeat (first | (with_reducible first | exact Below.refl _ _ | assumption | refine bset ?_ ?_ _ | refine balloc ?_ _ | refine Below.drew ?_ | refine bdrewN ?_ _ | refine bnext ?_ (by with_reducible assumption)) | exact Nat.le_refl _ | (simp;done) | omega | (simp;omega)))⟩)
            | (go_roundw
               case rel=>exact ⟨0+1,by omega,by go_num,Lib.hid (HN.out (by omega) (by omega) (by omega)),(by repeat (first | (with_reducible first | exact Below.refl _ _ | assumption | refine bset ?_ ?_ _ | refine balloc ?_ _ | refine Below.drew ?_ | refine bdrewN ?_ _ | refine bnext ?_ (by with_reducible assumption)) | exact Nat.le_refl _ | (simp;done) | omega | (simp;omega)))⟩
               case measure=>simp [intOf];omega)
        · have hcz':=hcz (by omega)
          clear hz hcz
          have c0':0<k:=by omega
          go_wp2
          all_goals first
            | (go_ret;exact ⟨ret_bool (HF.out (by omega)).symm,(by repeat (first | (with_reducible first | exact Below.refl _ _ | assumption | refine bset ?_ ?_ _ | refine balloc ?_ _ | refine Below.drew ?_ | refine bdrewN ?_ _ | refine bnext ?_ (by with_reducible assumption)) | exact Nat.le_refl _ | (simp;done) | omega | (simp;omega)))⟩)
            | (go_roundw
               case rel=>exact ⟨k+1,by omega,by go_num,Lib.hid (HN.out (by omega) (by omega) (by omega)),(by repeat (first | (with_reducible first | exact Below.refl _ _ | assumption | refine bset ?_ ?_ _ | refine balloc ?_ _ | refine Below.drew ?_ | refine bdrewN ?_ _ | refine bnext ?_ (by with_reducible assumption)) | exact Nat.le_refl _ | (simp;done) | omega | (simp;omega)))⟩
               case measure=>simp [intOf];omega)
      · obtain rfl:k=l.length:=by omega
        have HT:Hid (holeMayB done l=true):=Lib.hid (holeMayB_true ⟨d1,d2,d3,HC.out.1,by
          unfold endAt
          split
          · exact d2
          · exact HC.out.2 _ (by omega)⟩)
        clear HC HL
        go_wp2
        go_ret
        exact ⟨ret_bool HT.out.symm,(by repeat (first | (with_reducible first | exact Below.refl _ _ | assumption | refine bset ?_ ?_ _ | refine balloc ?_ _ | refine Below.drew ?_ | refine bdrewN ?_ _ | refine bnext ?_ (by with_reducible assumption)) | exact Nat.le_refl _ | (simp;done) | omega | (simp;omega)))⟩
  · have hf:holeMayB done l=false:=holeMayB_false (fun hm=>hpre ⟨hm.1,hm.2.1,hm.2.2.1⟩)
    rw [hf]
    clear hl hf
    by_cases c1:0≤done
    · by_cases c2:done≤1048576
      · have c3:16<(l.length:Int):=by omega
        go_enter Try.func75,Try.ntmps75
        go_wp2
        go_ret
        exact ⟨rfl,(by repeat (first | (with_reducible first | exact Below.refl _ _ | assumption | refine bset ?_ ?_ _ | refine balloc ?_ _ | refine Below.drew ?_ | refine bdrewN ?_ _ | refine bnext ?_ (by with_reducible assumption)) | exact Nat.le_refl _ | (simp;done) | omega | (simp;omega)))⟩
      · go_enter Try.func75,Try.ntmps75
        go_wp2
        go_ret
        exact ⟨rfl,(by repeat (first | (with_reducible first | exact Below.refl _ _ | assumption | refine bset ?_ ?_ _ | refine balloc ?_ _ | refine Below.drew ?_ | refine bdrewN ?_ _ | refine bnext ?_ (by with_reducible assumption)) | exact Nat.le_refl _ | (simp;done) | omega | (simp;omega)))⟩
    · go_enter Try.func75,Try.ntmps75
      go_wp2
      go_ret
      exact ⟨rfl,(by repeat (first | (with_reducible first | exact Below.refl _ _ | assumption | refine bset ?_ ?_ _ | refine balloc ?_ _ | refine Below.drew ?_ | refine bdrewN ?_ _ | refine bnext ?_ (by with_reducible assumption)) | exact Nat.le_refl _ | (simp;done) | omega | (simp;omega)))⟩
end Go.Proofs.Ytdldfllllgogoaa
namespace Go.Proofs.Ytdldfllllgogoaa.had
/-- ranges behind lo, one behind the other, with gaps -/
def Canon (lo:Int):List Rng→Prop
 | []=>True
 | r :: l=>lo<r.lo∧r.lo<r.hi∧Canon r.hi l
def inR (r:Rng) (p:Int):Prop:=r.lo≤p∧p<r.hi
def cov (l:List Rng) (p:Int):Prop:=∃ r,r ∈ l∧inR r p
theorem cov_nil (p:Int):¬ cov [] p:=fun ⟨_,h,_⟩=>by cases h
theorem cov_cons {r:Rng} {l:List Rng} {p:Int}:cov (r :: l) p↔inR r p∨cov l p:=by
 unfold cov
 constructor
 ·rintro ⟨s,hs,h⟩
  rcases List.mem_cons.1 hs with rfl | hs
  ·exact .inl h
  ·exact .inr ⟨s,hs,h⟩
 ·rintro (h | ⟨s,hs,h⟩)
  ·exact ⟨r,by simp,h⟩
  ·exact ⟨s,by simp [hs],h⟩
theorem cov_app {l m:List Rng} {p:Int}:cov (l ++ m) p↔cov l p∨cov m p:=by
 induction l with
 | nil=>simp [cov_nil]
 | cons r l ih=>rw [List.cons_append,cov_cons,cov_cons,ih];exact or_assoc.symm
theorem Canon.mem:∀ {l:List Rng} {a:Int},Canon a l→∀ s,s ∈ l→a<s.lo∧s.lo<s.hi
 | [],_,_,s,hs=>by cases hs
 | r :: l,a,h,s,hs=>by
  rcases List.mem_cons.1 hs with rfl | hs
  ·exact ⟨h.1,h.2.1⟩
  ·have:=Canon.mem h.2.2 s hs
   have h1:=h.1
   have h2:=h.2.1
   omega
theorem Canon.weak:∀ {l:List Rng} {a b:Int},Canon a l→(∀ s,s ∈ l→b<s.lo)→Canon b l
 | [],_,_,_,_=>trivial
 | r :: l,_,_,h,hb=>⟨hb r (by simp),h.2.1,h.2.2⟩
theorem Canon.snoc:∀ {l:List Rng} {a:Int} {x:Rng},Canon a l→a<x.lo→(∀ s,s ∈ l→s.hi<x.lo)→x.lo<x.hi→Canon a (l ++ [x])
 | [],_,_,_,h1,_,h3=>⟨h1,h3,trivial⟩
 | r :: l,_,_,h,_,h2,h3=>⟨h.1,h.2.1,Canon.snoc h.2.2 (h2 r (by simp)) (fun s hs=>h2 s (by simp [hs])) h3⟩
theorem Canon.app:∀ {l m:List Rng} {a b:Int},Canon a l→a≤b→(∀ s,s ∈ l→s.hi≤b)→Canon b m→Canon a (l ++ m)
 | [],m,a,b,_,h1,_,h3=>h3.weak fun s hs=>by have:=(h3.mem s hs).1;omega
 | r :: l,_,_,_,h,_,h2,h3=>⟨h.1,h.2.1,Canon.app h.2.2 (h2 r (by simp)) (fun s hs=>h2 s (by simp [hs])) h3⟩
theorem ext:∀ {l m:List Rng} {a b:Int},Canon a l→Canon b m→(∀ p,cov l p↔cov m p)→l=m
 | [],[],_,_,_,_,_=>rfl
 | [],r :: m,_,_,_,h,e=>absurd ((e r.lo).2 (cov_cons.2 (.inl ⟨by omega,h.2.1⟩))) (cov_nil _)
 | r :: l,[],_,_,h,_,e=>absurd ((e r.lo).1 (cov_cons.2 (.inl ⟨by omega,h.2.1⟩))) (cov_nil _)
 | r :: l,s :: m,a,b,h,k,e=>by
  have hr:=h.2.1
  have hs:=k.2.1
  have up:∀ {x:Rng} {q:List Rng} {c:Int},Canon c (x :: q)→∀ p,cov (x :: q) p→x.lo≤p:=fun {x q c} hc p hp=>by
   rcases cov_cons.1 hp with hp | ⟨y,hy,hp⟩
   ·exact hp.1
   ·have h1:=(Canon.mem hc.2.2 y hy).1
    have h2:=hc.2.1
    have h3:=hp.1
    omega
  have over:∀ {x:Rng} {q:List Rng} {c:Int},Canon c (x :: q)→¬ cov (x :: q) x.hi:=fun {x q c} hc hp=>by
   rcases cov_cons.1 hp with hp | ⟨y,hy,hp⟩
   ·have:=hp.2;omega
   ·have h1:=(Canon.mem hc.2.2 y hy).1
    have h3:=hp.1
    omega
  have e1:s.lo≤r.lo:=up k _ ((e r.lo).1 (cov_cons.2 (.inl ⟨by omega,hr⟩)))
  have e2:r.lo≤s.lo:=up h _ ((e s.lo).2 (cov_cons.2 (.inl ⟨by omega,hs⟩)))
  have e3:r.hi=s.hi:=by
   rcases Int.lt_trichotomy r.hi s.hi with h1 | h1 | h1
   ·exact absurd ((e r.hi).2 (cov_cons.2 (.inl ⟨by omega,h1⟩))) (over h)
   ·exact h1
   ·exact absurd ((e s.hi).1 (cov_cons.2 (.inl ⟨by omega,h1⟩))) (over k)
  have e4:r=s:=by
   cases r;cases s
   simp only [Rng.mk.injEq]
   exact ⟨by simp only at e1 e2;omega,e3⟩
  subst e4
  refine congrArg _ (ext h.2.2 k.2.2 fun p=>?_)
  by_cases hp:inR r p
  ·constructor
   ·rintro ⟨y,hy,hyp⟩
    have:=(Canon.mem h.2.2 y hy).1
    have h5:=hp.2
    have h6:=hyp.1
    omega
   ·rintro ⟨y,hy,hyp⟩
    have:=(Canon.mem k.2.2 y hy).1
    have h5:=hp.2
    have h6:=hyp.1
    omega
  ·have:=e p
   rw [cov_cons,cov_cons] at this
   simpa [hp] using this
/-! ### What becomes one -/
structure St where
 a:List Rng
 r:Rng
 b:List Rng
def step (s:St) (x:Rng):St:=
 if x.hi<s.r.lo then ⟨s.a ++ [x],s.r,s.b⟩
 else if s.r.hi<x.lo then ⟨s.a,s.r,s.b ++ [x]⟩
 else ⟨s.a,⟨min s.r.lo x.lo,max s.r.hi x.hi⟩,s.b⟩
def mg (l:List Rng) (r:Rng):St:=l.foldl step ⟨[],r,[]⟩
def Inv (done:Int) (s:St) (rest:List Rng):Prop:=
 0≤done∧0≤s.r.lo∧s.r.lo<s.r.hi∧Canon done s.a∧(∀ x,x ∈ s.a→x.hi<s.r.lo)∧Canon s.r.hi s.b∧(∀ x,x ∈ s.b→done<x.lo) ∧
  ∃ L,done≤L∧(∀ x,x ∈ s.a→x.hi≤L)∧(∀ x,x ∈ s.b→x.hi≤L)∧Canon L rest
def U (s:St) (rest:List Rng) (p:Int):Prop:=cov s.a p∨inR s.r p∨cov s.b p∨cov rest p
theorem inv_step {done:Int} {s:St} {x:Rng} {rest:List Rng} (h:Inv done s (x :: rest)):Inv done (step s x) rest∧∀ p,U (step s x) rest p↔U s (x :: rest) p:=by
 obtain ⟨h0,h1,h2,h3,h4,h5,h6,L,h7,h8,h9,h10⟩:=h
 have hx1:=h10.1
 have hx2:=h10.2.1
 unfold step
 split
 ·rename_i c1
  refine ⟨⟨h0,h1,h2,h3.snoc (by omega) (fun y hy=>by have:=h8 y hy;omega) hx2,fun y hy=>?_,h5,h6,x.hi,by omega,fun y hy=>?_,fun y hy=>by have:=h9 y hy;omega,h10.2.2⟩,fun p=>?_⟩
  ·rcases List.mem_append.1 hy with hy | hy
   ·exact h4 y hy
   ·simp at hy;subst hy;exact c1
  ·rcases List.mem_append.1 hy with hy | hy
   ·have:=h8 y hy;omega
   ·simp at hy;subst hy;omega
  ·unfold U
   simp only [cov_app,cov_cons,cov_nil,or_false]
   exact Iff.of_eq (by ac_rfl)
 ·rename_i c1
  split
  ·rename_i c2
   refine ⟨⟨h0,h1,h2,h3,h4,h5.snoc (by omega) (fun y hy=>by have:=h9 y hy;omega) hx2,fun y hy=>?_,x.hi,by omega,fun y hy=>by have:=h8 y hy;omega,fun y hy=>?_,h10.2.2⟩,fun p=>?_⟩
   ·rcases List.mem_append.1 hy with hy | hy
    ·exact h6 y hy
    ·simp at hy;subst hy;omega
   ·rcases List.mem_append.1 hy with hy | hy
    ·have:=h9 y hy;omega
    ·simp at hy;subst hy;omega
   ·unfold U
    simp only [cov_app,cov_cons,cov_nil,or_false,or_assoc]
  ·rename_i c2
   have hb:s.b=[]:=by
    cases hb:s.b with
    | nil=>rfl
    | cons y q=>
     have e1:=(h5.mem y (by rw [hb];simp))
     have e2:=h9 y (by rw [hb];simp)
     omega
   refine ⟨⟨h0,by simp only;omega,by simp only;omega,h3,fun y hy=>?_,by simp only [hb];trivial,by simp only [hb];simp,x.hi,by omega,fun y hy=>by have:=h8 y hy;omega,by simp only [hb];simp,h10.2.2⟩,fun p=>?_⟩
   ·have e1:=h4 y hy
    have e2:=h8 y hy
    simp only
    omega
   ·unfold U
    simp only [hb,cov_nil,cov_cons,false_or]
    have e:inR ⟨min s.r.lo x.lo,max s.r.hi x.hi⟩ p↔inR s.r p∨inR x p:=by
     unfold inR
     simp only
     omega
    rw [e,or_assoc]
theorem inv_fold {done:Int}:∀ {rest:List Rng} {s:St},Inv done s rest→Inv done (rest.foldl step s) []∧∀ p,U (rest.foldl step s) [] p↔U s rest p
 | [],s,h=>⟨h,fun p=>Iff.rfl⟩
 | x :: rest,s,h=>by
  obtain ⟨h1,h2⟩:=inv_step h
  obtain ⟨h3,h4⟩:=inv_fold h1
  exact ⟨h3,fun p=>(h4 p).trans (h2 p)⟩
def out (done:Int) (s:St):Int × List Rng:=if s.r.lo≤done then (max done s.r.hi,s.b) else (done,s.a ++ [s.r] ++ s.b)
/-- all that is covered, from nought on -/
def full (d:Int) (l:List Rng):List Rng:=if 0<d then ⟨0,d⟩ :: l else l
theorem cov_full {d:Int} {l:List Rng} {p:Int}:cov (full d l) p↔(0≤p∧p<d)∨cov l p:=by
 unfold full
 split
 ·rw [cov_cons];rfl
 ·constructor
  ·exact .inr
  ·rintro (h | h)
   ·omega
   ·exact h
theorem out_ok {done:Int} {s:St} (h:Inv done s []):0≤(out done s).1∧Canon (out done s).1 (out done s).2∧∀ p,cov (full (out done s).1 (out done s).2) p↔(0≤p∧p<done)∨U s [] p:=by
 obtain ⟨h0,h1,h2,h3,h4,h5,h6,_⟩:=h
 unfold out
 split
 ·rename_i c
  have ha:s.a=[]:=by
   cases ha:s.a with
   | nil=>rfl
   | cons y q=>
    have e1:=h3.mem y (by rw [ha];simp)
    have e2:=h4 y (by rw [ha];simp)
    omega
  refine ⟨by simp only;omega,h5.weak fun y hy=>?_,fun p=>?_⟩
  ·have e1:=(h5.mem y hy).1
   have e2:=h6 y hy
   simp only
   omega
  ·rw [cov_full]
   unfold U
   simp only [ha,cov_nil,false_or,or_false]
   rw [← or_assoc]
   refine or_congr ?_ Iff.rfl
   unfold inR
   omega
 ·rename_i c
  refine ⟨h0,?_,fun p=>?_⟩
  ·refine Canon.app (b:=s.r.hi) (h3.snoc (by omega) h4 h2) (by omega) (fun y hy=>?_) h5
   rcases List.mem_append.1 hy with hy | hy
   ·have:=h4 y hy;omega
   ·simp at hy;subst hy;omega
  ·rw [cov_full]
   unfold U
   simp only [cov_app,cov_cons,cov_nil,or_false,or_assoc]
theorem add_ok {done:Int} {l:List Rng} {r:Rng} (hd:0≤done) (hl:Canon done l) (h0:0≤r.lo) (h1:r.lo<r.hi) :
  0≤(out done (mg l r)).1∧Canon (out done (mg l r)).1 (out done (mg l r)).2∧∀ p,cov (full (out done (mg l r)).1 (out done (mg l r)).2) p↔(0≤p∧p<done)∨cov l p∨inR r p:=by
 have hi:Inv done ⟨[],r,[]⟩ l:=⟨hd,h0,h1,trivial,by simp,trivial,by simp,done,Int.le_refl _,by simp,by simp,hl⟩
 obtain ⟨h2,h3⟩:=inv_fold hi
 obtain ⟨h4,h5,h6⟩:=out_ok h2
 refine ⟨h4,h5,fun p=>(h6 p).trans (or_congr Iff.rfl ((h3 p).trans ?_))⟩
 unfold U
 simp only [cov_nil,false_or]
 exact or_comm
theorem Canon.stretch:∀ {l:List Rng} {a:Int} {x:Rng} {b:Int},Canon a (l ++ [x])→x.hi≤b→Canon a (l ++ [⟨x.lo,b⟩])
 | [],_,x,b,h,hb=>⟨h.1,by have:=h.2.1;simp only;omega,trivial⟩
 | r :: l,_,x,b,h,hb=>⟨h.1,h.2.1,Canon.stretch h.2.2 hb⟩
theorem Canon.lastlo:∀ {l:List Rng} {a:Int} {x:Rng},Canon a (l ++ [x])→∀ s,s ∈ l→s.hi<x.lo
 | [],_,_,_,s,hs=>by cases hs
 | r :: l,_,x,h,s,hs=>by
  rcases List.mem_cons.1 hs with rfl | hs
  ·exact (Canon.mem h.2.2 x (by simp)).1
  ·exact Canon.lastlo h.2.2 s hs
def addTo (done:Int) (l:List Rng) (r:Rng):Int × List Rng:=if r.lo<r.hi then out done (mg l r) else (done,l)
theorem addTo_ok {done:Int} {l:List Rng} {r:Rng} (hd:0≤done) (hl:Canon done l) (h0:0≤r.lo) (h1:r.lo≤r.hi) :
  0≤(addTo done l r).1∧Canon (addTo done l r).1 (addTo done l r).2∧∀ p,cov (full (addTo done l r).1 (addTo done l r).2) p↔(0≤p∧p<done)∨cov l p∨inR r p:=by
 unfold addTo
 by_cases h:r.lo<r.hi
 ·rw [if_pos h]
  exact add_ok hd hl h0 h
 ·rw [if_neg h]
  refine ⟨hd,hl,fun p=>?_⟩
  rw [cov_full]
  refine or_congr Iff.rfl ?_
  have:¬ inR r p:=fun e=>by have:=e.1;have:=e.2;omega
  simp [this]
end Go.Proofs.Ytdldfllllgogoaa.had
namespace Go.Proofs.Ytdldfllllgogoaa
open Go.RowKit
theorem had.take_more {l:List Rng} {k:Nat} (h:k<l.length):l.take (k+1)=l.take k ++ [l.getD k Rng.z]:=by
 rw [List.take_add_one,List.getD_eq_getElem?_getD,List.getElem?_eq_getElem h]
 rfl
set_option maxRecDepth 100000 in
set_option maxHeartbeats 8000000 in
theorem hole_merged (done:Int) (l:List Rng) (r:Rng) (A:Option Addr) (c:Nat) (w:World) (hl:SlRep Rng.rep w (· < w.heap.size) l A c) (hn:l.length≤16) :
  Calls Try.prog 94 #[.int .i64 done,.slice A l.length c,.agg #[.int .i64 r.lo,.int .i64 r.hi]] w fun e w'=>∃ A' c',e=.returned (.tuple #[.int .i64 (had.out done (had.mg l r)).1,.slice A' (had.out done (had.mg l r)).2.length c']) ∧
   SlRep Rng.rep w' (fun k=>w.heap.size≤k∧k<w'.heap.size) (had.out done (had.mg l r)).2 A' c'∧Below w.heap.size w w'∧(had.out done (had.mg l r)).2.length≤40:=by
 have HL:=Lib.hid hl
 obtain ⟨r0,r1⟩:=r
 dsimp only
 clear hl
 go_enter Try.func94,Try.ntmps94
 go_wp2
 go_loopw [8,9,14] (fun ah be iv wr=>∃ (k:Nat) (s:had.St) (A1 A2:Option Addr) (c1 c2:Nat),iv=.int .i64 k∧k≤l.length∧ah=.slice A1 s.a.length c1∧be=.slice A2 s.b.length c2∧s.a.length≤k∧s.b.length≤k∧Hid (s=(l.take k).foldl had.step ⟨[],⟨r0,r1⟩,[]⟩) ∧
  wr.cell? ⟨w.heap.size,0,none⟩=some (.int .i64 s.r.lo)∧wr.cell? ⟨w.heap.size,1,none⟩=some (.int .i64 s.r.hi)∧wr.frozen? ⟨w.heap.size,0,none⟩=false∧wr.frozen? ⟨w.heap.size,1,none⟩=false∧w.heap.size<wr.heap.size ∧
  Hid (Own wr (w.heap.size+1) 78 2 A1 s.a.length c1 (s.a.flatMap Rng.cells))∧Hid (Own wr (w.heap.size+1) 78 2 A2 s.b.length c2 (s.b.flatMap Rng.cells))∧Hid (Two A1 A2)∧Below w.heap.size w wr) (fun _ _ iv _=>l.length - (intOf iv).toNat)
 case atStart=>exact ⟨0,⟨[],⟨r0,r1⟩,[]⟩,none,none,0,0,rfl,by omega,rfl,rfl,by simp,by simp,Lib.hid rfl,by simp [go_sem],by simp [go_sem],by simp [go_sem],by simp [go_sem],by simp,Lib.hid (Own.nil _ _ _ _),Lib.hid (Own.nil _ _ _ _),Lib.hid (Two.none_left _),(by repeat (first | (with_reducible first | exact Below.refl _ _ | assumption | refine bset ?_ ?_ _ | refine balloc ?_ _ | refine Below.drew ?_ | refine bdrewN ?_ _ | refine bnext ?_ (by with_reducible assumption)) | exact Nat.le_refl _ | (simp;done) | omega | (simp;omega)))⟩
 case round=>
  obtain ⟨k,s,A1,A2,c1,c2,rfl,hk,rfl,rfl,hka,hkb,HS,d0,d1,f0,f1,hR,HO1,HO2,HT,hB⟩:=hrel
  rename World=>wr
  by_cases hlt:k<l.length
  ·obtain ⟨bb,oo,rfl,hbb,hc1,hc2⟩:=Rng.cells_at Rng.z (HL.out.below hB) hlt
   have hbw:bb<wr.heap.size:=Nat.lt_of_lt_of_le hbb hB.size
   have hlti:(k:Int)<(l.length:Int):=by omega
   have HSN:Hid ((l.take (k+1)).foldl had.step ⟨[],⟨r0,r1⟩,[]⟩=had.step s (l.getD k Rng.z)):=Lib.hid (by rw [had.take_more hlt,List.foldl_append,HS.out];rfl)
   clear HS
   have hl1:=HO1.out.lt
   have hl2:=HO2.out.lt
   have HL1:=Lib.hid hl1
   have HL2:=Lib.hid hl2
   clear hl1 hl2
   generalize l.getD k Rng.z=x at *
   obtain ⟨x0,x1⟩:=x
   obtain ⟨sa,sr,sb⟩:=s
   obtain ⟨q0,q1⟩:=sr
   dsimp only at *
   by_cases k1:x1<q0
   ·have HST:Hid (had.step ⟨sa,⟨q0,q1⟩,sb⟩ ⟨x0,x1⟩=⟨sa ++ [⟨x0,x1⟩],⟨q0,q1⟩,sb⟩):=Lib.hid (by unfold had.step;rw [if_pos k1])
    go_wp2_with (first
     | (at_builtin;refine wp_app _ rfl _ _ _ rfl elemRng (w.heap.size+1) A1 _ c1 _ rfl ((HO1.out.alloc _).alloc _) _ 1 1 [.int .i64 x0,.int .i64 x1] rfl rfl (Cells.newAt _ _ _ (by first | rfl | simp)) (by simp [Value.oneCell']) (by omega) (by unfold maxLen;omega) (by simp;omega) ?_;intro A3 c3 w3 ho3 hg3;have HO3:=Lib.hid ho3;clear ho3)
     | fail)
    have hbx:Below wr.heap.size wr ((wr.alloc (.cells #[.int .i64 x0,.int .i64 x1] 78)).alloc (.cells #[.int .i64 x0,.int .i64 x1] 78)):=(by repeat (first | (with_reducible first | exact Below.refl _ _ | assumption | refine bset ?_ ?_ _ | refine balloc ?_ _ | refine Below.drew ?_ | refine bdrewN ?_ _ | refine bnext ?_ (by with_reducible assumption)) | exact Nat.le_refl _ | (simp;done) | omega | (simp;omega)))
    have hnA:∀ q,blkOf A1=some q→q≠w.heap.size:=fun q hq e=>by have:=(HL1.out q hq).1;omega
    have e0:=(hg3.cell (b:=w.heap.size) 0 (by simp;omega) hnA).trans ((hbx.cell (p:=⟨w.heap.size,0,none⟩) hR).trans d0)
    have e1:=(hg3.cell (b:=w.heap.size) 1 (by simp;omega) hnA).trans ((hbx.cell (p:=⟨w.heap.size,1,none⟩) hR).trans d1)
    have e2:=(hg3.frozen (b:=w.heap.size) 0 (by simp;omega) hnA).trans ((hbx.frozen (p:=⟨w.heap.size,0,none⟩) hR).trans f0)
    have e3:=(hg3.frozen (b:=w.heap.size) 1 (by simp;omega) hnA).trans ((hbx.frozen (p:=⟨w.heap.size,1,none⟩) hR).trans f1)
    have e4:=hg3.grown.size
    simp only [World.size_alloc] at e4
    have e5:Below w.heap.size w w3:=Grew.step (bnext hB hbx) hg3 (fun q hq=>Nat.le_of_succ_le (HL1.out q hq).1)
    have e6:Hid (Own w3 (w.heap.size+1) 78 2 A2 sb.length _ (sb.flatMap Rng.cells)):=Lib.hid ((HO2.out.next hbx).kept' hg3 (fun q hq=>HT.out.symm q hq))
    have e7:Hid (Two A3 A2):=Lib.hid (HT.out.left (((Grew.refl wr A1).alloc _ |>.alloc _).trans hg3) (fun q hq=>(HL2.out q hq).2))
    clear HL1 HL2 HO1 HO2 HT hg3
    go_roundw
    case rel=>exact ⟨k+1,⟨sa ++ [⟨x0,x1⟩],⟨q0,q1⟩,sb⟩,A3,A2,c3,c2,by go_num,by omega,by simp,rfl,by simp;omega,by simp only;omega,Lib.hid (by rw [HSN.out];exact HST.out.symm),e0,e1,e2,e3,by omega,Lib.hid (by simpa [Rng.cells] using HO3.out),e6,e7,e5⟩
    case measure=>simp [intOf];omega
   ·by_cases k2:q1<x0
    ·have HST:Hid (had.step ⟨sa,⟨q0,q1⟩,sb⟩ ⟨x0,x1⟩=⟨sa,⟨q0,q1⟩,sb ++ [⟨x0,x1⟩]⟩):=Lib.hid (by unfold had.step;rw [if_neg k1,if_pos k2])
     go_wp2_with (first
      | (at_builtin;refine wp_app _ rfl _ _ _ rfl elemRng (w.heap.size+1) A2 _ c2 _ rfl ((HO2.out.alloc _).alloc _) _ 1 1 [.int .i64 x0,.int .i64 x1] rfl rfl (Cells.newAt _ _ _ (by first | rfl | simp)) (by simp [Value.oneCell']) (by omega) (by unfold maxLen;omega) (by simp;omega) ?_;intro A3 c3 w3 ho3 hg3;have HO3:=Lib.hid ho3;clear ho3)
      | fail)
     have hbx:Below wr.heap.size wr ((wr.alloc (.cells #[.int .i64 x0,.int .i64 x1] 78)).alloc (.cells #[.int .i64 x0,.int .i64 x1] 78)):=(by repeat (first | (with_reducible first | exact Below.refl _ _ | assumption | refine bset ?_ ?_ _ | refine balloc ?_ _ | refine Below.drew ?_ | refine bdrewN ?_ _ | refine bnext ?_ (by with_reducible assumption)) | exact Nat.le_refl _ | (simp;done) | omega | (simp;omega)))
     have hnA:∀ q,blkOf A2=some q→q≠w.heap.size:=fun q hq e=>by have:=(HL2.out q hq).1;omega
     have e0:=(hg3.cell (b:=w.heap.size) 0 (by simp;omega) hnA).trans ((hbx.cell (p:=⟨w.heap.size,0,none⟩) hR).trans d0)
     have e1:=(hg3.cell (b:=w.heap.size) 1 (by simp;omega) hnA).trans ((hbx.cell (p:=⟨w.heap.size,1,none⟩) hR).trans d1)
     have e2:=(hg3.frozen (b:=w.heap.size) 0 (by simp;omega) hnA).trans ((hbx.frozen (p:=⟨w.heap.size,0,none⟩) hR).trans f0)
     have e3:=(hg3.frozen (b:=w.heap.size) 1 (by simp;omega) hnA).trans ((hbx.frozen (p:=⟨w.heap.size,1,none⟩) hR).trans f1)
     have e4:=hg3.grown.size
     simp only [World.size_alloc] at e4
     have e5:Below w.heap.size w w3:=Grew.step (bnext hB hbx) hg3 (fun q hq=>Nat.le_of_succ_le (HL2.out q hq).1)
     have e6:Hid (Own w3 (w.heap.size+1) 78 2 A1 sa.length _ (sa.flatMap Rng.cells)):=Lib.hid ((HO1.out.next hbx).kept' hg3 (fun q hq=>HT.out q hq))
     have e7:Hid (Two A1 A3):=Lib.hid ((HT.out.symm.left (((Grew.refl wr A2).alloc _ |>.alloc _).trans hg3) (fun q hq=>(HL1.out q hq).2)).symm)
     clear HL1 HL2 HO1 HO2 HT hg3
     go_roundw
     case rel=>exact ⟨k+1,⟨sa,⟨q0,q1⟩,sb ++ [⟨x0,x1⟩]⟩,A1,A3,c1,c3,by go_num,by omega,rfl,by simp,by simp only;omega,by simp;omega,Lib.hid (by rw [HSN.out];exact HST.out.symm),e0,e1,e2,e3,by omega,e6,Lib.hid (by simpa [Rng.cells] using HO3.out),e7,e5⟩
     case measure=>simp [intOf];omega
    ·have HST0:Hid (had.step ⟨sa,⟨q0,q1⟩,sb⟩ ⟨x0,x1⟩=⟨sa,⟨min q0 x0,max q1 x1⟩,sb⟩):=Lib.hid (by unfold had.step;rw [if_neg k1,if_neg k2])
     by_cases k3:x0<q0
     ·have hmn:min q0 x0=x0:=by omega
      by_cases k4:q1<x1
      ·have hmx:max q1 x1=x1:=by omega
       have HST:Hid (had.step ⟨sa,⟨q0,q1⟩,sb⟩ ⟨x0,x1⟩=⟨sa,⟨x0,x1⟩,sb⟩):=Lib.hid (by rw [HST0.out,hmn,hmx])
       clear hmn hmx HST0
       go_wp2_with fail
       have e5:Below w.heap.size w (((wr.setCell ⟨w.heap.size,0,none⟩ (.int .i64 x0)).setCell ⟨w.heap.size,1,none⟩ (.int .i64 x1)).alloc (.cells #[.int .i64 x0,.int .i64 x1] 78)):=(by repeat (first | (with_reducible first | exact Below.refl _ _ | assumption | refine bset ?_ ?_ _ | refine balloc ?_ _ | refine Below.drew ?_ | refine bdrewN ?_ _ | refine bnext ?_ (by with_reducible assumption)) | exact Nat.le_refl _ | (simp;done) | omega | (simp;omega)))
       have e6:Hid (Own (((wr.setCell ⟨w.heap.size,0,none⟩ (.int .i64 x0)).setCell ⟨w.heap.size,1,none⟩ (.int .i64 x1)).alloc (.cells #[.int .i64 x0,.int .i64 x1] 78)) (w.heap.size+1) 78 2 A1 sa.length c1 (sa.flatMap Rng.cells)):=Lib.hid (((HO1.out.setCell (p:=⟨w.heap.size,0,none⟩) (fun e=>by have:=(HL1.out w.heap.size e).1;omega) _).setCell (p:=⟨w.heap.size,1,none⟩) (fun e=>by have:=(HL1.out w.heap.size e).1;omega) _).alloc _)
       have e7:Hid (Own (((wr.setCell ⟨w.heap.size,0,none⟩ (.int .i64 x0)).setCell ⟨w.heap.size,1,none⟩ (.int .i64 x1)).alloc (.cells #[.int .i64 x0,.int .i64 x1] 78)) (w.heap.size+1) 78 2 A2 sb.length c2 (sb.flatMap Rng.cells)):=Lib.hid (((HO2.out.setCell (p:=⟨w.heap.size,0,none⟩) (fun e=>by have:=(HL2.out w.heap.size e).1;omega) _).setCell (p:=⟨w.heap.size,1,none⟩) (fun e=>by have:=(HL2.out w.heap.size e).1;omega) _).alloc _)
       clear HL1 HL2 HO1 HO2
       go_roundw
       case rel=>exact ⟨k+1,⟨sa,⟨x0,x1⟩,sb⟩,A1,A2,c1,c2,by go_num,by omega,rfl,rfl,by simp only;omega,by simp only;omega,Lib.hid (by rw [HSN.out];exact HST.out.symm),by simp [go_sem, *],by simp [go_sem, *],by simp [go_sem, *],by simp [go_sem, *],by simp;omega,e6,e7,HT,e5⟩
       case measure=>simp [intOf];omega
      ·have hmx:max q1 x1=q1:=by omega
       have HST:Hid (had.step ⟨sa,⟨q0,q1⟩,sb⟩ ⟨x0,x1⟩=⟨sa,⟨x0,q1⟩,sb⟩):=Lib.hid (by rw [HST0.out,hmn,hmx])
       clear hmn hmx HST0
       go_wp2_with fail
       have e5:Below w.heap.size w (((wr.setCell ⟨w.heap.size,0,none⟩ (.int .i64 x0)).setCell ⟨w.heap.size,1,none⟩ (.int .i64 q1)).alloc (.cells #[.int .i64 x0,.int .i64 x1] 78)):=(by repeat (first | (with_reducible first | exact Below.refl _ _ | assumption | refine bset ?_ ?_ _ | refine balloc ?_ _ | refine Below.drew ?_ | refine bdrewN ?_ _ | refine bnext ?_ (by with_reducible assumption)) | exact Nat.le_refl _ | (simp;done) | omega | (simp;omega)))
       have e6:Hid (Own (((wr.setCell ⟨w.heap.size,0,none⟩ (.int .i64 x0)).setCell ⟨w.heap.size,1,none⟩ (.int .i64 q1)).alloc (.cells #[.int .i64 x0,.int .i64 x1] 78)) (w.heap.size+1) 78 2 A1 sa.length c1 (sa.flatMap Rng.cells)):=Lib.hid (((HO1.out.setCell (p:=⟨w.heap.size,0,none⟩) (fun e=>by have:=(HL1.out w.heap.size e).1;omega) _).setCell (p:=⟨w.heap.size,1,none⟩) (fun e=>by have:=(HL1.out w.heap.size e).1;omega) _).alloc _)
       have e7:Hid (Own (((wr.setCell ⟨w.heap.size,0,none⟩ (.int .i64 x0)).setCell ⟨w.heap.size,1,none⟩ (.int .i64 q1)).alloc (.cells #[.int .i64 x0,.int .i64 x1] 78)) (w.heap.size+1) 78 2 A2 sb.length c2 (sb.flatMap Rng.cells)):=Lib.hid (((HO2.out.setCell (p:=⟨w.heap.size,0,none⟩) (fun e=>by have:=(HL2.out w.heap.size e).1;omega) _).setCell (p:=⟨w.heap.size,1,none⟩) (fun e=>by have:=(HL2.out w.heap.size e).1;omega) _).alloc _)
       clear HL1 HL2 HO1 HO2
       go_roundw
       case rel=>exact ⟨k+1,⟨sa,⟨x0,q1⟩,sb⟩,A1,A2,c1,c2,by go_num,by omega,rfl,rfl,by simp only;omega,by simp only;omega,Lib.hid (by rw [HSN.out];exact HST.out.symm),by simp [go_sem, *],by simp [go_sem, *],by simp [go_sem, *],by simp [go_sem, *],by simp;omega,e6,e7,HT,e5⟩
       case measure=>simp [intOf];omega
     ·have hmn:min q0 x0=q0:=by omega
      by_cases k4:q1<x1
      ·have hmx:max q1 x1=x1:=by omega
       have HST:Hid (had.step ⟨sa,⟨q0,q1⟩,sb⟩ ⟨x0,x1⟩=⟨sa,⟨q0,x1⟩,sb⟩):=Lib.hid (by rw [HST0.out,hmn,hmx])
       clear hmn hmx HST0
       go_wp2_with fail
       have e5:Below w.heap.size w (((wr.setCell ⟨w.heap.size,0,none⟩ (.int .i64 q0)).setCell ⟨w.heap.size,1,none⟩ (.int .i64 x1)).alloc (.cells #[.int .i64 x0,.int .i64 x1] 78)):=(by repeat (first | (with_reducible first | exact Below.refl _ _ | assumption | refine bset ?_ ?_ _ | refine balloc ?_ _ | refine Below.drew ?_ | refine bdrewN ?_ _ | refine bnext ?_ (by with_reducible assumption)) | exact Nat.le_refl _ | (simp;done) | omega | (simp;omega)))
       have e6:Hid (Own (((wr.setCell ⟨w.heap.size,0,none⟩ (.int .i64 q0)).setCell ⟨w.heap.size,1,none⟩ (.int .i64 x1)).alloc (.cells #[.int .i64 x0,.int .i64 x1] 78)) (w.heap.size+1) 78 2 A1 sa.length c1 (sa.flatMap Rng.cells)):=Lib.hid (((HO1.out.setCell (p:=⟨w.heap.size,0,none⟩) (fun e=>by have:=(HL1.out w.heap.size e).1;omega) _).setCell (p:=⟨w.heap.size,1,none⟩) (fun e=>by have:=(HL1.out w.heap.size e).1;omega) _).alloc _)
       have e7:Hid (Own (((wr.setCell ⟨w.heap.size,0,none⟩ (.int .i64 q0)).setCell ⟨w.heap.size,1,none⟩ (.int .i64 x1)).alloc (.cells #[.int .i64 x0,.int .i64 x1] 78)) (w.heap.size+1) 78 2 A2 sb.length c2 (sb.flatMap Rng.cells)):=Lib.hid (((HO2.out.setCell (p:=⟨w.heap.size,0,none⟩) (fun e=>by have:=(HL2.out w.heap.size e).1;omega) _).setCell (p:=⟨w.heap.size,1,none⟩) (fun e=>by have:=(HL2.out w.heap.size e).1;omega) _).alloc _)
       clear HL1 HL2 HO1 HO2
       go_roundw
       case rel=>exact ⟨k+1,⟨sa,⟨q0,x1⟩,sb⟩,A1,A2,c1,c2,by go_num,by omega,rfl,rfl,by simp only;omega,by simp only;omega,Lib.hid (by rw [HSN.out];exact HST.out.symm),by simp [go_sem, *],by simp [go_sem, *],by simp [go_sem, *],by simp [go_sem, *],by simp;omega,e6,e7,HT,e5⟩
       case measure=>simp [intOf];omega
      ·have hmx:max q1 x1=q1:=by omega
       have HST:Hid (had.step ⟨sa,⟨q0,q1⟩,sb⟩ ⟨x0,x1⟩=⟨sa,⟨q0,q1⟩,sb⟩):=Lib.hid (by rw [HST0.out,hmn,hmx])
       clear hmn hmx HST0
       go_wp2_with fail
       have e5:Below w.heap.size w (((wr.setCell ⟨w.heap.size,0,none⟩ (.int .i64 q0)).setCell ⟨w.heap.size,1,none⟩ (.int .i64 q1)).alloc (.cells #[.int .i64 x0,.int .i64 x1] 78)):=(by repeat (first | (with_reducible first | exact Below.refl _ _ | assumption | refine bset ?_ ?_ _ | refine balloc ?_ _ | refine Below.drew ?_ | refine bdrewN ?_ _ | refine bnext ?_ (by with_reducible assumption)) | exact Nat.le_refl _ | (simp;done) | omega | (simp;omega)))
       have e6:Hid (Own (((wr.setCell ⟨w.heap.size,0,none⟩ (.int .i64 q0)).setCell ⟨w.heap.size,1,none⟩ (.int .i64 q1)).alloc (.cells #[.int .i64 x0,.int .i64 x1] 78)) (w.heap.size+1) 78 2 A1 sa.length c1 (sa.flatMap Rng.cells)):=Lib.hid (((HO1.out.setCell (p:=⟨w.heap.size,0,none⟩) (fun e=>by have:=(HL1.out w.heap.size e).1;omega) _).setCell (p:=⟨w.heap.size,1,none⟩) (fun e=>by have:=(HL1.out w.heap.size e).1;omega) _).alloc _)
       have e7:Hid (Own (((wr.setCell ⟨w.heap.size,0,none⟩ (.int .i64 q0)).setCell ⟨w.heap.size,1,none⟩ (.int .i64 q1)).alloc (.cells #[.int .i64 x0,.int .i64 x1] 78)) (w.heap.size+1) 78 2 A2 sb.length c2 (sb.flatMap Rng.cells)):=Lib.hid (((HO2.out.setCell (p:=⟨w.heap.size,0,none⟩) (fun e=>by have:=(HL2.out w.heap.size e).1;omega) _).setCell (p:=⟨w.heap.size,1,none⟩) (fun e=>by have:=(HL2.out w.heap.size e).1;omega) _).alloc _)
       clear HL1 HL2 HO1 HO2
       go_roundw
       case rel=>exact ⟨k+1,⟨sa,⟨q0,q1⟩,sb⟩,A1,A2,c1,c2,by go_num,by omega,rfl,rfl,by simp only;omega,by simp only;omega,Lib.hid (by rw [HSN.out];exact HST.out.symm),by simp [go_sem, *],by simp [go_sem, *],by simp [go_sem, *],by simp [go_sem, *],by simp;omega,e6,e7,HT,e5⟩
       case measure=>simp [intOf];omega
  ·obtain rfl:k=l.length:=by omega
   have HSM:Hid (had.mg l ⟨r0,r1⟩=s):=Lib.hid (by rw [HS.out,List.take_length];rfl)
   clear HS
   obtain ⟨sa,sr,sb⟩:=s
   obtain ⟨q0,q1⟩:=sr
   dsimp only at *
   by_cases k1:q0≤done
   ·have HOU0:Hid (had.out done (had.mg l ⟨r0,r1⟩)=(max done q1,sb)):=Lib.hid (by rw [HSM.out];unfold had.out;rw [if_pos k1])
    have HRB:Hid (SlRep Rng.rep wr (fun q=>w.heap.size≤q∧q<wr.heap.size) sb A2 c2):=Lib.hid (HO2.out.rng.2.keep fun q hq=>⟨⟨by omega,hq.2⟩,rfl⟩)
    by_cases k2:done<q1
    ·have HOU:Hid (had.out done (had.mg l ⟨r0,r1⟩)=(q1,sb)):=Lib.hid (by rw [HOU0.out,show max done q1=q1 by omega])
     go_wp2
     go_ret2
     exact ⟨A2,c2,by rw [HOU.out];rfl,by rw [HOU.out];exact HRB.out,hB,by rw [HOU.out];simp only;omega⟩
    ·have HOU:Hid (had.out done (had.mg l ⟨r0,r1⟩)=(done,sb)):=Lib.hid (by rw [HOU0.out,show max done q1=done by omega])
     go_wp2
     go_ret2
     exact ⟨A2,c2,by rw [HOU.out];rfl,by rw [HOU.out];exact HRB.out,hB,by rw [HOU.out];simp only;omega⟩
   ·have HOU:Hid (had.out done (had.mg l ⟨r0,r1⟩)=(done,sa ++ [⟨q0,q1⟩] ++ sb)):=Lib.hid (by rw [HSM.out];unfold had.out;rw [if_neg k1])
    have HCC:=Lib.hid (concat3_rng sa [⟨q0,q1⟩] sb A1 (some ⟨wr.heap.size,0,none⟩) A2 c1 1 c2 (wr.heap.size+1) ((wr.alloc (.cells #[.int .i64 q0,.int .i64 q1] 78)).alloc (.cells #[.slice A1 sa.length c1,.slice (some ⟨wr.heap.size,0,none⟩) 1 1,.slice A2 sb.length c2] 39)) (by simp) (by simp [go_sem]) (by simp [go_sem]) (by simp [go_sem])
     (((HO1.out.rng.2).keep (S':=(· < wr.heap.size)) fun q hq=>⟨hq.2,rfl⟩).next (by repeat (first | (with_reducible first | exact Below.refl _ _ | assumption | refine bset ?_ ?_ _ | refine balloc ?_ _ | refine Below.drew ?_ | refine bdrewN ?_ _ | refine bnext ?_ (by with_reducible assumption)) | exact Nat.le_refl _ | (simp;done) | omega | (simp;omega))))
     ((Own.rng (l:=[⟨q0,q1⟩]) (Own.lit wr wr.heap.size 78 2 1 [.int .i64 q0,.int .i64 q1] (Nat.le_refl _) rfl (by decide))).2.keep fun q hq=>⟨by have:=hq.2;simp at this ⊢;omega,by rw [Below.heap_alloc _ _ q hq.2]⟩)
     (((HO2.out.rng.2).keep (S':=(· < wr.heap.size)) fun q hq=>⟨hq.2,rfl⟩).next (by repeat (first | (with_reducible first | exact Below.refl _ _ | assumption | refine bset ?_ ?_ _ | refine balloc ?_ _ | refine Below.drew ?_ | refine bdrewN ?_ _ | refine bnext ?_ (by with_reducible assumption)) | exact Nat.le_refl _ | (simp;done) | omega | (simp;omega)))) (by simp;omega))
    have HLE:Hid ((sa ++ [(⟨q0,q1⟩:Rng)] ++ sb).length≤40):=Lib.hid (by simp;omega)
    go_wp2_with (first
     | (go_at_call 78;refine HCC.out.mono ?_;rintro e w3 ⟨A3,c3,rfl,ho3,hb3⟩)
     | fail)
    go_ret2
    exact ⟨A3,c3,by rw [HOU.out];show Ending.returned (.tuple #[.int .i64 done,.slice A3 (sa.length+(sb.length+1)) c3])=_;simp,by rw [HOU.out];exact ho3.rng.2.keep fun q hq=>⟨⟨by have:=hq.1;simp at this;omega,hq.2⟩,rfl⟩,(by repeat (first | (with_reducible first | exact Below.refl _ _ | assumption | refine bset ?_ ?_ _ | refine balloc ?_ _ | refine Below.drew ?_ | refine bdrewN ?_ _ | refine bnext ?_ (by with_reducible assumption)) | exact Nat.le_refl _ | (simp;done) | omega | (simp;omega))),by rw [HOU.out];exact HLE.out⟩
end Go.Proofs.Ytdldfllllgogoaa
namespace Go.Proofs.Ytdldfllllgogoaa
open Go.RowKit
theorem hole_May_yes (done:Int) (l:List Rng) (A:Option Addr) (c:Nat) (w:World) (hl:SlRep Rng.rep w (· < w.heap.size) l A c) (hn:l.length≤140737488351232) (h:holeMayB done l=true) :
  Calls Try.prog 73 #[.int .i64 done,.slice A l.length c] w fun e w'=>e=.returned (.bool true)∧Below w.heap.size w w':=by rw [← h];exact hole_May done l A c w hl hn
theorem hole_May_no (done:Int) (l:List Rng) (A:Option Addr) (c:Nat) (w:World) (hl:SlRep Rng.rep w (· < w.heap.size) l A c) (hn:l.length≤140737488351232) (h:holeMayB done l=false) :
  Calls Try.prog 73 #[.int .i64 done,.slice A l.length c] w fun e w'=>e=.returned (.bool false)∧Below w.heap.size w w':=by rw [← h];exact hole_May done l A c w hl hn
theorem ref_HoleMay_yes (done:Int) (l:List Rng) (A:Option Addr) (c:Nat) (w:World) (hl:SlRep Rng.rep w (· < w.heap.size) l A c) (hn:l.length≤140737488351232) (h:holeMayB done l=true) :
  Calls Try.prog 75 #[.int .i64 done,.slice A l.length c] w fun e w'=>e=.returned (.bool true)∧Below w.heap.size w w':=by rw [← h];exact ref_HoleMay done l A c w hl hn
theorem ref_HoleMay_no (done:Int) (l:List Rng) (A:Option Addr) (c:Nat) (w:World) (hl:SlRep Rng.rep w (· < w.heap.size) l A c) (hn:l.length≤140737488351232) (h:holeMayB done l=false) :
  Calls Try.prog 75 #[.int .i64 done,.slice A l.length c] w fun e w'=>e=.returned (.bool false)∧Below w.heap.size w w':=by rw [← h];exact ref_HoleMay done l A c w hl hn
end Go.Proofs.Ytdldfllllgogoaa
namespace Go.Proofs.Ytdldfllllgogoaa
open Go.RowKit
set_option linter.unusedSimpArgs false
namespace had
/-- what Add answers -/
noncomputable def ans (done:Int) (l:List Rng) (r:Rng):Int × List Rng × Int:=
 if holeMayB done l=false then (0,[],4) else if r.lo<0∨r.hi<r.lo∨1048576<r.hi then (0,[],2) else if 16<(addTo done l r).2.length then (0,[],9) else ((addTo done l r).1,(addTo done l r).2,0)
def AddRes (a:Int × List Rng × Int) (w:World) (e:Ending) (w':World):Prop:=
 ∃ A c,e=.returned (.tuple #[.int .i64 a.1,.slice A a.2.1.length c,.int .i64 a.2.2])∧SlRep Rng.rep w' (fun k=>w.heap.size≤k∧k<w'.heap.size) a.2.1 A c∧Below w.heap.size w w'
theorem AddRes.no {a:Int × List Rng × Int} {c:Int} (h:a=(0,[],c)) {w w':World} (hb:Below w.heap.size w w'):AddRes a w (.returned (.tuple #[.int .i64 0,.slice none 0 0,.int .i64 c])) w':=by
 subst h
 exact ⟨none,0,rfl,sl_nil _ _ _,hb⟩
theorem AddRes.yes {a:Int × List Rng × Int} {d:Int} {l:List Rng} (h:a=(d,l,0)) {w w':World} {A:Option Addr} {n c:Nat} (hn:n=l.length) (hl:SlRep Rng.rep w' (fun k=>w.heap.size≤k∧k<w'.heap.size) l A c) (hb:Below w.heap.size w w'):AddRes a w (.returned (.tuple #[.int .i64 d,.slice A n c,.int .i64 0])) w':=by
 subst h;subst hn
 exact ⟨A,c,rfl,hl,hb⟩
end had
set_option maxHeartbeats 1000000 in
theorem hole_Add_no (done:Int) (l:List Rng) (r:Rng) (A:Option Addr) (c:Nat) (w:World) (hl:SlRep Rng.rep w (· < w.heap.size) l A c) (hn:l.length≤140737488351232) (h:holeMayB done l=false) :
  Calls Try.prog 71 #[.int .i64 done,.slice A l.length c,.agg #[.int .i64 r.lo,.int .i64 r.hi]] w (had.AddRes (had.ans done l r) w):=by
 have HC:=Lib.hid (hole_May_no done l A c (w.alloc (.cells #[.int .i64 r.lo,.int .i64 r.hi] 78)) (hl.next (by repeat (first | (with_reducible first | exact Below.refl _ _ | assumption | refine bset ?_ ?_ _ | refine balloc ?_ _ | refine Below.drew ?_ | refine bdrewN ?_ _ | refine bnext ?_ (by with_reducible assumption)) | exact Nat.le_refl _ | (simp;done) | omega | (simp;omega)))) hn h)
 have HA:Hid (had.ans done l r=(0,[],4)):=Lib.hid (if_pos h)
 clear hl h
 go_enter Try.func71,Try.ntmps71
 go_wp2_with (first
  | (go_at_call 73;refine HC.out.mono ?_;rintro e w1 ⟨rfl,hb1⟩)
  | fail)
 go_ret3
 exact had.AddRes.no HA.out (by repeat (first | (with_reducible first | exact Below.refl _ _ | assumption | refine bset ?_ ?_ _ | refine balloc ?_ _ | refine Below.drew ?_ | refine bdrewN ?_ _ | refine bnext ?_ (by with_reducible assumption)) | exact Nat.le_refl _ | (simp;done) | omega | (simp;omega)))
set_option maxHeartbeats 1000000 in
theorem hole_Add_bad (done:Int) (l:List Rng) (r:Rng) (A:Option Addr) (c:Nat) (w:World) (hl:SlRep Rng.rep w (· < w.heap.size) l A c) (hn:l.length≤140737488351232) (h:holeMayB done l=true) (hr:r.lo<0∨r.hi<r.lo∨1048576<r.hi) :
  Calls Try.prog 71 #[.int .i64 done,.slice A l.length c,.agg #[.int .i64 r.lo,.int .i64 r.hi]] w (had.AddRes (had.ans done l r) w):=by
 have HC:=Lib.hid (hole_May_yes done l A c (w.alloc (.cells #[.int .i64 r.lo,.int .i64 r.hi] 78)) (hl.next (by repeat (first | (with_reducible first | exact Below.refl _ _ | assumption | refine bset ?_ ?_ _ | refine balloc ?_ _ | refine Below.drew ?_ | refine bdrewN ?_ _ | refine bnext ?_ (by with_reducible assumption)) | exact Nat.le_refl _ | (simp;done) | omega | (simp;omega)))) hn h)
 have HA:Hid (had.ans done l r=(0,[],2)):=Lib.hid (by unfold had.ans;rw [if_neg (by rw [h];decide),if_pos hr])
 clear hl h
 obtain ⟨r0,r1⟩:=r
 dsimp only at *
 go_enter Try.func71,Try.ntmps71
 by_cases h1:r0<0
 ·go_wp2_with (first
   | (go_at_call 73;refine HC.out.mono ?_;rintro e w1 ⟨rfl,hb1⟩;have B1:Below w.heap.size w w1:=(by repeat (first | (with_reducible first | exact Below.refl _ _ | assumption | refine bset ?_ ?_ _ | refine balloc ?_ _ | refine Below.drew ?_ | refine bdrewN ?_ _ | refine bnext ?_ (by with_reducible assumption)) | exact Nat.le_refl _ | (simp;done) | omega | (simp;omega)));have ha1:∀ b o,b<w.heap.size→w1.cell? ⟨b,o,none⟩=w.cell? ⟨b,o,none⟩:=fun b o h=>B1.cell (p:=⟨b,o,none⟩) h;have hk1:∀ k,k<w.heap.size→k<w1.heap.size:=fun _ h=>Nat.lt_of_lt_of_le h B1.size;have hz1:=hb1.size;(try simp at hz1);have hl1_w0:w.heap.size<w1.heap.size:=Nat.lt_of_lt_of_le (by first | (simp;done) | (simp;omega) | omega) hb1.size;have hc1_w0:=fun o=>hb1.cell (p:=⟨w.heap.size,o,none⟩) (by first | (simp;done) | (simp;omega) | omega);have hf1_w0:=fun o=>hb1.frozen (p:=⟨w.heap.size,o,none⟩) (by first | (simp;done) | (simp;omega) | omega);(try simp [go_sem, *] at hc1_w0);(try simp [go_sem, *] at hf1_w0);clear hb1)
   | fail)
  go_ret3
  exact had.AddRes.no HA.out B1
 ·by_cases h2:r1<r0
  ·go_wp2_with (first
    | (go_at_call 73;refine HC.out.mono ?_;rintro e w1 ⟨rfl,hb1⟩;have B1:Below w.heap.size w w1:=(by repeat (first | (with_reducible first | exact Below.refl _ _ | assumption | refine bset ?_ ?_ _ | refine balloc ?_ _ | refine Below.drew ?_ | refine bdrewN ?_ _ | refine bnext ?_ (by with_reducible assumption)) | exact Nat.le_refl _ | (simp;done) | omega | (simp;omega)));have ha1:∀ b o,b<w.heap.size→w1.cell? ⟨b,o,none⟩=w.cell? ⟨b,o,none⟩:=fun b o h=>B1.cell (p:=⟨b,o,none⟩) h;have hk1:∀ k,k<w.heap.size→k<w1.heap.size:=fun _ h=>Nat.lt_of_lt_of_le h B1.size;have hz1:=hb1.size;(try simp at hz1);have hl1_w0:w.heap.size<w1.heap.size:=Nat.lt_of_lt_of_le (by first | (simp;done) | (simp;omega) | omega) hb1.size;have hc1_w0:=fun o=>hb1.cell (p:=⟨w.heap.size,o,none⟩) (by first | (simp;done) | (simp;omega) | omega);have hf1_w0:=fun o=>hb1.frozen (p:=⟨w.heap.size,o,none⟩) (by first | (simp;done) | (simp;omega) | omega);(try simp [go_sem, *] at hc1_w0);(try simp [go_sem, *] at hf1_w0);clear hb1)
    | fail)
   go_ret3
   exact had.AddRes.no HA.out B1
  ·have h3:1048576<r1:=by omega
   go_wp2_with (first
    | (go_at_call 73;refine HC.out.mono ?_;rintro e w1 ⟨rfl,hb1⟩;have B1:Below w.heap.size w w1:=(by repeat (first | (with_reducible first | exact Below.refl _ _ | assumption | refine bset ?_ ?_ _ | refine balloc ?_ _ | refine Below.drew ?_ | refine bdrewN ?_ _ | refine bnext ?_ (by with_reducible assumption)) | exact Nat.le_refl _ | (simp;done) | omega | (simp;omega)));have ha1:∀ b o,b<w.heap.size→w1.cell? ⟨b,o,none⟩=w.cell? ⟨b,o,none⟩:=fun b o h=>B1.cell (p:=⟨b,o,none⟩) h;have hk1:∀ k,k<w.heap.size→k<w1.heap.size:=fun _ h=>Nat.lt_of_lt_of_le h B1.size;have hz1:=hb1.size;(try simp at hz1);have hl1_w0:w.heap.size<w1.heap.size:=Nat.lt_of_lt_of_le (by first | (simp;done) | (simp;omega) | omega) hb1.size;have hc1_w0:=fun o=>hb1.cell (p:=⟨w.heap.size,o,none⟩) (by first | (simp;done) | (simp;omega) | omega);have hf1_w0:=fun o=>hb1.frozen (p:=⟨w.heap.size,o,none⟩) (by first | (simp;done) | (simp;omega) | omega);(try simp [go_sem, *] at hc1_w0);(try simp [go_sem, *] at hf1_w0);clear hb1)
    | fail)
   go_ret3
   exact had.AddRes.no HA.out B1
set_option maxRecDepth 100000 in
set_option maxHeartbeats 4000000 in
theorem hole_Add_ok (done:Int) (l:List Rng) (r:Rng) (A:Option Addr) (c:Nat) (w:World) (hl:SlRep Rng.rep w (· < w.heap.size) l A c) (hm:HoleMay done l) (h0:0≤r.lo) (h1:r.lo≤r.hi) (h2:r.hi≤1048576) :
  Calls Try.prog 71 #[.int .i64 done,.slice A l.length c,.agg #[.int .i64 r.lo,.int .i64 r.hi]] w (had.AddRes (had.ans done l r) w):=by
 have HC:=Lib.hid (hole_May_yes done l A c (w.alloc (.cells #[.int .i64 r.lo,.int .i64 r.hi] 78)) (hl.next (by repeat (first | (with_reducible first | exact Below.refl _ _ | assumption | refine bset ?_ ?_ _ | refine balloc ?_ _ | refine Below.drew ?_ | refine bdrewN ?_ _ | refine bnext ?_ (by with_reducible assumption)) | exact Nat.le_refl _ | (simp;done) | omega | (simp;omega)))) (by have:=hm.2.2.1;omega) (holeMayB_true hm))
 have HAN:Hid (had.ans done l r=if 16<(had.addTo done l r).2.length then (0,[],9) else ((had.addTo done l r).1,(had.addTo done l r).2,0)):=Lib.hid (by
  unfold had.ans
  rw [if_neg (by rw [holeMayB_true hm];decide),if_neg (by omega)])
 have hl16:l.length≤16:=hm.2.2.1
 have HL:=Lib.hid hl
 obtain ⟨r0,r1⟩:=r
 dsimp only at *
 clear hl hm
 go_enter Try.func71,Try.ntmps71
 by_cases h3:r0<r1
 ·have HAD:Hid (had.addTo done l ⟨r0,r1⟩=had.out done (had.mg l ⟨r0,r1⟩)):=Lib.hid (if_pos h3)
  have HMG:=Lib.hid (fun W hW=>hole_merged done l ⟨r0,r1⟩ A c W (HL.out.next hW) hl16)
  dsimp only at HMG
  rw [← HAD.out] at HMG
  clear HAD
  generalize had.addTo done l ⟨r0,r1⟩=ad at *
  obtain ⟨d1,d2⟩:=ad
  dsimp only at HMG HAN
  by_cases h16:16<d2.length
  ·have h16i:(16:Int)<(d2.length:Int):=by omega
   have HAA:Hid (had.ans done l ⟨r0,r1⟩=(0,[],9)):=Lib.hid (by rw [HAN.out,if_pos h16])
   go_wp2_with (first
    | (go_at_call 73;refine HC.out.mono ?_;rintro e w1 ⟨rfl,hb1⟩;have hb1':Below w.heap.size w w1:=(by repeat (first | (with_reducible first | exact Below.refl _ _ | assumption | refine bset ?_ ?_ _ | refine balloc ?_ _ | refine Below.drew ?_ | refine bdrewN ?_ _ | refine bnext ?_ (by with_reducible assumption)) | exact Nat.le_refl _ | (simp;done) | omega | (simp;omega)));have B1:Below w.heap.size w w1:=(by repeat (first | (with_reducible first | exact Below.refl _ _ | assumption | refine bset ?_ ?_ _ | refine balloc ?_ _ | refine Below.drew ?_ | refine bdrewN ?_ _ | refine bnext ?_ (by with_reducible assumption)) | exact Nat.le_refl _ | (simp;done) | omega | (simp;omega)));have ha1:∀ b o,b<w.heap.size→w1.cell? ⟨b,o,none⟩=w.cell? ⟨b,o,none⟩:=fun b o h=>B1.cell (p:=⟨b,o,none⟩) h;have hk1:∀ k,k<w.heap.size→k<w1.heap.size:=fun _ h=>Nat.lt_of_lt_of_le h B1.size;have hz1:=hb1.size;(try simp at hz1);have hl1_w0:w.heap.size<w1.heap.size:=Nat.lt_of_lt_of_le (by first | (simp;done) | (simp;omega) | omega) hb1.size;have hc1_w0:=fun o=>hb1.cell (p:=⟨w.heap.size,o,none⟩) (by first | (simp;done) | (simp;omega) | omega);have hf1_w0:=fun o=>hb1.frozen (p:=⟨w.heap.size,o,none⟩) (by first | (simp;done) | (simp;omega) | omega);(try simp [go_sem, *] at hc1_w0);(try simp [go_sem, *] at hf1_w0);clear hb1)
    | (go_at_call 94;refine (HMG.out _ hb1').mono ?_;rintro e w2 ⟨A2,c2,rfl,hr2,hb2,hl2⟩;have HR2:=Lib.hid hr2;clear hr2;have hB2:Below w.heap.size w w2:=bnext hb1' hb2)
    | (go_at_call 95;refine (clone_rng d2 A2 c2 w2 (HR2.out.keep fun q hq=>⟨hq.2,rfl⟩) (by omega)).mono ?_;rintro e w3 ⟨A3,c3,rfl,ho3,hb3⟩;have HO3:=Lib.hid ho3;clear ho3)
    | fail)
   go_ret3
   exact had.AddRes.no HAA.out hB2
  ·have h16i:(d2.length:Int)≤16:=by omega
   have HAA:Hid (had.ans done l ⟨r0,r1⟩=(d1,d2,0)):=Lib.hid (by rw [HAN.out,if_neg h16])
   go_wp2_with (first
    | (go_at_call 73;refine HC.out.mono ?_;rintro e w1 ⟨rfl,hb1⟩;have hb1':Below w.heap.size w w1:=(by repeat (first | (with_reducible first | exact Below.refl _ _ | assumption | refine bset ?_ ?_ _ | refine balloc ?_ _ | refine Below.drew ?_ | refine bdrewN ?_ _ | refine bnext ?_ (by with_reducible assumption)) | exact Nat.le_refl _ | (simp;done) | omega | (simp;omega)));have B1:Below w.heap.size w w1:=(by repeat (first | (with_reducible first | exact Below.refl _ _ | assumption | refine bset ?_ ?_ _ | refine balloc ?_ _ | refine Below.drew ?_ | refine bdrewN ?_ _ | refine bnext ?_ (by with_reducible assumption)) | exact Nat.le_refl _ | (simp;done) | omega | (simp;omega)));have ha1:∀ b o,b<w.heap.size→w1.cell? ⟨b,o,none⟩=w.cell? ⟨b,o,none⟩:=fun b o h=>B1.cell (p:=⟨b,o,none⟩) h;have hk1:∀ k,k<w.heap.size→k<w1.heap.size:=fun _ h=>Nat.lt_of_lt_of_le h B1.size;have hz1:=hb1.size;(try simp at hz1);have hl1_w0:w.heap.size<w1.heap.size:=Nat.lt_of_lt_of_le (by first | (simp;done) | (simp;omega) | omega) hb1.size;have hc1_w0:=fun o=>hb1.cell (p:=⟨w.heap.size,o,none⟩) (by first | (simp;done) | (simp;omega) | omega);have hf1_w0:=fun o=>hb1.frozen (p:=⟨w.heap.size,o,none⟩) (by first | (simp;done) | (simp;omega) | omega);(try simp [go_sem, *] at hc1_w0);(try simp [go_sem, *] at hf1_w0);clear hb1)
    | (go_at_call 94;refine (HMG.out _ hb1').mono ?_;rintro e w2 ⟨A2,c2,rfl,hr2,hb2,hl2⟩;have HR2:=Lib.hid hr2;clear hr2;have hB2:Below w.heap.size w w2:=bnext hb1' hb2)
    | (go_at_call 95;refine (clone_rng d2 A2 c2 w2 (HR2.out.keep fun q hq=>⟨hq.2,rfl⟩) (by omega)).mono ?_;rintro e w3 ⟨A3,c3,rfl,ho3,hb3⟩;have HO3:=Lib.hid ho3;clear ho3)
    | fail)
   go_ret3
   exact had.AddRes.yes HAA.out rfl (HO3.out.rng.2.keep fun q hq=>⟨⟨Nat.le_trans hB2.size hq.1,hq.2⟩,rfl⟩) (bnext hB2 hb3)
 ·have HAD:Hid (had.addTo done l ⟨r0,r1⟩=(done,l)):=Lib.hid (if_neg h3)
  have HAA:Hid (had.ans done l ⟨r0,r1⟩=(done,l,0)):=Lib.hid (by rw [HAN.out,HAD.out,if_neg (by simp only;omega)])
  have HCL:=Lib.hid (fun W hW=>clone_rng l A c W (HL.out.next hW) (by omega))
  go_wp2_with (first
   | (go_at_call 73;refine HC.out.mono ?_;rintro e w1 ⟨rfl,hb1⟩;have hb1':Below w.heap.size w w1:=(by repeat (first | (with_reducible first | exact Below.refl _ _ | assumption | refine bset ?_ ?_ _ | refine balloc ?_ _ | refine Below.drew ?_ | refine bdrewN ?_ _ | refine bnext ?_ (by with_reducible assumption)) | exact Nat.le_refl _ | (simp;done) | omega | (simp;omega)));have B1:Below w.heap.size w w1:=(by repeat (first | (with_reducible first | exact Below.refl _ _ | assumption | refine bset ?_ ?_ _ | refine balloc ?_ _ | refine Below.drew ?_ | refine bdrewN ?_ _ | refine bnext ?_ (by with_reducible assumption)) | exact Nat.le_refl _ | (simp;done) | omega | (simp;omega)));have ha1:∀ b o,b<w.heap.size→w1.cell? ⟨b,o,none⟩=w.cell? ⟨b,o,none⟩:=fun b o h=>B1.cell (p:=⟨b,o,none⟩) h;have hk1:∀ k,k<w.heap.size→k<w1.heap.size:=fun _ h=>Nat.lt_of_lt_of_le h B1.size;have hz1:=hb1.size;(try simp at hz1);have hl1_w0:w.heap.size<w1.heap.size:=Nat.lt_of_lt_of_le (by first | (simp;done) | (simp;omega) | omega) hb1.size;have hc1_w0:=fun o=>hb1.cell (p:=⟨w.heap.size,o,none⟩) (by first | (simp;done) | (simp;omega) | omega);have hf1_w0:=fun o=>hb1.frozen (p:=⟨w.heap.size,o,none⟩) (by first | (simp;done) | (simp;omega) | omega);(try simp [go_sem, *] at hc1_w0);(try simp [go_sem, *] at hf1_w0);clear hb1)
   | (go_at_call 95;refine (HCL.out _ hb1').mono ?_;rintro e w2 ⟨A2,c2,rfl,ho2,hb2⟩;have HO2:=Lib.hid ho2;clear ho2)
   | fail)
  go_ret3
  exact had.AddRes.yes HAA.out rfl (HO2.out.rng.2.keep fun q hq=>⟨⟨Nat.le_trans hb1'.size hq.1,hq.2⟩,rfl⟩) (bnext hb1' hb2)
theorem hole_Add_res (done:Int) (l:List Rng) (r:Rng) (A:Option Addr) (c:Nat) (w:World) (hl:SlRep Rng.rep w (· < w.heap.size) l A c) (hn:l.length≤140737488351232) :
  Calls Try.prog 71 #[.int .i64 done,.slice A l.length c,.agg #[.int .i64 r.lo,.int .i64 r.hi]] w (had.AddRes (had.ans done l r) w):=by
 by_cases hm:HoleMay done l
 ·by_cases hr:r.lo<0∨r.hi<r.lo∨1048576<r.hi
  ·exact hole_Add_bad done l r A c w hl hn (holeMayB_true hm) hr
  ·exact hole_Add_ok done l r A c w hl hm (by omega) (by omega) (by omega)
 ·exact hole_Add_no done l r A c w hl hn (holeMayB_false hm)
end Go.Proofs.Ytdldfllllgogoaa
namespace Go.Proofs.Ytdldfllllgogoaa
open Go.RowKit
/-! ### The plain law -/
def hitB (last:Int) (r:Rng):Bool:=decide (r.lo≤last∧last<r.hi)
/-- what holds the place first; the others, the last ones first -/
def sackAll (last:Int) (l:List Rng):List Rng:=l.filter (hitB last) ++ l.reverse.filter (fun r=>! hitB last r)
def sacks (last n:Int) (l:List Rng):List Rng:=(sackAll last l).take n.toNat
theorem one_hit {done last:Int} {l:List Rng} (h:HoleMay done l) {i j:Nat} (hi:i<l.length) (hj:j<l.length) (h1:hitB last (l.getD i Rng.z)=true) (h2:hitB last (l.getD j Rng.z)=true):i=j:=by
 have hc:=h.2.2.2.1
 have key:∀ a b:Nat,a<b→b<l.length→(l.getD a Rng.z).hi≤(l.getD b Rng.z).lo:=fun a b hab hb=>by
  have h3:=Chain.le (n:=b) (fun k hk=>hc k (by omega)) (a+1) (by omega)
  rw [endAt_succ] at h3
  have:=(hc b hb).1
  omega
 simp only [hitB,decide_eq_true_eq] at h1 h2
 rcases Nat.lt_trichotomy i j with h3 | h3 | h3
 ·have:=key i j h3 hj;omega
 ·exact h3
 ·have:=key j i h3 hi;omega
theorem mem_at {l:List Rng} {x:Rng} (h:x ∈ l):∃ i,i<l.length∧l.getD i Rng.z=x:=by
 obtain ⟨i,hi,e⟩:=List.getElem_of_mem h
 exact ⟨i,hi,by rw [List.getD_eq_getElem?_getD,List.getElem?_eq_getElem hi];exact e⟩
/-- whoever holds the place is the first one -/
theorem hit_head {done last:Int} {l:List Rng} (h:HoleMay done l) {i:Nat} (hi:i<l.length) (h1:hitB last (l.getD i Rng.z)=true):∃ r,l.filter (hitB last)=l.getD i Rng.z :: r:=by
 have hm:l.getD i Rng.z ∈ l.filter (hitB last):=List.mem_filter.2 ⟨by rw [List.getD_eq_getElem?_getD,List.getElem?_eq_getElem hi];exact List.getElem_mem hi,h1⟩
 cases hf:l.filter (hitB last) with
 | nil=>rw [hf] at hm;cases hm
 | cons x r=>
  have hx:x ∈ l.filter (hitB last):=by rw [hf];exact List.mem_cons_self
  obtain ⟨hx1,hx2⟩:=List.mem_filter.1 hx
  obtain ⟨j,hj,rfl⟩:=mem_at hx1
  obtain rfl:=one_hit h hi hj h1 hx2
  exact ⟨r,rfl⟩
/-- the reference's second way: j of the last ones have been gone through -/
def refTo (last:Int) (l:List Rng) (j:Nat):List Rng:=l.filter (hitB last) ++ (l.reverse.take j).filter (fun r=>! hitB last r)
theorem refTo_all (last:Int) (l:List Rng):refTo last l l.length=sackAll last l:=by
 unfold refTo sackAll
 rw [List.take_of_length_le (by simp)]
theorem refTo_zero (last:Int) (l:List Rng):refTo last l 0=l.filter (hitB last):=by simp [refTo]
theorem rev_take_succ (l:List Rng) (m j:Nat) (h:m+1+j=l.length):l.reverse.take (j+1)=l.reverse.take j ++ [l.getD m Rng.z]:=by
 rw [List.take_add_one,List.getElem?_reverse (by omega),show l.length - 1 - j=m by omega,List.getD_eq_getElem?_getD,List.getElem?_eq_getElem (by omega)]
 rfl
theorem refTo_yes {last:Int} {l:List Rng} {m j:Nat} (h:m+1+j=l.length) (hh:hitB last (l.getD m Rng.z)=true):refTo last l (j+1)=refTo last l j:=by
 unfold refTo
 rw [rev_take_succ l m j h,List.filter_append]
 generalize l.getD m Rng.z=r at *
 simp [hh]
theorem refTo_no {last:Int} {l:List Rng} {m j:Nat} (h:m+1+j=l.length) (hh:hitB last (l.getD m Rng.z)=false):refTo last l (j+1)=refTo last l j ++ [l.getD m Rng.z]:=by
 unfold refTo
 rw [rev_take_succ l m j h,List.filter_append]
 generalize l.getD m Rng.z=r at *
 simp [hh]
theorem sackAll_length (last:Int) (l:List Rng):(sackAll last l).length=l.length:=by
 unfold sackAll
 rw [List.length_append]
 have:(l.reverse.filter (fun r=>! hitB last r)).length=(l.filter (fun r=>! hitB last r)).length:=by rw [List.filter_reverse,List.length_reverse]
 rw [this]
 induction l with
 | nil=>rfl
 | cons x r ih=>cases h:hitB last x <;> simp_all <;> omega
theorem refTo_le (last:Int) (l:List Rng) (j:Nat):(refTo last l j).length≤l.length:=by
 rw [← sackAll_length last l]
 unfold refTo sackAll
 rw [List.length_append,List.length_append]
 have:=((List.take_sublist j l.reverse).filter (fun r=>! hitB last r)).length_le
 omega
theorem filt_succ (last:Int) (l:List Rng) (k:Nat) (h:k<l.length):(l.take (k+1)).filter (hitB last)=(l.take k).filter (hitB last) ++ (if hitB last (l.getD k Rng.z)=true then [l.getD k Rng.z] else []):=by
 rw [List.take_add_one,List.getElem?_eq_getElem h,List.filter_append,List.getD_eq_getElem?_getD,List.getElem?_eq_getElem h]
 cases hh:hitB last l[k] <;> simp [hh]
theorem filt_le (last:Int) (l:List Rng) (k:Nat):((l.take k).filter (hitB last)).length≤k:=Nat.le_trans (List.length_filter_le _ _) (by rw [List.length_take];omega)
def RngsRes (r:Except Int (List Rng)) (w:World) (e:Ending) (w':World):Prop:=
 ∃ A c,e=.returned (.tuple #[.slice A (exL r).length c,.int .i64 (exC r)])∧SlRep Rng.rep w' (fun k=>w.heap.size≤k∧k<w'.heap.size) (exL r) A c∧Below w.heap.size w w'
set_option maxRecDepth 100000 in
set_option maxHeartbeats 4000000 in
theorem ref_Sacks_ok (done:Int) (l:List Rng) (last n:Int) (A:Option Addr) (c:Nat) (w:World) (hl:SlRep Rng.rep w (· < w.heap.size) l A c) (h:holeMayB done l=true) (hn:0≤n∧n≤16) :
  Calls Try.prog 44 #[.int .i64 done,.slice A l.length c,.int .i64 last,.int .i64 n] w (RngsRes (.ok (sacks last n l)) w):=by
 have hm:HoleMay done l:=by simpa [holeMayB] using h
 have hn16:=hm.2.2.1
 have HMAY:=Lib.hid hm
 have HL:=Lib.hid hl
 clear hl hm
 go_enter Try.func44,Try.ntmps44
 go_wp2_with (go_at_call 75;refine (ref_HoleMay_yes done l A c _ HL.out (by omega) h).mono ?_;rintro e w1 ⟨rfl,hb1⟩)
 go_loopw [10,26] (fun out i wr=>∃ (k:Nat) (A':Option Addr) (c':Nat),k≤l.length∧i=.int .i64 k∧out=.slice A' ((l.take k).filter (hitB last)).length c'∧Hid (Own wr w.heap.size 78 2 A' ((l.take k).filter (hitB last)).length c' (((l.take k).filter (hitB last)).flatMap Rng.cells))∧Below w.heap.size w wr) (fun _ i _=>l.length - (intOf i).toNat)
 case atStart=>exact ⟨0,none,0,Nat.zero_le _,rfl,rfl,Lib.hid (Own.nil _ _ _ _),hb1⟩
 case round=>
  obtain ⟨k,A',c',hk,rfl,rfl,HO,hB⟩:=hrel
  rename World=>wr
  by_cases hlt:k<l.length
  ·obtain ⟨b,o,rfl,hb,hc1,hc2⟩:=Rng.cells_at Rng.z (HL.out.below hB) hlt
   have hbw:b<wr.heap.size:=Nat.lt_of_lt_of_le hb hB.size
   have hsz:=hB.size
   have HS:=Lib.hid (filt_succ last l k hlt)
   have hle:=filt_le last l k
   clear HL hb1
   by_cases hh:hitB last (l.getD k Rng.z)=true
   ·have HG:Hid ((l.take (k+1)).filter (hitB last)=(l.take k).filter (hitB last) ++ [l.getD k Rng.z]):=Lib.hid (by rw [HS.out,if_pos hh])
    have hh2:(l.getD k Rng.z).lo≤last∧last<(l.getD k Rng.z).hi:=by simpa [hitB] using hh
    have hn1:((l.take (k+1)).filter (hitB last)).length=((l.take k).filter (hitB last)).length+1:=by rw [HG.out];simp
    have HN1:=Lib.hid hn1
    obtain ⟨h1,h2⟩:=hh2
    have h1':last ≥ (l.getD k Rng.z).lo:=h1
    have HF:Hid (((l.take (k+1)).filter (hitB last)).flatMap Rng.cells=((l.take k).filter (hitB last)).flatMap Rng.cells ++ [.int .i64 (l.getD k Rng.z).lo,.int .i64 (l.getD k Rng.z).hi]):=Lib.hid (by rw [HG.out];simp [Rng.cells])
    clear hh HS hn1 HG
    generalize (l.getD k Rng.z).lo=x at *
    generalize (l.getD k Rng.z).hi=y at *
    generalize hm:((l.take k).filter (hitB last)).length=m at *
    clear hm
    go_wp2_with (at_builtin;refine wp_app _ rfl _ _ _ rfl elemRng w.heap.size A' m c' _ rfl ((HO.out.alloc _).alloc _) _ 1 1 [.int .i64 x,.int .i64 y] rfl rfl (Cells.newAt _ _ _ (by simp)) (by simp [Value.oneCell']) (by omega) (by unfold maxLen;omega) (by simp;omega) ?_;intro A2 c2 w2 hO2 hg2;have HO3:=Lib.hid hO2;clear hO2)
    go_roundw
    case rel=>exact ⟨k+1,A2,c2,by omega,by go_num,by rw [HN1.out],Lib.hid (by rw [HF.out,HN1.out];exact HO3.out),Grew.step (balloc (balloc hB _) _) hg2 (fun g hg=>(HO.out.lt g hg).1)⟩
    case measure=>simp [intOf];omega
   ·have HG:Hid ((l.take (k+1)).filter (hitB last)=(l.take k).filter (hitB last)):=Lib.hid (by rw [HS.out,if_neg hh,List.append_nil])
    have hh2:¬ ((l.getD k Rng.z).lo≤last∧last<(l.getD k Rng.z).hi):=by simpa [hitB] using hh
    clear hh HS
    generalize (l.getD k Rng.z).lo=x at *
    generalize (l.getD k Rng.z).hi=y at *
    by_cases h1:x≤last
    ·have h2:¬ last<y:=fun e=>hh2 ⟨h1,e⟩
     have h1':last ≥ x:=h1
     clear hh2
     go_wp2_with fail
     go_roundw
     case rel=>exact ⟨k+1,A',c',by omega,by go_num,by rw [HG.out],Lib.hid (by rw [HG.out];exact HO.out.alloc _),balloc hB _⟩
     case measure=>simp [intOf];omega
    ·have h1':¬ last ≥ x:=h1
     clear hh2
     go_wp2_with fail
     go_roundw
     case rel=>exact ⟨k+1,A',c',by omega,by go_num,by rw [HG.out],Lib.hid (by rw [HG.out];exact HO.out.alloc _),balloc hB _⟩
     case measure=>simp [intOf];omega
  ·obtain rfl:k=l.length:=by omega
   have HO':Hid (Own wr w.heap.size 78 2 A' (refTo last l 0).length c' ((refTo last l 0).flatMap Rng.cells)):=Lib.hid (by rw [refTo_zero];rw [List.take_of_length_le (Nat.le_refl _)] at HO;exact HO.out)
   have hl0:((l.take l.length).filter (hitB last)).length=(refTo last l 0).length:=by rw [refTo_zero,List.take_of_length_le (Nat.le_refl _)]
   rw [hl0]
   clear HO hl0
   go_wp2_with fail
   go_loopw [10,13] (fun out i wq=>∃ (m j:Nat) (A':Option Addr) (c':Nat),m+j=l.length∧i=.int .i64 ((m:Int) - 1)∧out=.slice A' (refTo last l j).length c'∧Hid (Own wq w.heap.size 78 2 A' (refTo last l j).length c' ((refTo last l j).flatMap Rng.cells))∧Below w.heap.size w wq) (fun _ i _=>((intOf i)+1).toNat)
   case atStart=>exact ⟨l.length,0,A',c',by omega,rfl,rfl,HO',hB⟩
   case round=>
    obtain ⟨m,j,A5,c5,hmj,rfl,rfl,HQ,hBq⟩:=hrel
    rename World=>wq
    clear HO' hB
    cases m with
    | zero=>
     obtain rfl:j=l.length:=by omega
     have hlen:(refTo last l l.length).length=l.length:=by rw [refTo_all,sackAll_length]
     have HR:Hid (SlRep Rng.rep wq (fun k=>w.heap.size≤k∧k<wq.heap.size) (sackAll last l) A5 c5):=Lib.hid (by rw [← refTo_all];exact HQ.out.rng.2)
     have hcap:=HQ.out.cap
     rw [hlen] at hcap ⊢
     have HT:Hid ((sacks last n l).length=min n.toNat l.length):=Lib.hid (by unfold sacks;rw [List.length_take,sackAll_length])
     clear HQ hlen HL HMAY
     have hz:(((0:Nat):Int) - 1) = -1:=by omega
     rw [hz]
     by_cases hgt:(l.length:Int) > n
     ·have hcut:=run_cut_h (P:=Try.prog) elemRng A5 l.length c5 n.toNat (by omega) n (by omega)
      go_wp2_with fail
      go_ret2
      refine ⟨A5,c5,?_,HR.out.take _,hBq⟩
      show _=Ending.returned (.tuple #[.slice A5 (sacks last n l).length c5,.int .i64 0])
      rw [HT.out,Nat.min_eq_left (by omega)]
      rfl
     ·go_wp2_with fail
      go_ret2
      refine ⟨A5,c5,?_,HR.out.take _,hBq⟩
      show _=Ending.returned (.tuple #[.slice A5 (sacks last n l).length c5,.int .i64 0])
      rw [HT.out,Nat.min_eq_right (by omega)]
      rfl
    | succ m=>
     have hi:(((m+1:Nat):Int) - 1)=(m:Int):=by omega
     rw [hi]
     have hlm:m<l.length:=by omega
     have hlm':(m:Int)<(l.length:Int):=by omega
     obtain ⟨b,o,rfl,hb,hc1,hc2⟩:=Rng.cells_at Rng.z (HL.out.below hBq) hlm
     have hbw:b<wq.heap.size:=Nat.lt_of_lt_of_le hb hBq.size
     have hsz:=hBq.size
     have hle:=refTo_le last l j
     by_cases hh:hitB last (l.getD m Rng.z)=true
     ·obtain ⟨rr,hr⟩:=hit_head HMAY.out hlm hh
      have hrt:refTo last l j=l.getD m Rng.z :: (rr ++ (l.reverse.take j).filter (fun r=>! hitB last r)):=by unfold refTo;rw [hr];rfl
      have HN:=Lib.hid (refTo_yes hmj hh)
      obtain ⟨g,rfl,hg1,hg2,hg3⟩:=HQ.out.cell (j:=0) (u:=.int .i64 (l.getD m Rng.z).lo) (by rw [hrt];rfl)
      obtain ⟨g',hg',_,_,hg4⟩:=HQ.out.cell (j:=1) (u:=.int .i64 (l.getD m Rng.z).hi) (by rw [hrt];rfl)
      simp only [Option.some.injEq,Addr.mk.injEq,and_true] at hg'
      subst hg'
      have hpos:0<(refTo last l j).length:=by rw [hrt];simp
      obtain ⟨h1,h2⟩:(l.getD m Rng.z).lo≤last∧last<(l.getD m Rng.z).hi:=by simpa [hitB] using hh
      clear hh hr hrt
      generalize (l.getD m Rng.z).lo=x at *
      generalize (l.getD m Rng.z).hi=y at *
      generalize hq:(refTo last l j).length=q at *
      have HQL:=Lib.hid hq
      clear hq
      obtain ⟨q,rfl⟩:∃ p,q=p+1:=⟨q - 1,by omega⟩
      have h1':last ≥ x:=h1
      go_wp2_with fail
      go_quiet (fail)
      go_wp2
      go_roundw
      case rel=>exact ⟨m,j+1,some ⟨g,0,none⟩,c5,by omega,by go_num,by rw [HN.out,HQL.out],Lib.hid (by rw [HN.out,HQL.out];exact HQ.out.drewN _),bdrewN hBq _⟩
      case measure=>first | (simp [intOf];done) | (simp [intOf];omega)
     ·have hN:=refTo_no hmj (by simpa using hh)
      have hh2:¬ ((l.getD m Rng.z).lo≤last∧last<(l.getD m Rng.z).hi):=by simpa [hitB] using hh
      have HF:Hid ((refTo last l (j+1)).flatMap Rng.cells=(refTo last l j).flatMap Rng.cells ++ [.int .i64 (l.getD m Rng.z).lo,.int .i64 (l.getD m Rng.z).hi]):=Lib.hid (by rw [hN];simp [Rng.cells])
      have HN1:Hid ((refTo last l (j+1)).length=(refTo last l j).length+1):=Lib.hid (by rw [hN];simp)
      clear hN hh
      cases hc:refTo last l j with
      | nil=>
       have hq0:(refTo last l j).length=0:=by rw [hc];rfl
       have HOW:Hid (∀ k o,Own ((wq.drewN k).alloc o) w.heap.size 78 2 A5 0 c5 ((refTo last l j).flatMap Rng.cells)):=Lib.hid (fun k o=>by rw [← hq0];exact (HQ.out.drewN k).alloc o)
       rw [hq0] at HN1
       simp only [List.length_nil]
       clear hc hq0 hh2
       generalize (l.getD m Rng.z).lo=x at *
       generalize (l.getD m Rng.z).hi=y at *
       go_wp2_with fail
       go_quiet (fail)
       go_wp2_with (at_builtin;refine wp_app _ rfl _ _ _ rfl elemRng w.heap.size A5 0 c5 _ rfl (HOW.out _ _) _ 1 1 [.int .i64 x,.int .i64 y] rfl rfl (Cells.newAt _ _ _ rfl) (by simp [Value.oneCell']) (by omega) (by unfold maxLen;omega) (by simp;omega) ?_;intro A7 c7 w7 hO7 hg7;have HO7:=Lib.hid hO7;clear hO7)
       go_roundw
       case rel=>exact ⟨m,j+1,A7,c7,by omega,by go_num,by rw [HN1.out],Lib.hid (by rw [HF.out,HN1.out];exact HO7.out),Grew.step (balloc (bdrewN hBq _) _) hg7 (fun g hg=>(HQ.out.lt g hg).1)⟩
       case measure=>first | (simp [intOf];done) | (simp [intOf];omega)
      | cons z zs=>
       obtain ⟨g,rfl,hg1,hg2,hg3⟩:=HQ.out.cell (j:=0) (u:=.int .i64 z.lo) (by rw [hc];rfl)
       obtain ⟨g',hg',_,_,hg4⟩:=HQ.out.cell (j:=1) (u:=.int .i64 z.hi) (by rw [hc];rfl)
       simp only [Option.some.injEq,Addr.mk.injEq,and_true] at hg'
       subst hg'
       rw [← hc]
       have hpos:0<(refTo last l j).length:=by rw [hc];simp
       clear hc
       generalize (l.getD m Rng.z).lo=x at *
       generalize (l.getD m Rng.z).hi=y at *
       obtain ⟨x0,y0⟩:=z
       dsimp only at hg3 hg4
       have HOW:Hid (∀ k o,Own ((wq.drewN k).alloc o) w.heap.size 78 2 (some ⟨g,0,none⟩) (refTo last l j).length c5 ((refTo last l j).flatMap Rng.cells)):=Lib.hid (fun k o=>(HQ.out.drewN k).alloc o)
       generalize hq:(refTo last l j).length=q at *
       have HQL:=Lib.hid hq
       clear hq
       obtain ⟨q,rfl⟩:∃ p,q=p+1:=⟨q - 1,by omega⟩
       have hqz:((q:Int)+1 == 0)=false:=by rw [beq_eq_false_iff_ne];omega
       by_cases hxy:x0=x∧y0=y
       ·obtain ⟨rfl,rfl⟩:=hxy
        by_cases h1:x0≤last
        ·have h2:¬ last<y0:=fun e=>hh2 ⟨h1,e⟩
         have h1':last ≥ x0:=h1
         have h1d:decide (x0≤last)=true:=decide_eq_true h1
         have h2d:decide (last<y0)=false:=decide_eq_false h2
         clear hh2
         go_wp2_with fail
         go_big_quiet (fail)
         go_wp2_with (at_builtin;refine wp_app _ rfl _ _ _ rfl elemRng w.heap.size (some ⟨g,0,none⟩) (q+1) c5 _ rfl (HOW.out _ _) _ 1 1 [.int .i64 x0,.int .i64 y0] rfl rfl (Cells.newAt _ _ _ rfl) (by simp [Value.oneCell']) (by omega) (by unfold maxLen;omega) (by simp;omega) ?_;intro A7 c7 w7 hO7 hg7;have HO7:=Lib.hid hO7;clear hO7)
         go_roundw
         case rel=>exact ⟨m,j+1,A7,c7,by omega,by go_num,by rw [HN1.out],Lib.hid (by rw [HF.out,HN1.out];exact HO7.out),Grew.step (balloc (bdrewN hBq _) _) hg7 (fun g hg=>(HQ.out.lt g hg).1)⟩
         case measure=>first | (simp [intOf];done) | (simp [intOf];omega)
        ·have h1':¬ last ≥ x0:=h1
         have h1d:decide (x0≤last)=false:=decide_eq_false h1
         have h1e:decide (last ≥ x0)=false:=decide_eq_false h1
         clear hh2
         go_wp2_with fail
         go_big_quiet (fail)
         go_wp2_with (at_builtin;refine wp_app _ rfl _ _ _ rfl elemRng w.heap.size (some ⟨g,0,none⟩) (q+1) c5 _ rfl (HOW.out _ _) _ 1 1 [.int .i64 x0,.int .i64 y0] rfl rfl (Cells.newAt _ _ _ rfl) (by simp [Value.oneCell']) (by omega) (by unfold maxLen;omega) (by simp;omega) ?_;intro A7 c7 w7 hO7 hg7;have HO7:=Lib.hid hO7;clear hO7)
         go_roundw
         case rel=>exact ⟨m,j+1,A7,c7,by omega,by go_num,by rw [HN1.out],Lib.hid (by rw [HF.out,HN1.out];exact HO7.out),Grew.step (balloc (bdrewN hBq _) _) hg7 (fun g hg=>(HQ.out.lt g hg).1)⟩
         case measure=>first | (simp [intOf];done) | (simp [intOf];omega)
       ·by_cases hx0:x0=x
        ·subst hx0
         have hy0:¬ y0=y:=fun e=>hxy ⟨rfl,e⟩
         have hy1:(y == y0)=false:=by rw [beq_eq_false_iff_ne];exact fun e=>hy0 e.symm
         have hy2:(y0 == y)=false:=by rw [beq_eq_false_iff_ne];exact hy0
         have hy3:¬ y=y0:=fun e=>hy0 e.symm
         clear hxy hh2
         go_wp2_with fail
         go_big_quiet (fail)
         go_wp2_with (at_builtin;refine wp_app _ rfl _ _ _ rfl elemRng w.heap.size (some ⟨g,0,none⟩) (q+1) c5 _ rfl (HOW.out _ _) _ 1 1 [.int .i64 x0,.int .i64 y] rfl rfl (Cells.newAt _ _ _ rfl) (by simp [Value.oneCell']) (by omega) (by unfold maxLen;omega) (by simp;omega) ?_;intro A7 c7 w7 hO7 hg7;have HO7:=Lib.hid hO7;clear hO7)
         go_roundw
         case rel=>exact ⟨m,j+1,A7,c7,by omega,by go_num,by rw [HN1.out],Lib.hid (by rw [HF.out,HN1.out];exact HO7.out),Grew.step (balloc (bdrewN hBq _) _) hg7 (fun g hg=>(HQ.out.lt g hg).1)⟩
         case measure=>first | (simp [intOf];done) | (simp [intOf];omega)
        ·have hx1:(x == x0)=false:=by rw [beq_eq_false_iff_ne];exact fun e=>hx0 e.symm
         have hx2:(x0 == x)=false:=by rw [beq_eq_false_iff_ne];exact hx0
         have hx3:¬ x=x0:=fun e=>hx0 e.symm
         clear hxy hh2
         go_wp2_with fail
         go_big_quiet (fail)
         go_wp2_with (at_builtin;refine wp_app _ rfl _ _ _ rfl elemRng w.heap.size (some ⟨g,0,none⟩) (q+1) c5 _ rfl (HOW.out _ _) _ 1 1 [.int .i64 x,.int .i64 y] rfl rfl (Cells.newAt _ _ _ rfl) (by simp [Value.oneCell']) (by omega) (by unfold maxLen;omega) (by simp;omega) ?_;intro A7 c7 w7 hO7 hg7;have HO7:=Lib.hid hO7;clear hO7)
         go_roundw
         case rel=>exact ⟨m,j+1,A7,c7,by omega,by go_num,by rw [HN1.out],Lib.hid (by rw [HF.out,HN1.out];exact HO7.out),Grew.step (balloc (bdrewN hBq _) _) hg7 (fun g hg=>(HQ.out.lt g hg).1)⟩
         case measure=>first | (simp [intOf];done) | (simp [intOf];omega)
end Go.Proofs.Ytdldfllllgogoaa
namespace Go.Proofs.Ytdldfllllgogoaa
open Go.RowKit Go.Shelf
attribute [local go_sem] Oper.semAt_some
/-- what has come when k rounds are over: the last ones first, each with its index -/
def backTo (l:List Rng):Nat→List (Int × Rng)
 | 0=>[]
 | k+1=>backTo l k ++ [(((l.length - 1 - k:Nat):Int),l.getD (l.length - 1 - k) Rng.z)]
theorem backTo_length (l:List Rng) (k:Nat):(backTo l k).length=k:=by
 induction k with
 | zero=>rfl
 | succ k ih=>simp [backTo,ih]
/-- what a round keeps: whatever lay below n₀, and the box of the slice -/
def BackKp (n₀ Bs:Nat) (W W':World):Prop:=Below n₀ W W'∧∀ v,W.cell? ⟨Bs,0,none⟩=some v→W'.cell? ⟨Bs,0,none⟩=some v
theorem BackKp.trans {n₀ Bs:Nat} {A B C:World} (h:BackKp n₀ Bs A B) (k:BackKp n₀ Bs B C):BackKp n₀ Bs A C:=⟨h.1.trans k.1,fun v hv=>k.2 v (h.2 v hv)⟩
theorem BackKp.refl (n₀ Bs:Nat) (W:World):BackKp n₀ Bs W W:=⟨Below.refl _ _,fun _ h=>h⟩
set_option maxRecDepth 100000 in
set_option maxHeartbeats 4000000 in
theorem back1_in (F:Fence) (n:Nat) (hf:F.fn 97) (hro:F.round=none) (hn:1≤n) (lp Bs n₀:Nat) (l:List Rng) (A:Option Addr) (c:Nat) (hreach:l.length≤140737488351232) (J Jx:List (Int × Rng)→World→Prop)
  (hY:∀ pre (x:Int × Rng) W,J pre W→pre.length<l.length→YieldAt F (n - 1) Try.prog lp #[.int .i64 x.1,.agg #[.int .i64 x.2.lo,.int .i64 x.2.hi]] W fun e W'=>
   (e=.returned (.bool true)∧J (pre ++ [x]) W'∧BackKp n₀ Bs W W')∨(e=.returned (.bool false)∧Jx (pre ++ [x]) W'))
  (W:World) (hBs:W.cell? ⟨Bs,0,none⟩=some (.slice A l.length c)) (hl:SlRep Rng.rep W (· < n₀) l A c) (h0:J [] W) :
  CallsIn F n Try.prog 97 #[.func (.yield lp) #[] #[],.pointer (some ⟨Bs,0,none⟩)] W fun e W'=>(∃ v,e=.returned v) ∧
   ((∃ ys,ys=backTo l l.length∧J ys W')∨(∃ pre,(∃ k,k≤l.length∧pre=backTo l k)∧Jx pre W')):=by
 refine callsIn_of_wp Try.func97 rfl hf ?_ hro
 simp only [Try.ntmps97,List.size_toArray,List.length_cons,List.length_nil,Nat.reduceAdd,Nat.reduceSub,Array.replicate_succ,Array.replicate_zero,List.push_toArray,List.append_toArray,List.nil_append,List.cons_append]
 gi_wp2
 gi_loopw [3] (fun i wr=>∃ m k:Nat,m+k=l.length∧i=.int .i64 ((m:Int) - 1)∧J (backTo l k) wr∧BackKp n₀ Bs W wr) (fun i _=>(intOf i+1).toNat)
 case atStart=>exact ⟨l.length,0,by omega,rfl,h0,BackKp.refl _ _ _⟩
 case round=>
  obtain ⟨m,k,hmk,rfl,hJs,hK⟩:=hrel
  have hb:=hK.2 _ hBs
  cases m with
  | zero=>
   obtain rfl:k=l.length:=by omega
   have hz:(((0:Nat):Int) - 1) = -1:=by omega
   rw [hz]
   gi_wp2
   go_end0
   exact ⟨⟨_,rfl⟩,.inl ⟨_,rfl,hJs⟩⟩
  | succ m=>
   have hi:(((m+1:Nat):Int) - 1)=(m:Int):=by omega
   rw [hi]
   have hlm:m<l.length:=by omega
   have hlm':(m:Int)<(l.length:Int):=by omega
   obtain ⟨bb,oo,rfl,_,hc1,hc2⟩:=Rng.cells_at Rng.z (hl.keep (w':=wr) (S':=(· < n₀)) fun j hj=>⟨hj,hK.1.block j hj⟩) hlm
   obtain ⟨fn,tmps,assign,body,hy,hR⟩:=hY _ ((m:Int),l.getD m Rng.z) wr hJs (by rw [backTo_length];omega)
   have hnx:backTo l k ++ [((m:Int),l.getD m Rng.z)]=backTo l (k+1):=by
    rw [backTo,show l.length - 1 - k=m by omega]
   rw [hnx] at hR
   dsimp only at hy hR
   generalize (l.getD m Rng.z).lo=x at *
   generalize (l.getD m Rng.z).hi=y at *
   gi_wp2
   refine hR.mono ?_
   rintro e W3 (⟨rfl,hJ3,hk3⟩ | ⟨rfl,hJx3⟩)
   ·gi_wp2
    go_roundw
    case rel=>exact ⟨m,k+1,by omega,by go_num,hJ3,hK.trans hk3⟩
    case measure=>simp [intOf]
   ·gi_wp2
    refine bodyPost_ret (results_none rfl _ _ _) rfl ?_
    exact ⟨⟨_,rfl⟩,.inr ⟨_,⟨k+1,by omega,rfl⟩,hJx3⟩⟩
theorem back_in (F:Fence) (n:Nat) (hf:F.fn 74) (hro:F.round=none) (A:Option Addr) (m c:Nat) (w:World) :
  CallsIn F n Try.prog 74 #[.slice A m c] w fun e w'=>e=.returned (.func (.func 97) #[] #[.pointer (some ⟨w.heap.size,0,none⟩)])∧w'=w.alloc (.cells #[.slice A m c] 39):=by
 refine callsIn_of_wp Try.func74 rfl hf ?_ hro
 simp only [Try.ntmps74,List.size_toArray,List.length_cons,List.length_nil,Nat.reduceAdd,Nat.reduceSub,Array.replicate_succ,Array.replicate_zero,List.push_toArray,List.append_toArray,List.nil_append,List.cons_append]
 gi_wp2
 go_ret
 exact ⟨rfl,rfl⟩
theorem back_stops (F:Fence) (n:Nat) (hf:F.fn 97) (hro:F.round=none) (hn:1≤n) (Bs n₀:Nat) (l:List Rng) (A:Option Addr) (c:Nat) (hreach:l.length≤140737488351232) (w:World) (hBs:Bs<w.heap.size) (hn₀:n₀≤w.heap.size)
  (hc:w.cell? ⟨Bs,0,none⟩=some (.slice A l.length c)) (hl:SlRep Rng.rep w (· < n₀) l A c) :
  SeqStopsK F n Try.prog 97 #[.pointer (some ⟨Bs,0,none⟩)] (fun x:Int × Rng=>#[Value.int .i64 x.1,.agg #[.int .i64 x.2.lo,.int .i64 x.2.hi]]) (BackKp n₀ Bs) (fun ys=>ys=backTo l l.length)
   (fun pre=>∃ k,k≤l.length∧pre=backTo l k) l.length w:=fun lp J Jx W hW _ _ hY h0=>
 back1_in F n hf hro hn lp Bs n₀ l A c hreach J Jx hY W ((hW.cell (p:=⟨Bs,0,none⟩) hBs).trans hc) (hl.keep fun j hj=>⟨hj,hW.block j (Nat.lt_of_lt_of_le hj hn₀)⟩) h0
theorem back_keeps {n₀ Bs:Nat} {w:World} (hn₀:n₀≤w.heap.size) (W:World) (lp:Nat) (o o':Obj) (hb:w.heap.size≤lp) (ho:W.heap[lp]? = some o) (hc:o.isCells=false) (hw:o.isWalk=false):BackKp n₀ Bs W (W.putObj lp o'):=
 ⟨belowK_b hn₀ W lp o o' hb ho hc hw,fun v hv=>by
  have:=cell_kept (W:=W) (W':=W.putObj lp o') (row:=some lp) hv (grownBy_putObj' W lp o') (fun r e=>by cases e;exact ⟨o,ho,hc⟩)
  exact this⟩
end Go.Proofs.Ytdldfllllgogoaa
namespace Go.Proofs.Ytdldfllllgogoaa
open Go.RowKit Go.Shelf
def RBox (W:World) (B:Nat) (v:Value):Prop:=Boxed W B 39 v
/-- the boxes Ba, Bb hold two rows (in blocks from n₀ on) that read as l1, l2; the box Bs the slice gone through; the box Bl the number -/
structure SackC (w:World) (n₀ Ba Bb Bs Bl:Nat) (last:Int) (A:Option Addr) (m c:Nat) (l1 l2:List Rng) (A1:Option Addr) (c1:Nat) (A2:Option Addr) (c2:Nat) (W:World):Prop where
 ba:RBox W Ba (.slice A1 l1.length c1)
 bb:RBox W Bb (.slice A2 l2.length c2)
 bs:RBox W Bs (.slice A m c)
 bl:Boxed W Bl 3 (.int .i64 last)
 o1:Own W n₀ 78 2 A1 l1.length c1 (l1.flatMap Rng.cells)
 o2:Own W n₀ 78 2 A2 l2.length c2 (l2.flatMap Rng.cells)
 two:Two A1 A2
 low:Below w.heap.size w W
 h0:w.heap.size≤n₀∧n₀≤W.heap.size
 ha:w.heap.size≤Ba∧Ba<n₀
 hb:w.heap.size≤Bb∧Bb<n₀
 hs:Bs<n₀
 hl:Bl<n₀
 hab:Ba≠Bb
 has:Ba≠Bs
 hbs:Bb≠Bs
 hal:Ba≠Bl
 hbl:Bb≠Bl
section
variable {w:World} {n₀ Ba Bb Bs Bl:Nat} {last:Int} {A:Option Addr} {m c:Nat} {l1 l2:List Rng} {A1:Option Addr} {c1:Nat} {A2:Option Addr} {c2:Nat} {W:World}
theorem SackC.swap (h:SackC w n₀ Ba Bb Bs Bl last A m c l1 l2 A1 c1 A2 c2 W):SackC w n₀ Bb Ba Bs Bl last A m c l2 l1 A2 c2 A1 c1 W:=
 ⟨h.bb,h.ba,h.bs,h.bl,h.o2,h.o1,h.two.symm,h.low,h.h0,h.hb,h.ha,h.hs,h.hl,h.hab.symm,h.hbs,h.has,h.hbl,h.hal⟩
theorem box_ne {B:Nat} {t:TypeId} {v:Value} (h:Boxed W B t v) {row:Option Nat} (hr:∀ r,row=some r→∃ o:Obj,W.heap[r]? = some o∧o.isCells=false):some B≠row:=by
 intro e
 obtain ⟨o,ho,hc⟩:=hr B e.symm
 rw [show W.heap[B]? = _ from h] at ho
 cases ho
 cases hc
theorem row_ne {base:Nat} {e:TypeId} {size n d:Nat} {X:Option Addr} {xs:List Value} (h:Own W base e size X n d xs) {row:Option Nat} (hr:∀ r,row=some r→∃ o:Obj,W.heap[r]? = some o∧o.isCells=false):blkOf X=none∨blkOf X≠row:=by
 rcases h.2 with ⟨h1,_⟩ | ⟨g,cap,cur,h1,_,h3,_⟩
 ·left
  simp only [Value.slice.injEq] at h1
  rw [h1.1]
  rfl
 ·right
  simp only [Value.slice.injEq] at h1
  rw [h1.1]
  intro e
  obtain ⟨o,ho,hc⟩:=hr g e.symm
  rw [h3] at ho
  cases ho
  cases hc
/-- whatever turns no cells leaves it -/
theorem SackC.kept (h:SackC w n₀ Ba Bb Bs Bl last A m c l1 l2 A1 c1 A2 c2 W) {W':World} {row:Option Nat} (hg:W.grownBy W' row) (hr:∀ r,row=some r→w.heap.size≤r∧∃ o:Obj,W.heap[r]? = some o∧o.isCells=false):SackC w n₀ Ba Bb Bs Bl last A m c l1 l2 A1 c1 A2 c2 W':=
 have hr':=fun r e=>(hr r e).2
 ⟨h.ba.kept hg (box_ne h.ba hr'),h.bb.kept hg (box_ne h.bb hr'),h.bs.kept hg (box_ne h.bs hr'),h.bl.kept hg (box_ne h.bl hr'),h.o1.kept hg (row_ne h.o1 hr'),h.o2.kept hg (row_ne h.o2 hr'),h.two,
  h.low.grown hg h.low.size (fun k e=>(hr k e).1),⟨h.h0.1,Nat.le_trans h.h0.2 hg.size⟩,h.ha,h.hb,h.hs,h.hl,h.hab,h.has,h.hbs,h.hal,h.hbl⟩
theorem SackC.alloc (h:SackC w n₀ Ba Bb Bs Bl last A m c l1 l2 A1 c1 A2 c2 W) (o:Obj):SackC w n₀ Ba Bb Bs Bl last A m c l1 l2 A1 c1 A2 c2 (W.alloc o):=
 h.kept (World.grownBy_alloc W o none) (fun r e=>by cases e)
theorem box_row {B:Nat} {v:Value} (h:RBox W B v) {base:Nat} {n d:Nat} {X:Option Addr} {xs:List Value} (ho:Own W base 78 2 X n d xs):some B≠blkOf X:=by
 have:=h.not_row (by decide) ho
 rwa [ownBlock_slice] at this
/-- the first row is appended to and its box is set -/
theorem SackC.step (h:SackC w n₀ Ba Bb Bs Bl last A m c l1 l2 A1 c1 A2 c2 W) {tmp:Obj} {w1:World} {A1':Option Addr} {c1':Nat} {x:Rng} (hg:Grew (W.alloc tmp) w1 A1 A1') (ho:Own w1 n₀ 78 2 A1' (l1.length+1) c1' (l1.flatMap Rng.cells ++ Rng.cells x)) :
  SackC w n₀ Ba Bb Bs Bl last A m c (l1 ++ [x]) l2 A1' c1' A2 c2 (w1.setCell ⟨Ba,0,none⟩ (.slice A1' (l1.length+1) c1'))∧(∀ K,KeepsFrom K W (w1.setCell ⟨Ba,0,none⟩ (.slice A1' (l1.length+1) c1'))) ∧
   (∀ k,k≤Ba→Below k W (w1.setCell ⟨Ba,0,none⟩ (.slice A1' (l1.length+1) c1')))∧RBox w1 Ba (.slice A1 l1.length c1):=by
 have ha:=h.alloc tmp
 have hge:∀ k,blkOf A1=some k→n₀≤k:=fun k e=>(h.o1.lt k e).1
 have b1:RBox w1 Ba (.slice A1 l1.length c1):=ha.ba.kept hg.grown (box_row ha.ba ha.o1)
 have b2:RBox w1 Bb (.slice A2 l2.length c2):=ha.bb.kept hg.grown (box_row ha.bb ha.o1)
 have b3:RBox w1 Bs (.slice A m c):=ha.bs.kept hg.grown (box_row ha.bs ha.o1)
 have b4:Boxed w1 Bl 3 (.int .i64 last):=ha.bl.kept hg.grown (by
  have:=ha.bl.not_row (by decide) ha.o1
  rwa [ownBlock_slice] at this)
 have r2:Own w1 n₀ 78 2 A2 l2.length c2 (l2.flatMap Rng.cells):=ha.o2.kept' hg (fun k e=>h.two.symm k e)
 have hl:(l1 ++ [x]).length=l1.length+1:=by simp
 have hlow:∀ k,k≤Ba→Below k W (w1.setCell ⟨Ba,0,none⟩ (.slice A1' (l1.length+1) c1')):=fun k hk=>
  (((Below.refl k W).alloc (by have:=h.ha.2;have:=h.h0.2;omega) tmp).trans (hg.below (by have:=h.ha.2;have:=h.h0.2;simp;omega) (fun j e=>by have:=hge j e;have:=h.ha.2;omega))).setCell (p:=⟨Ba,0,none⟩) hk _
 have oa:Own (w1.setCell ⟨Ba,0,none⟩ (.slice A1' (l1.length+1) c1')) n₀ 78 2 A1' (l1.length+1) c1' (l1.flatMap Rng.cells ++ Rng.cells x):=ho.setCell (fun e=>by have h1:n₀≤Ba:=(ho.lt _ e).1;have:=h.ha.2;omega) _
 have ob:Own (w1.setCell ⟨Ba,0,none⟩ (.slice A1' (l1.length+1) c1')) n₀ 78 2 A2 l2.length c2 (l2.flatMap Rng.cells):=r2.setCell (fun e=>by have h1:n₀≤Ba:=(r2.lt _ e).1;have:=h.ha.2;omega) _
 refine ⟨⟨?_,b2.other h.hab.symm _,b3.other h.has.symm _,b4.other h.hal.symm _,?_,ob,h.two.left hg (fun k e=>(ha.o2.lt k e).2),h.low.trans ((hlow Ba (Nat.le_refl _)).mono h.ha.1),⟨h.h0.1,?_⟩,h.ha,h.hb,h.hs,h.hl,h.hab,h.has,h.hbs,h.hal,h.hbl⟩,?_,hlow,b1⟩
 ·rw [hl];exact b1.set _
 ·rw [hl,List.flatMap_append];simpa using oa
 ·exact Nat.le_trans h.h0.2 (hlow Ba (Nat.le_refl _)).size
 ·intro K
  refine (((KeepsOthers.alloc W tmp).trans (KeepsOthers.of_grownBy hg.grown fun j o ej hj=>?_)).trans (KeepsOthers.setCell _ _ _)).from K
  rcases ha.o1.2 with ⟨h1,_⟩ | ⟨g,cap,cur,h1,_,h3,_⟩
  ·simp only [Value.slice.injEq] at h1
   rw [h1.1] at ej
   cases ej
  ·simp only [Value.slice.injEq] at h1
   rw [h1.1] at ej
   cases ej
   rw [h3] at hj
   cases hj
   rfl
end
theorem wpIn_app {F:Fence} {n:Nat} {P:Program} (w:World) {ops:Array Oper} {rest:List Oper} {o:Oper} {a:Act} {Q:Exit→Act→World→Prop}
  (hgd:o.guard=none) (s x:Operand) (t:TypeId) (ho:o.op=.call { callee:=.builtin .append,args:=#[s,x],argTypes:=#[t,t] }) {e:TypeId} {size bytes:Nat} (hT:ElemT P t e size bytes) (base:Nat) (A:Option Addr) (k c:Nat) (xs:List Value) (hs:a.eval s=.slice A k c) (hown:Own w base e size A k c xs)
  (B:Option Addr) (m d:Nat) (news:List Value) (hx:a.eval x=.slice B m d) (hl:news.length=m * size) (hnews:Cells w B news) (h1:∀ u ∈ news,u.oneCell'=true) (hroom:(k+m) * bytes≤140737488355328) (h63:k+m≤maxLen) (hbase:base≤w.heap.size)
  (hK:∀ A' c' w',Own w' base e size A' (k+m) c' (xs ++ news)→Grew w w' A A'→wpListIn F n P ops Q rest (a.put o.dst (.slice A' (k+m) c')) w'):wpListIn F n P ops Q (o :: rest) a w:=by
 refine wpListIn_plain hgd fun K hK'=>?_
 obtain ⟨A',c',w',hrun,r1,r2⟩:=run_app (P:=P) (ty:=o.type) w hT base A k c xs hown B m d news hl hnews h1 hroom h63 hbase
 unfold Oper.wpIn
 refine ⟨?_,?_⟩
 ·simp [Oper.about,ho,resolve,Target.leads,Sem.run_pure]
 ·rw [Oper.semAt_plain F _ _ (by rw [ho];intro c hc';cases hc')]
  simp [execOp,ho,resolve,invoke,builtin,hs,hx,hrun,Result.andThen]
  exact hK' _ _ (hK A' c' w' r1 r2)
end Go.Proofs.Ytdldfllllgogoaa
