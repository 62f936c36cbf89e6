/- Texts in one: RowOf, Blk, Del, Stay, BlkA, Anew, Recv1, Recv2, Appz, Coll, Recv3, Send1, PipeF, PipeG, Send7, Tail. No condition. -/
import Derived.Test.YtdldfllllgogoaaPipM1
import Derived.Lib.SliceRun
import Derived.Laws.IdiomCopy
import Derived.Test.YtdldfllllgogoaaPipM3
import Derived.RegionTactic
import Derived.BigRegion
import Derived.Deep.RegionLaw
import Derived.Deep.CutBlock
import Derived.Lib.AppendZerosOnto
import Derived.Laws.CopyOwn
import Derived.Deep.DeepCutAuto
import Derived.BigQuiet
import Derived.IntWalk
import Derived.Laws.BitsAllLaws
import Derived.OrdersHeld
import Derived.Deep.RegionHeld
namespace Go.Proofs.Ytdldfllllgogoaa
open Go.RowKit
/-- the cells xs read as the list L, through blocks of S -/
def RowsOf {α:Type} (R:Rep α) (w:World) (S:Nat→Prop):List α→List Value→Prop
 | [],xs=>xs=[]
 | a :: L,xs=>∃ cs ys,xs=cs ++ ys∧R.rep w S a cs∧RowsOf R w S L ys
section
variable {α:Type} {R:Rep α} {w w':World} {S S':Nat→Prop}
theorem RowsOf.nil:RowsOf R w S [] []:=rfl
theorem RowsOf.keep:∀ {L:List α} {xs:List Value},RowsOf R w S L xs→(∀ k,S k→S' k∧w'.heap[k]? = w.heap[k]?)→RowsOf R w' S' L xs
 | [],_,h,_=>h
 | _ :: _,_,⟨cs,ys,e,h1,h2⟩,hk=>⟨cs,ys,e,R.mono h1 hk,RowsOf.keep h2 hk⟩
theorem RowsOf.len:∀ {L:List α} {xs:List Value},RowsOf R w S L xs→xs.length=L.length * R.size
 | [],xs,h=>by rw [show xs=[] from h];simp
 | a :: L,xs,⟨cs,ys,e,h1,h2⟩=>by rw [e,List.length_append,R.len h1,RowsOf.len h2,List.length_cons,Nat.succ_mul];omega
theorem RowsOf.snoc {a:α} {cs:List Value} (ha:R.rep w S a cs):∀ {L:List α} {xs:List Value},RowsOf R w S L xs→RowsOf R w S (L ++ [a]) (xs ++ cs)
 | [],xs,h=>⟨cs,[],by rw [show xs=[] from h];simp,ha,rfl⟩
 | _ :: _,_,⟨cs',ys,e,h1,h2⟩=>⟨cs',ys ++ cs,by rw [e,List.append_assoc],h1,RowsOf.snoc ha h2⟩
theorem RowsOf.at:∀ {L:List α} {xs:List Value} {i:Nat} {a:α},RowsOf R w S L xs→L[i]? = some a→∃ cs,R.rep w S a cs∧∀ j u,cs[j]? = some u→xs[i * R.size+j]? = some u
 | [],_,i,a,_,hi=>by simp at hi
 | x :: L,_,0,a,⟨cs,ys,e,h1,_⟩,hi=>by
  simp at hi
  subst hi
  refine ⟨cs,h1,fun j u hu=>?_⟩
  rw [e,Nat.zero_mul,Nat.zero_add,List.getElem?_append_left (List.getElem?_eq_some_iff.1 hu).1]
  exact hu
 | x :: L,_,i+1,a,⟨cs,ys,e,h1,h2⟩,hi=>by
  obtain ⟨cs',h3,h4⟩:=RowsOf.at h2 (by simpa using hi)
  refine ⟨cs',h3,fun j u hu=>?_⟩
  have hl:=R.len h1
  rw [e,List.getElem?_append_right (by rw [hl,Nat.succ_mul];omega),hl,show (i+1) * R.size+j - R.size=i * R.size+j by rw [Nat.succ_mul];omega]
  exact h4 j u hu
theorem RowsOf.rep {base e size n c:Nat} {A:Option Addr} {L:List α} {xs:List Value} (h:RowsOf R w S L xs) (hsz:R.size=size) (hpos:0<size) (hS:∀ k,S k→S' k) (ho:Own w base e size A n c xs) (hA:∀ k,blkOf A=some k→S' k):n=L.length∧SlRep R w S' L A c:=by
 subst hsz
 have hn:n=L.length:=by
  have h1:=ho.len
  rw [h.len] at h1
  exact (Nat.eq_of_mul_eq_mul_right hpos h1).symm
 refine ⟨hn,⟨by have:=ho.cap;omega,ho.cap.2,?_⟩⟩
 cases L with
 | nil=>exact .inl rfl
 | cons y r=>
  obtain ⟨cs0,h0,h0'⟩:=h.at (i:=0) (a:=y) rfl
  have h0l:0<cs0.length:=by rw [R.len h0];exact hpos
  obtain ⟨g,rfl,h1,h2,_⟩:=ho.cell (h0' 0 _ (List.getElem?_eq_getElem h0l))
  refine .inr ⟨g,0,rfl,hA g rfl,fun i z hz=>?_⟩
  obtain ⟨cs,h3,h4⟩:=h.at hz
  refine ⟨cs,R.mono h3 fun k hk=>⟨hS k hk,rfl⟩,fun j u hu=>?_⟩
  obtain ⟨g',e1,_,_,hc⟩:=ho.cell (h4 j u hu)
  simp only [Option.some.injEq,Addr.mk.injEq,and_true] at e1
  subst e1
  rw [Nat.zero_add]
  exact hc
theorem Own.setAt {base e size g n c:Nat} {xs:List Value} (h:Own w base e size (Option.some ⟨g,0,none⟩) n c xs) {j:Nat} (v:Value):Own (w.setCell ⟨g,j,none⟩ v) base e size (Option.some ⟨g,0,none⟩) n c (xs.set j v):=by
 obtain ⟨h1,h2⟩:=h
 refine ⟨by rw [List.length_set];exact h1,.inr ?_⟩
 rcases h2 with ⟨h3,_⟩ | ⟨g',cap,cur,h3,h4,h5,h6,h7,h8,h9⟩
 ·simp at h3
 ·simp only [Value.slice.injEq,Option.some.injEq,Addr.mk.injEq,and_true] at h3
  obtain ⟨rfl,_,rfl⟩:=h3
  refine ⟨g,c,cur.set! j v,rfl,h4,heap_setCell_same w g j _ _ _ h5,h6,h7,by simpa using h8,?_⟩
  rw [← h9]
  simp only [Array.set!_eq_setIfInBounds,Array.toList_setIfInBounds,List.take_set]
theorem Own.frozenAt {base e size n c g:Nat} {xs:List Value} (h:Own w base e size (Option.some ⟨g,0,none⟩) n c xs) (j:Nat):w.frozen? ⟨g,j,none⟩=false:=by
 rcases h.2 with ⟨h1,_⟩ | ⟨g',cap,cur,h1,_,h3,_⟩
 ·simp at h1
 ·simp only [Value.slice.injEq,Option.some.injEq,Addr.mk.injEq,and_true] at h1
  obtain ⟨rfl,_⟩:=h1
  simp [World.frozen?,h3]
theorem Own.some {base e size n c:Nat} {A:Option Addr} {xs:List Value} (h:Own w base e size A n c xs) (hp:0<xs.length):∃ g,A=Option.some ⟨g,0,none⟩∧base≤g∧g<w.heap.size:=by
 obtain ⟨g,e1,h1,h2,_⟩:=h.cell (List.getElem?_eq_getElem hp)
 exact ⟨g,e1,h1,h2⟩
end
end Go.Proofs.Ytdldfllllgogoaa
namespace Go.Proofs.Ytdldfllllgogoaa
open Go.RowKit
section
variable {w w':World} {F:Nat} {T:TypeId} {x y z u:Value}
end
/-- two rows of elements of two types lie in two blocks -/
theorem Own.two {w:World} {base base':Nat} {e e':TypeId} {size size' n n' c c':Nat} {A A':Option Addr} {xs xs':List Value} (h:Own w base e size A n c xs) (h2:Own w base' e' size' A' n' c' xs') (he:e≠e'):blkOf A=none∨blkOf A≠blkOf A':=by
 rcases h.2 with ⟨h1,_⟩ | ⟨g,cap,cur,h1,_,h3,_⟩
 ·simp only [Value.slice.injEq] at h1
  exact .inl (by rw [h1.1];rfl)
 ·refine .inr fun hA=>?_
  simp only [Value.slice.injEq] at h1
  rcases h2.2 with ⟨k1,_⟩ | ⟨g',cap',cur',k1,_,k3,_⟩
  ·simp only [Value.slice.injEq] at k1
   rw [h1.1,k1.1] at hA
   cases hA
  ·simp only [Value.slice.injEq] at k1
   rw [h1.1,k1.1] at hA
   have hg:g=g':=by simpa [blkOf] using hA
   subst hg
   rw [h3] at k3
   simp only [Option.some.injEq,Obj.cells.injEq] at k3
   exact he k3.2.1
end Go.Proofs.Ytdldfllllgogoaa
namespace Go.Proofs.Ytdldfllllgogoaa
open Go.RowKit
/-- the cells vs laid over a list from place o on -/
def overl (l:List Value):Nat→List Value→List Value
 | _,[]=>l
 | o,v :: r=>overl (l.set o v) (o+1) r
theorem overl_len:∀ (vs:List Value) (l:List Value) (o:Nat),(overl l o vs).length=l.length
 | [],_,_=>rfl
 | v :: r,l,o=>by rw [overl,overl_len r,List.length_set]
theorem overl_get:∀ (vs:List Value) (l:List Value) (o j:Nat),o+vs.length≤l.length→(overl l o vs)[j]? = if o≤j∧j<o+vs.length then vs[j - o]? else l[j]?
 | [],l,o,j,_=>by rw [overl,if_neg (fun h=>by have h2:=h.2;rw [List.length_nil] at h2;omega)]
 | v :: r,l,o,j,h=>by
  rw [List.length_cons] at h
  rw [overl,overl_get r (l.set o v) (o+1) j (by rw [List.length_set];omega),List.length_cons]
  by_cases h1:o+1≤j∧j<o+1+r.length
  ·rw [if_pos h1,if_pos (by omega),show j - o=(j - (o+1))+1 by omega,List.getElem?_cons_succ]
  ·rw [if_neg h1]
   by_cases h2:j=o
   ·subst h2
    rw [if_pos (by omega),Nat.sub_self,List.getElem?_set_self (by omega)];rfl
   ·rw [if_neg (by omega),List.getElem?_set_ne (by omega)]
theorem overl_take2 {vs l:List Value} {o:Nat} (h:o+vs.length≤l.length):(overl l o vs).take (o+vs.length)=l.take o ++ vs:=by
 apply List.ext_getElem?
 intro j
 rw [List.getElem?_take]
 by_cases hj:j<o+vs.length
 ·rw [if_pos hj,overl_get _ _ _ _ h]
  by_cases h1:o≤j
  ·rw [if_pos ⟨h1,hj⟩,List.getElem?_append_right (by rw [List.length_take];omega),List.length_take,Nat.min_eq_left (by omega)]
  ·rw [if_neg (by omega),List.getElem?_append_left (by rw [List.length_take];omega),List.getElem?_take,if_pos (by omega)]
 ·rw [if_neg hj,List.getElem?_eq_none (by rw [List.length_append,List.length_take];omega)]
theorem heap_setCells_same (g:Nat) (e:TypeId):∀ (vs:List Value) (o:Nat) (w:World) (cur:Array Value),w.heap[g]? = some (.cells cur e (0,0))→(w.setCells g o vs).heap[g]? = some (.cells (overl cur.toList o vs).toArray e (0,0))
 | [],_,w,cur,h=>by rw [World.setCells,overl,h]
 | v :: r,o,w,cur,h=>by
  rw [World.setCells,heap_setCells_same g e r (o+1) _ (cur.set! o v) (heap_setCell_same w g o _ _ _ h),overl]
  rw [Array.set!_eq_setIfInBounds,Array.toList_setIfInBounds]
theorem keep_setCells (g:Nat):∀ (vs:List Value) (o:Nat) (w:World),(w.setCells g o vs).heap.size=w.heap.size∧(w.setCells g o vs).os=w.os∧(w.setCells g o vs).tape=w.tape∧(w.setCells g o vs).output=w.output∧∀ k,k≠g→(w.setCells g o vs).heap[k]? = w.heap[k]?
 | [],_,w=>⟨rfl,rfl,rfl,rfl,fun _ _=>rfl⟩
 | v :: r,o,w=>by
  obtain ⟨h1,h2,h3,h4,h5⟩:=keep_setCells g r (o+1) (w.setCell ⟨g,o,none⟩ v)
  refine ⟨h1.trans (by simp [World.setCell]),h2,h3,h4,fun k hk=>(h5 k hk).trans (Below.heap_setCell w _ _ k hk)⟩
section
variable {w:World} {base g:Nat} {e:TypeId} {size n c:Nat} {xs:List Value}
end
end Go.Proofs.Ytdldfllllgogoaa
namespace Go.Proofs.Ytdldfllllgogoaa
open Go.RowKit
/-- two rows lie in two blocks -/
def Far (A A':Option Addr):Prop:=∀ k,blkOf A=some k→blkOf A'≠some k
/-- what stays of a world: all but these blocks -/
structure Stays (w w':World) (No:Nat→Prop):Prop where
 os:w'.os=w.os
 tape:w'.tape=w.tape
 output:w'.output=w.output
 size:w.heap.size≤w'.heap.size
 block:∀ k,k<w.heap.size→¬ No k→w'.heap[k]? = w.heap[k]?
section
variable {w w' w2:World} {No No2:Nat→Prop}
theorem Stays.refl (w:World) (No:Nat→Prop):Stays w w No:=⟨rfl,rfl,rfl,Nat.le_refl _,fun _ _ _=>rfl⟩
theorem Stays.trans (h:Stays w w' No) (h2:Stays w' w2 No2) (hn:∀ k,k<w.heap.size→No2 k→No k):Stays w w2 No:=
 ⟨h2.os.trans h.os,h2.tape.trans h.tape,h2.output.trans h.output,Nat.le_trans h.size h2.size,fun k hk hN=>(h2.block k (Nat.lt_of_lt_of_le hk h.size) (fun h3=>hN (hn k hk h3))).trans (h.block k hk hN)⟩
theorem Stays.mono (h:Stays w w' No) (hn:∀ k,k<w.heap.size→No k→No2 k):Stays w w' No2:=⟨h.os,h.tape,h.output,h.size,fun k hk hN=>h.block k hk (fun h3=>hN (hn k hk h3))⟩
theorem Stays.grew {A A':Option Addr} (h:Grew w w' A A'):Stays w w' (fun k=>blkOf A=some k):=⟨h.grown.os,h.grown.tape,h.grown.output,h.grown.size,fun k hk hN=>h.grown.block k hk (fun e=>hN e.symm)⟩
theorem Stays.set (w:World) (b o:Nat) (v:Value):Stays w (w.setCell ⟨b,o,Option.none⟩ v) (fun k=>k=b):=⟨rfl,rfl,rfl,by simp [World.setCell],fun k _ hN=>Below.heap_setCell w _ _ k hN⟩
theorem Stays.below {B:Nat} (h:Stays w w' No) (hB:B≤w.heap.size) (hn:∀ k,No k→B≤k):Below B w w':=by
 exact ⟨h.os,h.tape,h.output,h.size,fun k hk=>h.block k (Nat.lt_of_lt_of_le hk hB) (fun h3=>Nat.lt_irrefl _ (Nat.lt_of_lt_of_le hk (hn k h3)))⟩
section
variable {base n c:Nat} {e:TypeId} {size:Nat} {A:Option Addr} {xs:List Value} {F:Nat} {T:TypeId} {x y z u:Value}
theorem Own.stays (h:Own w base e size A n c xs) (hs:Stays w w' No) (hn:∀ k,blkOf A=Option.some k→¬ No k):Own w' base e size A n c xs:=by
 refine ⟨h.1,?_⟩
 have hlt:=h.lt
 rcases h.2 with h2 | ⟨g,cap,cur,h1,h2,h3,h4⟩
 ·exact .inl h2
 ·simp only [Value.slice.injEq] at h1
  have hg:blkOf A=Option.some g:=by rw [h1.1];rfl
  exact .inr ⟨g,cap,cur,by simp only [Value.slice.injEq];exact h1,h2,(hs.block g (hlt g hg).2 (hn g hg)).trans h3,h4⟩
end
end
theorem Stays.of_below {w w':World} (h:Below w.heap.size w w') (No:Nat→Prop):Stays w w' No:=⟨h.os,h.tape,h.output,h.size,fun k hk _=>h.block k hk⟩
theorem Stays.comp {w w1 w2:World} {No:Nat→Prop} (h:Stays w w1 No) (h2:Stays w1 w2 No):Stays w w2 No:=h.trans h2 fun _ _ h=>h
end Go.Proofs.Ytdldfllllgogoaa
namespace Go.Proofs.Ytdldfllllgogoaa
open Go.RowKit
/-- the block F holds these cells -/
def BlkA (w:World) (F:Nat) (T:TypeId) (cs:Array Value):Prop:=w.heap[F]? = some (.cells cs T (0,0))
section
variable {w w':World} {F:Nat} {T:TypeId} {cs:Array Value} {No:Nat→Prop}
theorem BlkA.lt (h:BlkA w F T cs):F<w.heap.size:=(Array.getElem?_eq_some_iff.1 h).1
theorem BlkA.new (w:World) (T:TypeId) (cs:Array Value):BlkA (w.alloc (.cells cs T)) w.heap.size T cs:=heap_alloc_new w _
theorem BlkA.same (h:BlkA w F T cs) (hk:w'.heap[F]? = w.heap[F]?):BlkA w' F T cs:=hk.trans h
theorem BlkA.next (h:BlkA w F T cs) (hb:Below w.heap.size w w'):BlkA w' F T cs:=h.same (hb.block F h.lt)
theorem BlkA.alloc (h:BlkA w F T cs) (o:Obj):BlkA (w.alloc o) F T cs:=h.same (Below.heap_alloc w o F h.lt)
theorem BlkA.drewN (h:BlkA w F T cs) (k:Nat):BlkA (w.drewN k) F T cs:=h
theorem BlkA.drew (h:BlkA w F T cs):BlkA w.drew F T cs:=h
theorem BlkA.kept {row:Option Nat} (h:BlkA w F T cs) (hg:w.grownBy w' row) (hne:row≠some F):BlkA w' F T cs:=h.same (hg.block F h.lt (fun e=>hne e.symm))
theorem BlkA.setCell (h:BlkA w F T cs) {p:Addr} (hp:p.block≠F) (v:Value):BlkA (w.setCell p v) F T cs:=h.same (Below.heap_setCell w p v F (fun e=>hp e.symm))
theorem BlkA.stays (h:BlkA w F T cs) (hs:Stays w w' No) (hn:¬ No F):BlkA w' F T cs:=h.same (hs.block F h.lt hn)
theorem BlkA.get (h:BlkA w F T cs) (j:Nat):w.cell? ⟨F,j,none⟩=cs[j]?:=cell_of_row w F j _ T (0,0) h
theorem BlkA.frozen (h:BlkA w F T cs) (j:Nat):w.frozen? ⟨F,j,none⟩=false:=by
 have h':w.heap[F]? = some (.cells cs T (0,0)):=h
 simp [World.frozen?,h']
theorem BlkA.set (h:BlkA w F T cs) (j:Nat) (v:Value):BlkA (w.setCell ⟨F,j,none⟩ v) F T (cs.set! j v):=heap_setCell_same w F j _ _ _ h
theorem BlkA.apart (h:BlkA w F T cs) {base:Nat} {e:TypeId} {size n c:Nat} {A:Option Addr} {xs:List Value} (ho:Own w base e size A n c xs) (hT:e≠T):blkOf A≠some F:=by
 intro he
 have h':w.heap[F]? = some (.cells cs T (0,0)):=h
 rcases ho.2 with ⟨h1,_⟩ | ⟨g,cap,cur,h1,_,h3,_⟩
 ·simp only [Value.slice.injEq] at h1
  rw [h1.1] at he
  cases he
 ·simp only [Value.slice.injEq] at h1
  rw [h1.1] at he
  have hg:g=F:=by simpa [blkOf] using he
  subst hg
  rw [h'] at h3
  simp only [Option.some.injEq,Obj.cells.injEq] at h3
  exact hT h3.2.1.symm
end
theorem after_alloc {w1 w2:World} {cs:Array Value} {T:TypeId} (hb:Below (w1.alloc (.cells cs T)).heap.size (w1.alloc (.cells cs T)) w2):BlkA w2 w1.heap.size T cs∧w1.heap.size<w2.heap.size:=by
 have h:=(BlkA.new w1 T cs).next hb
 exact ⟨h,h.lt⟩
theorem after_allocD {w1 w2:World} {cs:Array Value} {T:TypeId} (hb:Below (w1.alloc (.cells cs T)).drew.heap.size (w1.alloc (.cells cs T)).drew w2):BlkA w2 w1.heap.size T cs∧w1.heap.size<w2.heap.size:=by
 have h:=(BlkA.new w1 T cs).drew.next hb
 exact ⟨h,h.lt⟩
theorem after_allocN {w1 w2:World} {cs:Array Value} {T:TypeId} {k:Nat} (hb:Below ((w1.alloc (.cells cs T)).drewN k).heap.size ((w1.alloc (.cells cs T)).drewN k) w2):BlkA w2 w1.heap.size T cs∧w1.heap.size<w2.heap.size:=by
 have h:=((BlkA.new w1 T cs).drewN k).next hb
 exact ⟨h,h.lt⟩
end Go.Proofs.Ytdldfllllgogoaa
namespace Go.Proofs.Ytdldfllllgogoaa
open Go.RowKit
/-- two places of a row: the old block, or a new one -/
def Anew (w:World) (A1 A:Option Addr):Prop:=blkOf A1=blkOf A∨∃ k,w.heap.size≤k∧blkOf A1=some k
theorem Anew.refl (w:World) (A:Option Addr):Anew w A A:=.inl rfl
theorem Anew.of_grew {w w':World} {A A':Option Addr} (h:Grew w w' A A'):Anew w A' A:=h.blk
theorem Anew.below {w w1:World} {A A1:Option Addr} (h:Anew w1 A1 A) (hs:w.heap.size≤w1.heap.size):Anew w A1 A:=h.imp id fun ⟨k,a,b⟩=>⟨k,by omega,b⟩
theorem Anew.inf {w:World} {A A1:Option Addr} (h:Anew w A1 A) {k:Nat} (hk:blkOf A1=some k):blkOf A=some k∨w.heap.size≤k:=by
 rcases h with e | ⟨g,h1,e⟩
 ·exact .inl (e ▸ hk)
 ·rw [e] at hk;cases hk;exact .inr h1
/-- the row lies where the other one lay, or in a new block, or nowhere -/
def Newer (w:World) (A1 A:Option Addr):Prop:=∀ k,blkOf A1=some k→blkOf A=some k∨w.heap.size≤k
theorem Newer.of {w:World} {A1 A:Option Addr} (h:Anew w A1 A):Newer w A1 A:=fun _ hk=>h.inf hk
theorem Newer.grew {w w':World} {A A':Option Addr} (h:Grew w w' A A'):Newer w A' A:=Newer.of (Anew.of_grew h)
theorem Stays.grown {w w':World} {r:Nat} (hg:w.grownBy w' (some r)):Stays w w' (fun k=>k=r):=⟨hg.os,hg.tape,hg.output,hg.size,fun k hk hn=>hg.block k hk (fun e=>hn (by cases e;rfl))⟩
end Go.Proofs.Ytdldfllllgogoaa
namespace Go.Proofs.Ytdldfllllgogoaa
open Go.RowKit
set_option linter.unusedSimpArgs false
def rv.u8v (b:UInt8):Value:=.int .u8 (b.toNat:Int)
/-- the blocks that hold the ranges: of the call's own, not the hearer's, not its bytes' -/
def rv.InM (w:World) (B F:Nat) (D:Option Addr) (k:Nat):Prop:=B≤k∧k<w.heap.size∧k≠F∧blkOf D≠some k
/-- who hears, in the block F -/
structure HAt (w:World) (B F:Nat) (room:Int) (s:rv.St) (D:Option Addr) (dc:Nat) (M:Option Addr) (mc:Nat):Prop where
 lo:B≤F
 blk:BlkA w F 101 #[.int .i64 room,.slice D s.data.length dc,.int .i64 s.done,.slice M s.more.length mc,.int .i64 s.taken,.int .i64 s.end_]
 data:Own w B 5 1 D s.data.length dc (s.data.map rv.u8v)
 more:SlRep Rng.rep w (rv.InM w B F D) s.more M mc
theorem HAt.next {w w':World} {B F:Nat} {room:Int} {s:rv.St} {D:Option Addr} {dc:Nat} {M:Option Addr} {mc:Nat} (h:HAt w B F room s D dc M mc) (hb:Below w.heap.size w w'):HAt w' B F room s D dc M mc:=
 ⟨h.lo,h.blk.next hb,h.data.next hb,h.more.keep fun k hk=>⟨⟨hk.1,Nat.lt_of_lt_of_le hk.2.1 hb.size,hk.2.2⟩,hb.block k hk.2.1⟩⟩
set_option maxHeartbeats 400000 in
theorem recv_New (room:Int) (w:World) :
  Calls Try.prog 20 #[.int .i64 room] w fun e w'=>e=.returned (.pointer (some ⟨w.heap.size,0,none⟩))∧HAt w' w.heap.size w.heap.size room rv.start none 0 none 0∧Below w.heap.size w w':=by
 go_enter Try.func20,Try.ntmps20
 go_wp2
 go_ret
 exact ⟨rfl,⟨Nat.le_refl _,BlkA.new _ _ _,Own.nil _ _ _ _,⟨Nat.le_refl _,by decide,.inl rfl⟩⟩,(by repeat (first | (with_reducible first | exact Below.refl _ _ | assumption | refine bset ?_ ?_ _ | refine balloc ?_ _ | refine Below.drew ?_ | refine bdrewN ?_ _ | refine bnext ?_ (by with_reducible assumption)) | exact Nat.le_refl _ | (simp;done) | omega | (simp;omega)))⟩
theorem rv.beyond_nil {s:rv.St} (h:s.more.length=0):rv.beyond s=s.done:=by
 unfold rv.beyond
 rw [List.eq_nil_of_length_eq_zero h]
 rfl
theorem rv.beyond_last {s:rv.St} (h:0<s.more.length):rv.beyond s=(s.more.getD (s.more.length - 1) Rng.z).hi:=by
 unfold rv.beyond
 rcases List.eq_nil_or_concat s.more with e | ⟨o,x,e⟩
 ·rw [e] at h;simp at h
 ·rw [List.concat_eq_append] at e
  rw [e]
  simp
set_option maxHeartbeats 400000 in
theorem recv_beyond (B F:Nat) (room:Int) (s:rv.St) (D:Option Addr) (dc:Nat) (M:Option Addr) (mc:Nat) (w:World) (h:HAt w B F room s D dc M mc) (hn:s.more.length≤16) :
  Calls Try.prog 70 #[.pointer (some ⟨F,0,none⟩)] w fun e w'=>e=.returned (.int .i64 (rv.beyond s))∧w=w':=by
 have c2:=h.blk.get 2
 have c3:=h.blk.get 3
 simp only [List.getElem?_toArray,List.getElem?_cons_succ,List.getElem?_cons_zero] at c2 c3
 by_cases h0:s.more.length=0
 ·have HE:=Lib.hid (rv.beyond_nil h0)
  rw [h0] at c3
  clear h
  go_enter Try.func70,Try.ntmps70
  go_wp2
  go_ret
  exact ⟨by rw [HE.out];rfl,rfl⟩
 ·have HE:=Lib.hid (rv.beyond_last (s:=s) (by omega))
  obtain ⟨m,hm⟩:∃ m,s.more.length=m+1:=⟨s.more.length - 1,by omega⟩
  obtain ⟨bb,o,rfl,_,d1,d2⟩:=Rng.cells_at Rng.z h.more (k:=m) (by omega)
  rw [hm] at c3 HE
  rw [show m+1 - 1=m by omega] at HE
  have hm1:(((m+1:Nat):Int)) - 1=(m:Int):=by omega
  clear h
  generalize (s.more.getD m Rng.z).hi=y at *
  generalize (s.more.getD m Rng.z).lo=x at *
  have hm16:m≤16:=by omega
  clear h0 hm hn
  go_enter Try.func70,Try.ntmps70
  go_wp2
  go_ret
  exact ⟨by rw [HE.out];rfl,rfl⟩
def rv.inB (r:Rng) (p:Int):Bool:=decide (r.lo≤p) && decide (p<r.hi)
theorem rv.inB_iff {r:Rng} {p:Int}:rv.inB r p=true↔had.inR r p:=by unfold rv.inB had.inR;simp
set_option maxHeartbeats 400000 in
theorem recv_test (r:Rng) (fr i:Nat) (Bf Bi:Nat) (w:World) (hf:w.cell? ⟨Bf,0,none⟩=some (.int .i64 (fr:Int))) (hi:w.cell? ⟨Bi,0,none⟩=some (.int .i64 (i:Int))) (h1:fr≤2000000) (h2:i≤2000000) (h3:Bf<w.heap.size) (h4:Bi<w.heap.size) :
  Calls Try.prog 96 #[.agg #[.int .i64 r.lo,.int .i64 r.hi],.pointer (some ⟨Bf,0,none⟩),.pointer (some ⟨Bi,0,none⟩)] w fun e w'=>e=.returned (.bool (rv.inB r ((fr+i:Nat):Int)))∧Below w.heap.size w w':=by
 obtain ⟨x,y⟩:=r
 obtain ⟨p,hp⟩:∃ p:Nat,p=fr+i:=⟨_,rfl⟩
 have ep:(fr:Int)+(i:Int)=(p:Int):=by omega
 have hpb:p≤4000000:=by omega
 rw [← hp]
 clear hp
 by_cases c1:x≤(p:Int)
 ·by_cases c2:(p:Int)<y
  ·have HE:Hid (rv.inB (⟨x,y⟩:Rng) (p:Int)=true):=Lib.hid (by unfold rv.inB;simp [c1,c2])
   go_enter Try.func96,Try.ntmps96
   go_wp2
   go_ret
   exact ⟨by rw [HE.out];rfl,(by repeat (first | (with_reducible first | exact Below.refl _ _ | assumption | refine bset ?_ ?_ _ | refine balloc ?_ _ | refine Below.drew ?_ | refine bdrewN ?_ _ | refine bnext ?_ (by with_reducible assumption)) | exact Nat.le_refl _ | (simp;done) | omega | (simp;omega)))⟩
  ·have HE:Hid (rv.inB (⟨x,y⟩:Rng) (p:Int)=false):=Lib.hid (by unfold rv.inB;simp [c1];omega)
   go_enter Try.func96,Try.ntmps96
   go_wp2
   go_ret
   exact ⟨by rw [HE.out];rfl,(by repeat (first | (with_reducible first | exact Below.refl _ _ | assumption | refine bset ?_ ?_ _ | refine balloc ?_ _ | refine Below.drew ?_ | refine bdrewN ?_ _ | refine bnext ?_ (by with_reducible assumption)) | exact Nat.le_refl _ | (simp;done) | omega | (simp;omega)))⟩
 ·have HE:Hid (rv.inB (⟨x,y⟩:Rng) (p:Int)=false):=Lib.hid (by unfold rv.inB;simp;omega)
  go_enter Try.func96,Try.ntmps96
  go_wp2
  go_ret
  exact ⟨by rw [HE.out];rfl,(by repeat (first | (with_reducible first | exact Below.refl _ _ | assumption | refine bset ?_ ?_ _ | refine balloc ?_ _ | refine Below.drew ?_ | refine bdrewN ?_ _ | refine bnext ?_ (by with_reducible assumption)) | exact Nat.le_refl _ | (simp;done) | omega | (simp;omega)))⟩
end Go.Proofs.Ytdldfllllgogoaa
namespace Go.Proofs.Ytdldfllllgogoaa
open Go.RowKit
set_option linter.unusedSimpArgs false
open Classical in
noncomputable def rv.anyB (l:List Rng) (p:Int):Bool:=decide (had.cov l p)
theorem rv.anyB_iff {l:List Rng} {p:Int}:rv.anyB l p=true↔had.cov l p:=by unfold rv.anyB;simp
theorem rv.any_at {l:List Rng} {p:Int} {k:Nat} (hk:k<l.length) (h:rv.inB (l.getD k Rng.z) p=true):rv.anyB l p=true:=by
 refine rv.anyB_iff.2 ⟨l.getD k Rng.z,?_,rv.inB_iff.1 h⟩
 rw [List.getD_eq_getElem?_getD,List.getElem?_eq_getElem hk]
 exact List.getElem_mem hk
theorem rv.any_no {l:List Rng} {p:Int} (h:∀ j,j<l.length→rv.inB (l.getD j Rng.z) p=false):rv.anyB l p=false:=by
 cases hb:rv.anyB l p
 ·rfl
 exfalso
 obtain ⟨r,hr,hp⟩:=rv.anyB_iff.1 hb
 obtain ⟨j,hj,rfl⟩:=List.mem_iff_getElem.1 hr
 have:=h j hj
 rw [List.getD_eq_getElem?_getD,List.getElem?_eq_getElem hj] at this
 have h2:=rv.inB_iff.2 hp
 simp only [Option.getD_some] at this
 rw [this] at h2
 cases h2
def IdxPost (b:Bool) (w:World) (e:Ending) (w':World):Prop:=(∃ n:Int,e=.returned (.int .i64 n) ∧ -1≤n∧n≤1000∧(0≤n↔b=true))∧Below w.heap.size w w'
theorem IdxPost.mk {b:Bool} {w w':World} {e:Ending} (n:Int) (h:e=.returned (.int .i64 n)) (h1:-1≤n) (h2:n≤1000) (h3:0≤n↔b=true) (hb:Below w.heap.size w w'):IdxPost b w e w':=⟨⟨n,h,h1,h2,h3⟩,hb⟩
set_option maxHeartbeats 1000000 in
theorem recv_index (l:List Rng) (fr i:Nat) (A:Option Addr) (c Bf Bi:Nat) (w:World) (hl:SlRep Rng.rep w (· < w.heap.size) l A c) (hn:l.length≤16) (hf:w.cell? ⟨Bf,0,none⟩=some (.int .i64 (fr:Int))) (hi:w.cell? ⟨Bi,0,none⟩=some (.int .i64 (i:Int))) (h1:fr≤2000000) (h2:i≤2000000) (h3:Bf<w.heap.size) (h4:Bi<w.heap.size) :
  Calls Try.prog 98 #[.slice A l.length c,.func (.func 96) #[] #[.pointer (some ⟨Bf,0,none⟩),.pointer (some ⟨Bi,0,none⟩)]] w (IdxPost (rv.anyB l ((fr+i:Nat):Int)) w):=by
 have HL:=Lib.hid hl
 have HFI:=Lib.hid (And.intro hf hi)
 have HBL:=Lib.hid (And.intro h3 h4)
 have H12:=Lib.hid (And.intro h1 h2)
 clear hl hf hi h3 h4 h1 h2
 obtain ⟨p,hp⟩:∃ p:Int,p=((fr+i:Nat):Int):=⟨_,rfl⟩
 have HP:=Lib.hid hp
 rw [← hp]
 clear hp
 go_enter Try.func98,Try.ntmps98
 go_wp2
 go_loopw [5,8] (fun _ i wr=>∃ k:Nat,k≤l.length∧i=.int .i64 k∧Hid (∀ j,j<k→rv.inB (l.getD j Rng.z) p=false)∧Below w.heap.size w wr) (fun _ i _=>l.length - (intOf i).toNat)
 case atStart=>exact ⟨0,by omega,rfl,Lib.hid (fun j hj=>by omega),Below.refl _ _⟩
 case round=>
  obtain ⟨k,hk,rfl,HA,hB⟩:=hrel
  rename World=>wr
  by_cases hlt:k<l.length
  ·obtain ⟨g,o,rfl,_,hc1,hc2⟩:=Rng.cells_at Rng.z (HL.out.below hB) hlt
   have HN:Hid (rv.inB (l.getD k Rng.z) p=false→∀ j,j<k+1→rv.inB (l.getD j Rng.z) p=false):=Lib.hid (fun h j hj=>by
    rcases Nat.lt_or_ge j k with h' | h'
    ·exact HA.out j h'
    ·obtain rfl:j=k:=by omega
     exact h)
   have HY:Hid (rv.inB (l.getD k Rng.z) p=true→rv.anyB l p=true):=Lib.hid (rv.any_at hlt)
   have HC:=Lib.hid (fun r:Rng=>by
    have h:=recv_test r fr i Bf Bi wr ((hB.cell (p:=⟨Bf,0,none⟩) HBL.out.1).trans HFI.out.1) ((hB.cell (p:=⟨Bi,0,none⟩) HBL.out.2).trans HFI.out.2) H12.out.1 H12.out.2 (Nat.lt_of_lt_of_le HBL.out.1 hB.size) (Nat.lt_of_lt_of_le HBL.out.2 hB.size)
    rw [← HP.out] at h
    exact h)
   clear HL HA
   generalize l.getD k Rng.z=r at *
   cases hr:rv.inB r p with
   | true=>
    have HT:=Lib.hid hr
    have HR:=Lib.hid (HY.out hr)
    clear hr
    go_wp2_with (go_at_call 96;((with_reducible refine (HC.out r).mono ?_);rintro e' w2 ⟨rfl,hb2⟩;rw [HT.out]))
    go_ret
    exact IdxPost.mk k rfl (by omega) (by omega) ⟨fun _=>HR.out,fun _=>by omega⟩ (bnext hB hb2)
   | false=>
    have HT:=Lib.hid hr
    have HR:=Lib.hid (HN.out hr)
    clear hr
    go_wp2_with (go_at_call 96;((with_reducible refine (HC.out r).mono ?_);rintro e' w2 ⟨rfl,hb2⟩;rw [HT.out]))
    go_roundw
    case rel=>exact ⟨k+1,by omega,by go_num,Lib.hid HR.out,bnext hB hb2⟩
    case measure=>simp [intOf];omega
  ·obtain rfl:k=l.length:=by omega
   have HT:Hid (rv.anyB l p=false):=Lib.hid (rv.any_no HA.out)
   clear HA HL
   go_wp2
   go_ret
   exact IdxPost.mk (-1) rfl (by omega) (by omega) ⟨fun h=>by omega,fun h=>by rw [HT.out] at h;cases h⟩ hB
set_option maxHeartbeats 400000 in
theorem recv_contains (l:List Rng) (fr i:Nat) (A:Option Addr) (c Bf Bi:Nat) (w:World) (hl:SlRep Rng.rep w (· < w.heap.size) l A c) (hn:l.length≤16) (hf:w.cell? ⟨Bf,0,none⟩=some (.int .i64 (fr:Int))) (hi:w.cell? ⟨Bi,0,none⟩=some (.int .i64 (i:Int))) (h1:fr≤2000000) (h2:i≤2000000) (h3:Bf<w.heap.size) (h4:Bi<w.heap.size) :
  Calls Try.prog 77 #[.slice A l.length c,.func (.func 96) #[] #[.pointer (some ⟨Bf,0,none⟩),.pointer (some ⟨Bi,0,none⟩)]] w fun e w'=>e=.returned (.bool (rv.anyB l ((fr+i:Nat):Int)))∧Below w.heap.size w w':=by
 have HI:=Lib.hid (recv_index l fr i A c Bf Bi w hl hn hf hi h1 h2 h3 h4)
 clear hl hf hi h1 h2 h3 h4
 generalize rv.anyB l ((fr+i:Nat):Int)=b at *
 go_enter Try.func77,Try.ntmps77
 go_wp2_with (go_at_call 98;refine HI.out.mono ?_;rintro e w2 ⟨⟨n,rfl,h1,h2,h3⟩,hb2⟩;have H3:=Lib.hid h3;clear h3)
 go_ret
 refine ⟨ret_bool ?_,hb2⟩
 cases b with
 | true=>exact decide_eq_true (H3.out.2 rfl)
 | false=>exact decide_eq_false (fun h=>by have:=H3.out.1 h;cases this)
end Go.Proofs.Ytdldfllllgogoaa
namespace Go.Proofs.Ytdldfllllgogoaa
open Go.RowKit
theorem zeroCells_one (z:Value) (hz:z.cells = #[z]) (n:Nat):Builtin.zeroCells z.cells n=(List.replicate n z).toArray:=by
 unfold Builtin.zeroCells
 rw [hz]
 apply Array.ext'
 simp only [List.size_toArray,List.length_singleton,Nat.mul_one,Array.toList_map,Array.toList_range]
 apply List.ext_getElem?
 intro i
 rw [List.getElem?_map]
 by_cases h:i<n
 ·rw [List.getElem?_range h,List.getElem?_replicate,if_pos h]
  simp [Nat.mod_one]
 ·rw [List.getElem?_eq_none (by simpa using h),List.getElem?_eq_none (by simpa using h)]
  rfl
section
variable {w:World} {base g:Nat} {e:TypeId} {n c:Nat} {xs:List Value}
/-- cells stored right behind what is owned are owned then -/
theorem Own.ext {size:Nat} (h:Own w base e size (Option.some ⟨g,0,none⟩) n c xs) {vs:List Value} {k:Nat} (hv:vs.length=k * size) (hc:n+k≤c):Own (w.setCells g (n * size) vs) base e size (Option.some ⟨g,0,none⟩) (n+k) c (xs ++ vs):=by
 have hl:=h.len
 refine ⟨by rw [List.length_append,hl,hv,Nat.add_mul],.inr ?_⟩
 rcases h.2 with ⟨h1,_⟩ | ⟨g',cap,cur,h1,h2,h3,h4,h5,h6,h7⟩
 ·simp at h1
 ·simp only [Value.slice.injEq,Option.some.injEq,Addr.mk.injEq,and_true] at h1
  obtain ⟨rfl,_,rfl⟩:=h1
  have hq:n * size+vs.length≤cur.toList.length:=by
   have h9:cur.toList.length=cur.size:=Array.length_toList
   rw [h9,h6,hv,← Nat.add_mul];exact Nat.mul_le_mul_right _ hc
  refine ⟨g,c,(overl cur.toList (n * size) vs).toArray,rfl,h2,heap_setCells_same g e vs (n * size) w cur h3,hc,h5,?_,?_⟩
  ·have h8:=overl_len vs cur.toList (n * size)
   simp only [List.size_toArray]
   rw [h8]
   simpa using h6
  ·show (overl cur.toList (n * size) vs).take ((n+k) * size)=_
   rw [Nat.add_mul,← hv,overl_take2 hq,h7]
end
theorem run_appz {P:Program} (w:World) {t tn e:TypeId} (ty:TypeId) {z:Value} {bytes:Nat} (hT:ElemT P t e 1 bytes) (hz:(P.info? e).map (·.zero)=some (some z)) (hzc:z.cells = #[z]) (hz1:z.oneCell'=true) {kn:IntKind} (htn:P.underlying tn=some (.int kn)) (base:Nat) (A:Option Addr) (n c:Nat) (xs:List Value) (hown:Own w base e 1 A n c xs) (k:Nat) (h0:0<k)
  (hroom:(n+k) * bytes≤140737488355328) (h63:n+k≤9223372036854775807) (hbase:base≤w.heap.size) :
  ∃ A' c' w',(Builtin.append_ #[t,tn] ty #[.slice A n c,.int .i64 k]).run P w=.ok (.slice A' (n+k) c') w'∧Own w' base e 1 A' (n+k) c' (xs ++ List.replicate k z)∧Grew w w' A A':=by
 obtain ⟨i,z',hi,hzz,hsize,hby,hzs⟩:=hT.info
 have hz':i.zero=some z:=by rw [hi] at hz;simpa using hz
 have hlen:=hown.len
 have hcap:=hown.cap
 have h48:k * i.bytes≤281474976710656:=by rw [hby];have:=Nat.mul_le_mul_right bytes (show k≤n+k by omega);omega
 by_cases hr:n+k≤c
 ·rcases hown.2 with ⟨h1,_⟩ | ⟨g,cap,cur,h1,h2,h3,h4,h5,h6,h7⟩
  ·simp only [Value.slice.injEq] at h1;omega
  ·simp only [Value.slice.injEq] at h1
   obtain ⟨rfl,_,rfl⟩:=h1
   have hx:=hown.ext (vs:=List.replicate k z) (k:=k) (by simp) hr
   have hcur:cur.size=c * 1:=h6
   have hst:=run_storeCells_at P g n e (List.replicate k z) 0 cur w h3 (by simp;omega) (fun u hu=>by rw [(List.mem_replicate.1 hu).2];exact hz1)
   have hst2:=run_storeCells_cells (P:=P) g n (List.replicate k z) 0 w (fun j hj=>by
    rw [cell_of_row w g _ cur e (0,0) h3]
    simp only [List.length_replicate] at hj
    rw [Array.getElem?_eq_getElem (by omega)];rfl) (fun j hj=>by simp [World.frozen?,h3]) (fun u hu=>by rw [(List.mem_replicate.1 hu).2];exact hz1)
   simp only [Nat.add_zero] at hst2
   refine ⟨some ⟨g,0,none⟩,c,w.setCells g n (List.replicate k z),?_,by simpa using hx,?_⟩
   ·have hk:k≠0:=by omega
    have hw:IntKind.i64.wrap (k:Int)=k:=by rw [IntKind.wrap_i64];omega
    have hneg:¬ ((k:Int)<0):=by omega
    have h48i:¬ (281474976710656<(k:Int) * (i.bytes:Int)):=by rw [← Int.natCast_mul];omega
    have hzl:=zeroCells_one z hzc k
    simp [Builtin.append_,run_underlying hT.und,run_underlying htn,sizeOf,typeInfo,zeroValue,hi,hz',asInt,asIntOf,hw,hneg,h48i,hsize,hk,hr,hzl,addr_add,hst2]
   ·obtain ⟨k1,k2,k3,k4,k5⟩:=keep_setCells g (List.replicate k z) n w
    exact ⟨⟨k2,k3,k4,Nat.le_of_eq k1.symm,fun j _ hj=>k5 j (fun e=>hj (by rw [e];rfl))⟩,.inl rfl⟩
 ·have hfit:Builtin.nextslicecap (n+k) c * i.bytes≤281474976710656:=growslice_fits (by omega) (by rw [hby];exact hroom)
  have hold:(Builtin.firstCells i.size n (.slice A n c)).run P w.drew=.ok xs.toArray w.drew:=by
   rcases hown.2 with ⟨h1,hn0⟩ | ⟨g,cap,cur,h1,h2,h3,h4,h5,h6,h7⟩
   ·simp only [Value.slice.injEq] at h1
    obtain ⟨rfl,rfl,rfl⟩:=h1
    have hx0:xs=[]:=List.eq_nil_of_length_eq_zero (by simpa using hlen)
    subst hx0
    exact run_firstCells_none w.drew i.size 0 0 0
   ·simp only [Value.slice.injEq] at h1
    obtain ⟨rfl,_,rfl⟩:=h1
    refine run_firstCells_some w.drew i.size n ⟨g,0,none⟩ n c xs (by rw [hlen,hsize]) (fun j u hu=>?_)
    obtain ⟨g',e1,_,_,hc⟩:=hown.cell hu
    simp only [Option.some.injEq,Addr.mk.injEq,and_true] at e1
    subst e1
    rw [addr_add,Nat.zero_add]
    exact hc
  have hrun:=Lib.run_append_grow_zeros (P:=P) w t tn ty e i z .i64 kn hT.und htn hi hz' A n c xs hold k h0 (by omega) (by omega) (by omega) h48 hfit
  have hge:=grownCap_ge w (n+k) c e
  have hcm:grownCap w (n+k) c e≤maxLen:=grownCap_le_maxLen w (n+k) c e (by unfold maxLen;omega)
  rw [zeroCells_one z hzc,zeroCells_one z hzc,List.append_toArray,List.append_toArray] at hrun
  refine ⟨_,_,_,hrun,?_,?_⟩
  ·have h:=Own.new w.drew base e 1 (n+k) (grownCap w (n+k) c e) (xs ++ List.replicate k z) (xs ++ List.replicate k z ++ List.replicate (grownCap w (n+k) c e - (n+k)) z) (by simpa using hbase) (by simp;omega) (by simp;omega) hge hcm (by rw [List.take_append_of_le_length (by simp;omega),List.take_of_length_le (by simp;omega)])
   exact h
  ·exact ⟨⟨rfl,rfl,rfl,by simp,fun j hj _=>Below.heap_alloc w.drew _ j hj⟩,.inr ⟨w.heap.size,Nat.le_refl _,rfl⟩⟩
theorem wp_appz {P:Program} (w:World) {ops:Array Oper} {rest:List Oper} {o:Oper} {a:Act} {Q:Exit→Act→World→Prop} (hgd:o.guard=none) (s x:Operand) (t tn:TypeId)
  (ho:o.op=.call { callee:=.builtin .append,args:=#[s,x],argTypes:=#[t,tn] }) {e:TypeId} {z:Value} {bytes:Nat} (hT:ElemT P t e 1 bytes) (hz:(P.info? e).map (·.zero)=some (some z)) (hzc:z.cells = #[z]) (hz1:z.oneCell'=true) {kn:IntKind} (htn:P.underlying tn=some (.int kn)) (base:Nat) (A:Option Addr) (n c:Nat) (xs:List Value) (hs:a.eval s=.slice A n c) (hown:Own w base e 1 A n c xs) (k:Nat) (i:Int) (hx:a.eval x=.int .i64 i) (hi:i=k) (h0:0<k)
  (hroom:(n+k) * bytes≤140737488355328) (h63:n+k≤9223372036854775807) (hbase:base≤w.heap.size)
  (h:∀ A' c' w',Own w' base e 1 A' (n+k) c' (xs ++ List.replicate k z)→Grew w w' A A'→wpList P ops Q rest (a.put o.dst (.slice A' (n+k) c')) w'):wpList P ops Q (o :: rest) a w:=by
 subst hi
 obtain ⟨A',c',w',hr,h2,h3⟩:=run_appz (P:=P) w o.type hT hz hzc hz1 htn base A n c xs hown k h0 hroom h63 hbase
 exact wp_run w hgd s x t tn ho hs hx hr (h A' c' w' h2 h3)
end Go.Proofs.Ytdldfllllgogoaa
namespace Go.Proofs.Ytdldfllllgogoaa
open Go.RowKit
/-- the play's own blocks, apart from the row A and from what is played with -/
def Aside (w:World) (base:Nat) (A:Option Addr) (Fp:Nat→Prop) (k:Nat):Prop:=base≤k∧k<w.heap.size∧blkOf A≠some k∧¬ Fp k
structure Coll {α:Type} (R:Rep α) (w:World) (base:Nat) (T:TypeId) (size:Nat) (A:Option Addr) (n c:Nat) (Fp:Nat→Prop) (L:List α) (xs:List Value):Prop where
 own:Own w base T size A n c xs
 rows:RowsOf R w (Aside w base A Fp) L xs
 far:∀ k,blkOf A=some k→¬ Fp k
section
variable {α:Type} {R:Rep α} {w w' wa w2:World} {base:Nat} {T:TypeId} {size n c n2 c2:Nat} {A A2:Option Addr} {Fp Fp':Nat→Prop} {L:List α} {xs:List Value}
theorem Coll.nil (w:World) (base:Nat) (T:TypeId) (size:Nat) (Fp:Nat→Prop):Coll R w base T size none 0 0 Fp [] []:=⟨Own.nil _ _ _ _,RowsOf.nil,fun k hk=>by cases hk⟩
theorem Coll.stays (h:Coll R w base T size A n c Fp L xs) (hs:Stays w w' Fp) (hF:∀ k,Fp' k→Fp k∨w.heap.size≤k):Coll R w' base T size A n c Fp' L xs where
 own:=h.own.stays hs h.far
 rows:=h.rows.keep fun k hk=>⟨⟨hk.1,Nat.lt_of_lt_of_le hk.2.1 hs.size,hk.2.2.1,fun h2=>(hF k h2).elim hk.2.2.2 (fun h3=>absurd hk.2.1 (Nat.not_lt.2 h3))⟩,hs.block k hk.2.1 hk.2.2.2⟩
 far:=fun k hk h2=>(hF k h2).elim (h.far k hk) (fun h3=>absurd (h.own.lt k hk).2 (Nat.not_lt.2 h3))
theorem Coll.next (h:Coll R w base T size A n c Fp L xs) (hb:Below w.heap.size w w'):Coll R w' base T size A n c Fp L xs:=
 h.stays ⟨hb.os,hb.tape,hb.output,hb.size,fun k hk _=>hb.block k hk⟩ fun _ h=>.inl h
theorem Coll.push (h:Coll R w base T size A n c Fp L xs) {a:α} {cs:List Value} (ha:R.rep w (Aside w base A Fp) a cs) (hb:Below w.heap.size w wa) (hg:Grew wa w2 A A2) (ho:Own w2 base T size A2 n2 c2 (xs ++ cs)) (hFp:∀ k,Fp k→k<w.heap.size):Coll R w2 base T size A2 n2 c2 Fp (L ++ [a]) (xs ++ cs):=by
 have key:∀ k,Aside w base A Fp k→Aside w2 base A2 Fp k∧w2.heap[k]? = w.heap[k]?:=fun k hk=>by
  have h1:k<wa.heap.size:=Nat.lt_of_lt_of_le hk.2.1 hb.size
  refine ⟨⟨hk.1,Nat.lt_of_lt_of_le h1 hg.grown.size,fun e=>?_,hk.2.2.2⟩,(hg.grown.block k h1 (fun e=>hk.2.2.1 e.symm)).trans (hb.block k hk.2.1)⟩
  rcases hg.blk with e1 | ⟨g,hg1,e1⟩
  ·exact hk.2.2.1 (e1 ▸ e)
  ·rw [e1] at e
   cases e
   omega
 refine ⟨ho,RowsOf.snoc (R.mono ha key) (h.rows.keep key),fun k hk hF=>?_⟩
 rcases hg.blk with e1 | ⟨g,hg1,e1⟩
 ·exact h.far k (e1 ▸ hk) hF
 ·rw [e1] at hk
  cases hk
  have:=hFp _ hF
  have:=hb.size
  omega
theorem Coll.rep (h:Coll R w base T size A n c Fp L xs) (hsz:R.size=size) (hpos:0<size):n=L.length∧SlRep R w (fun k=>base≤k∧k<w.heap.size) L A c:=
 RowsOf.rep h.rows hsz hpos (fun k hk=>⟨hk.1,hk.2.1⟩) h.own (fun k hk=>h.own.lt k hk)
end
/-- a reading that leads to no further blocks is a reading at whatever blocks -/
def Flat {α:Type} (R:Rep α):Prop:=∀ (w:World) (S S':Nat→Prop) (a:α) (cs:List Value),R.rep w S a cs→R.rep w S' a cs
theorem flat_u8:Flat Rep.u8:=fun _ _ _ _ _ h=>h
theorem SlRep.tight {α:Type} {R:Rep α} (hR:Flat R) {w:World} {S:Nat→Prop} {l:List α} {A:Option Addr} {c:Nat} (h:SlRep R w S l A c):SlRep R w (fun k=>blkOf A=some k) l A c:=by
 obtain ⟨h1,h2,h3⟩:=h
 refine ⟨h1,h2,h3.imp id fun ⟨b,o,e,hb,hr⟩=>⟨b,o,e,by rw [e];rfl,fun i a hi=>?_⟩⟩
 obtain ⟨cs,k1,k2⟩:=hr i a hi
 exact ⟨cs,hR _ _ _ _ _ k1,k2⟩
theorem SlRep.within {α:Type} {R:Rep α} {w:World} {S S':Nat→Prop} {l:List α} {A:Option Addr} {c:Nat} (h:SlRep R w S l A c) (hS:∀ k,S k→S' k):SlRep R w S' l A c:=h.keep fun k hk=>⟨hS k hk,rfl⟩
end Go.Proofs.Ytdldfllllgogoaa
namespace Go.Proofs.Ytdldfllllgogoaa
open Go.RowKit
set_option linter.unusedSimpArgs false
theorem u8NeHearer:5≠101:=by decide
/-- what the hearer holds -/
def HF (F:Nat) (D M:Option Addr) (l:List Rng) (k:Nat):Prop:=k=F∨blkOf D=some k∨(l≠[]∧blkOf M=some k)
/-- what it writes -/
def HW (F:Nat) (D:Option Addr) (k:Nat):Prop:=k=F∨blkOf D=some k
theorem HW.hf {F:Nat} {D M:Option Addr} {l:List Rng} {k:Nat} (h:HW F D k):HF F D M l k:=h.elim .inl fun h=>.inr (.inl h)
theorem flat_rng:Flat Rng.rep:=fun _ _ _ _ _ h=>Rng.rep_iff.2 (Rng.rep_iff.1 h)
theorem SlRep.blk {α:Type} {R:Rep α} {w:World} {S:Nat→Prop} {l:List α} {A:Option Addr} {c:Nat} (h:SlRep R w S l A c):l=[]∨∃ k,blkOf A=some k∧S k:=h.2.2.imp id fun ⟨b,o,e,hb,_⟩=>⟨b,by rw [e];rfl,hb⟩
theorem SlRep.nilAt {α:Type} {R:Rep α} {w:World} {S:Nat→Prop} {A:Option Addr} {c:Nat} (hc:c≤maxLen):SlRep R w S [] A c:=⟨Nat.zero_le _,hc,.inl rfl⟩
section
variable {w w':World} {B F:Nat} {room:Int} {s:rv.St} {D M:Option Addr} {dc mc:Nat} {No:Nat→Prop}
theorem HAt.more' (h:HAt w B F room s D dc M mc):SlRep Rng.rep w (fun k=>blkOf M=some k) s.more M mc:=h.more.tight flat_rng
theorem HAt.moreLt (h:HAt w B F room s D dc M mc):SlRep Rng.rep w (· < w.heap.size) s.more M mc:=h.more.within fun _ hk=>hk.2.1
theorem HAt.mset (h:HAt w B F room s D dc M mc):s.more=[]∨∃ k,blkOf M=some k∧rv.InM w B F D k:=h.more.blk
theorem HAt.apart (h:HAt w B F room s D dc M mc):blkOf D≠some F:=h.blk.apart h.data u8NeHearer
theorem HAt.stays (h:HAt w B F room s D dc M mc) (hs:Stays w w' No) (hn:∀ k,HF F D M s.more k→¬ No k):HAt w' B F room s D dc M mc:=by
 refine ⟨h.lo,h.blk.stays hs (hn _ (.inl rfl)),h.data.stays hs fun k hk=>hn k (.inr (.inl hk)),?_⟩
 rcases h.mset with e | ⟨k,hk,hin⟩
 ·rw [e];exact SlRep.nilAt h.more.2.1
 ·by_cases hne:s.more=[]
  ·rw [hne];exact SlRep.nilAt h.more.2.1
  refine h.more'.keep fun q hq=>?_
  rw [hk] at hq
  cases hq
  exact ⟨⟨hin.1,Nat.lt_of_lt_of_le hin.2.1 hs.size,hin.2.2⟩,hs.block k hin.2.1 (hn k (.inr (.inr ⟨hne,hk⟩)))⟩
theorem HAt.frozen (h:HAt w B F room s D dc M mc) (j:Nat):w.frozen? ⟨F,j,none⟩=false:=h.blk.frozen j
/-- the row of bytes is another one: the call's own, in its place or new -/
theorem HAt.turn {w2:World} (h:HAt w B F room s D dc M mc) {d:List UInt8} {D2:Option Addr} {dc2:Nat} (hs:Stays w w2 (HW F D)) (hF:BlkA w2 F 101 #[.int .i64 room,.slice D2 d.length dc2,.int .i64 s.done,.slice M s.more.length mc,.int .i64 s.taken,.int .i64 s.end_]) (hd:Own w2 B 5 1 D2 d.length dc2 (d.map rv.u8v)) (hn:Anew w D2 D):HAt w2 B F room { s with data:=d } D2 dc2 M mc:=by
 refine ⟨h.lo,hF,hd,?_⟩
 rcases h.mset with e | ⟨k,hk,hin⟩
 ·simp only;rw [e];exact SlRep.nilAt h.more.2.1
 ·refine h.more'.keep fun q hq=>?_
  rw [hk] at hq
  cases hq
  refine ⟨⟨hin.1,Nat.lt_of_lt_of_le hin.2.1 hs.size,hin.2.2.1,fun e=>?_⟩,hs.block k hin.2.1 (fun e=>e.elim hin.2.2.1 hin.2.2.2)⟩
  rcases hn.inf e with e2 | e2
  ·exact hin.2.2.2 e2
  ·have:=hin.2.1;omega
theorem HAt.grow {wa w2:World} (h:HAt w B F room s D dc M mc) (hb:Below w.heap.size w wa) {D2:Option Addr} {n2 dc2:Nat} {d:List UInt8} (hg:Grew wa w2 D D2) (ho:Own w2 B 5 1 D2 n2 dc2 (d.map rv.u8v)) :
  HAt (w2.setCell ⟨F,1,none⟩ (.slice D2 n2 dc2)) B F room { s with data:=d } D2 dc2 M mc∧Stays w (w2.setCell ⟨F,1,none⟩ (.slice D2 n2 dc2)) (HW F D)∧Anew w D2 D:=by
 have hn:n2=d.length:=by have h:=ho.len;rw [List.length_map] at h;omega
 subst hn
 have hs1:Stays w w2 (fun k=>blkOf D=some k):=(Stays.of_below hb (fun k=>blkOf D=some k)).trans (Stays.grew hg) (fun k _ hk=>hk)
 have hF2:BlkA w2 F _ _:=h.blk.stays hs1 h.apart
 have hD2F:blkOf D2≠some F:=hF2.apart ho u8NeHearer
 have hs:Stays w (w2.setCell ⟨F,1,none⟩ (.slice D2 d.length dc2)) (HW F D):=(hs1.mono fun k _ hk=>.inr hk).trans (Stays.set w2 F 1 _) (fun k _ hk=>.inl hk)
 have hn:Anew w D2 D:=(Anew.of_grew hg).below hb.size
 exact ⟨h.turn hs (by simpa using hF2.set 1 (.slice D2 d.length dc2)) (ho.setCell hD2F _) hn,hs,hn⟩
theorem HAt.setByte {g:Nat} (h:HAt w B F room s (some ⟨g,0,none⟩) dc M mc) (j:Nat) (x:UInt8):HAt (w.setCell ⟨g,j,none⟩ (rv.u8v x)) B F room { s with data:=s.data.set j x } (some ⟨g,0,none⟩) dc M mc:=by
 have hgF:g≠F:=fun e=>h.apart (by rw [e];rfl)
 refine h.turn (d:=s.data.set j x) ((Stays.set w g j _).mono fun k _ hk=>.inr (by rw [hk];rfl)) ?_ ?_ (Anew.refl _ _)
 ·rw [List.length_set]
  exact h.blk.setCell hgF _
 ·rw [List.length_set,List.map_set]
  exact h.data.setAt _
end
namespace rv
theorem putAll_yes {more:List Rng} {fr:Nat} {b d:List UInt8} {k:Nat} (h:anyB more ((fr+k:Nat):Int)=true):putAll more fr b (k+1) d=putAll more fr b k d:=by
 rw [putAll,if_pos (anyB_iff.1 h)]
theorem putAll_no {more:List Rng} {fr:Nat} {b d:List UInt8} {k:Nat} (h:anyB more ((fr+k:Nat):Int)=false):putAll more fr b (k+1) d=(putAll more fr b k d).set (fr+k) (b.getD k 0):=by
 rw [putAll,if_neg (fun e=>by rw [anyB_iff.2 e] at h;cases h)]
end rv
/-- in the midst of keep -/
structure KeepAt (w wx:World) (B F:Nat) (room:Int) (s:rv.St) (fr:Nat) (d:List UInt8) (D D1:Option Addr) (dc1:Nat) (M:Option Addr) (mc:Nat):Prop where
 at_:HAt wx B F room { s with data:=d } D1 dc1 M mc
 box:BlkA wx w.heap.size 3 #[.int .i64 (fr:Int)]
 stay:Stays w wx (HW F D)
 na:Anew w D1 D
def KeepRes (w:World) (B F:Nat) (room:Int) (s:rv.St) (d:List UInt8) (D M:Option Addr) (mc:Nat) (e:Ending) (w':World):Prop:=
 ∃ D1 dc1,e=.returned (.tuple #[])∧HAt w' B F room { s with data:=d } D1 dc1 M mc∧Stays w w' (HW F D)∧Anew w D1 D
set_option maxRecDepth 100000 in
set_option maxHeartbeats 2000000 in
theorem recv_keep (B F:Nat) (room:Int) (s:rv.St) (D:Option Addr) (dc:Nat) (M:Option Addr) (mc fr:Nat) (b:List UInt8) (G:Option Addr) (gc:Nat) (S:Nat→Prop) (w:World) (h:HAt w B F room s D dc M mc) (hn:s.more.length≤16) (hG:SlRep Rep.u8 w S b G gc) (hS:∀ k,S k→k<w.heap.size∧¬ HF F D M s.more k) (hfr:fr≤1048576) (hb:b.length≤4096) :
  Calls Try.prog 72 #[.pointer (some ⟨F,0,none⟩),.int .i64 (fr:Int),.slice G b.length gc] w (KeepRes w B F room s (rv.kept s.more s.data fr b) D M mc):=by
 have H:=Lib.hid h
 have HG:=Lib.hid hG
 have HS:=Lib.hid hS
 have HN:=Lib.hid hn
 have c1:=h.blk.get 1
 have hFl:=h.blk.lt
 have hf1:=h.blk.frozen 1
 simp only [List.getElem?_toArray,List.getElem?_cons_succ,List.getElem?_cons_zero] at c1
 have hdl:s.data.length≤9223372036854775807:=by have:=h.data.cap;unfold maxLen at this;omega
 obtain ⟨m,hm⟩:∃ m:Nat,m=fr+b.length - s.data.length:=⟨_,rfl⟩
 have HK:Hid (rv.kept s.more s.data fr b=rv.putAll s.more fr b b.length (s.data ++ List.replicate m 0)):=Lib.hid (by unfold rv.kept;rw [hm])
 have HM:=Lib.hid hm
 obtain ⟨bl,hbl⟩:∃ bl:Nat,bl=b.length:=⟨_,rfl⟩
 obtain ⟨dl,hdd⟩:∃ dl:Nat,dl=s.data.length:=⟨_,rfl⟩
 rw [← hdd] at c1 hdl hm
 rw [← hbl] at hb hm ⊢
 have HBL:=Lib.hid hbl
 have HDD:=Lib.hid hdd
 have e1:IntKind.i64.wrap ((fr:Int)+(bl:Int))=(fr:Int)+(bl:Int):=IntWalk.i64_in _ (by omega)
 have e2:IntKind.i64.wrap ((fr:Int)+(bl:Int) - (dl:Int))=(fr:Int)+(bl:Int) - (dl:Int):=IntWalk.i64_in _ (by omega)
 clear h hG hS hn hbl hdd
 go_enter Try.func72,Try.ntmps72
 go_wp2
 go_quiet (fail)
 clear e1 e2
 go_upto_if 21 with (fail)
 go_cut [] (fun wx=>∃ D1 dc1,Hid (KeepAt w wx B F room s fr (s.data ++ List.replicate m 0) D D1 dc1 M mc))
 case first=>
  by_cases hgt:dl<fr+bl
  ·have hgt':(fr:Int)+(bl:Int) - (dl:Int) > 0:=by omega
   have hsm:(fr:Int)+(bl:Int) - (dl:Int)=(m:Int):=by omega
   have HSM:=Lib.hid hsm
   have hm0:0<m:=by omega
   have hx:∀ nq,BlkA ((w.alloc (.cells #[.int .i64 (fr:Int)] 3)).drewN nq) F 101 #[.int .i64 room,.slice D dl dc,.int .i64 s.done,.slice M s.more.length mc,.int .i64 s.taken,.int .i64 s.end_]:=fun nq=>by
    have h:=H.out.blk
    rw [← HDD.out] at h
    exact h.next (bdrewN (balloc (bself w) _) nq)
   have ho:∀ nq,Own ((w.alloc (.cells #[.int .i64 (fr:Int)] 3)).drewN nq) B 5 1 D dl dc (s.data.map rv.u8v):=fun nq=>by
    have h:=H.out.data
    rw [← HDD.out] at h
    exact h.next (bdrewN (balloc (bself w) _) nq)
   have HX:=Lib.hid hx
   have HO:=Lib.hid ho
   have hmb:dl+m≤2000000:=by omega
   have hap:=H.out.apart
   have hlo:=H.out.lo
   clear hm hsm hx ho
   go_wp2_with (at_builtin;go_loud (refine wp_appz (z:=.int .u8 0) _ rfl _ _ _ _ rfl elemU8 (by kernel_rfl) rfl rfl Try.underlying3 B D dl dc _ rfl (HO.out _) m _ rfl HSM.out hm0 (by omega) (by omega) (Nat.le_of_lt (Nat.lt_of_le_of_lt hlo (HX.out _).lt)) ?_);intro D1 dc1 w6 ho6 hg6;have x3:=(HX.out _).kept hg6.grown hap;have z1:=x3.get 1;have z2:=x3.frozen 1;clear x3;simp only [List.getElem?_toArray,List.getElem?_cons_succ,List.getElem?_cons_zero] at z1;have HO6:=Lib.hid ho6;have HG6:=Lib.hid hg6;clear ho6 hg6)
   go_meet
   obtain ⟨k1,k2,k3⟩:=H.out.grow (d:=s.data ++ List.replicate m 0) (bdrewN (balloc (bself w) _) _) HG6.out (by rw [List.map_append,List.map_replicate];exact HO6.out)
   refine ⟨D1,dc1,Lib.hid ⟨k1,?_,k2,k3⟩⟩
   refine (((BlkA.new w _ _).drewN _).kept HG6.out.grown (fun e=>?_)).setCell (fun e=>?_) _
   ·have:=(H.out.data.lt _ e).2
    omega
   ·simp only at e
    omega
  ·have hgt':¬ ((fr:Int)+(bl:Int) - (dl:Int) > 0):=by omega
   have hm0:m=0:=by omega
   have HH:Hid (∀ nq,KeepAt w ((w.alloc (.cells #[.int .i64 (fr:Int)] 3)).drewN nq) B F room s fr (s.data ++ List.replicate m 0) D D dc M mc):=Lib.hid (fun nq=>by
    rw [hm0,List.replicate_zero,List.append_nil]
    exact ⟨H.out.next (bdrewN (balloc (bself w) _) nq),(BlkA.new w _ _).drewN nq,Stays.of_below (bdrewN (balloc (bself w) _) nq) _,Anew.refl _ _⟩)
   clear hm hm0 c1 hf1
   go_wp2
   go_meet
   exact ⟨D,dc,Lib.hid (HH.out _)⟩
 case rest=>
  obtain ⟨D1,dc1,HA⟩:=hcut
  rename World=>w1
  have hn16:=HN.out
  have hF1:=HA.out.at_.blk.lt
  have hz1:w.heap.size<w1.heap.size:=HA.out.box.lt
  have HG1:Hid (SlRep Rep.u8 w1 S b G gc):=Lib.hid (HG.out.keep fun k hk=>⟨hk,HA.out.stay.block k (HS.out k hk).1 (fun e=>(HS.out k hk).2 e.hf)⟩)
  clear hf1 c1
  go_wp2
  go_loopw [33] (fun i wr=>∃ k:Nat,k≤bl∧i=.int .i64 k∧Hid (KeepAt w wr B F room s fr (rv.putAll s.more fr b k (s.data ++ List.replicate m 0)) D D1 dc1 M mc)) (fun i _=>bl - (intOf i).toNat)
  case atStart=>exact ⟨0,by omega,rfl,HA⟩
  case round=>
   obtain ⟨k,hk,rfl,HR⟩:=hrel
   rename World=>wr
   by_cases hlt:k<bl
   ·have hlt':(k:Int)<(bl:Int):=by omega
    have hA:=HR.out.at_
    obtain ⟨gb,ob,rfl,hsb,hce⟩:=u8_at (HG.out.keep (S':=S) fun q hq=>⟨hq,HR.out.stay.block q (HS.out q hq).1 (fun e=>(HS.out q hq).2 e.hf)⟩) (k:=k) (by rw [← HBL.out];exact hlt)
    have hgb:gb<wr.heap.size:=Nat.lt_of_lt_of_le (HS.out gb hsb).1 HR.out.stay.size
    obtain ⟨L,hL⟩:∃ L,L=(rv.putAll s.more fr b k (s.data ++ List.replicate m 0)).length:=⟨_,rfl⟩
    have hLb:fr+bl≤L:=by
     rw [hL,rv.putAll_len,List.length_append,List.length_replicate]
     have:=HM.out
     have:=HDD.out
     omega
    have hLm:L≤9223372036854775807:=by have:=hA.data.cap;unfold maxLen at this;simp only at this;omega
    have r1:=hA.blk.get 1
    have r3:=hA.blk.get 3
    have r4:=HR.out.box.get 0
    simp only [List.getElem?_toArray,List.getElem?_cons_succ,List.getElem?_cons_zero] at r1 r3 r4
    rw [← hL] at r1
    have hFr:=hA.blk.lt
    have hzr:=HR.out.box.lt
    obtain ⟨p,hp⟩:∃ p:Nat,p=fr+k:=⟨_,rfl⟩
    have ep:(fr:Int)+(k:Int)=(p:Int):=by omega
    have hpL:p<L:=by omega
    have hpL':(p:Int)<(L:Int):=by omega
    obtain ⟨g,rfl,hg1,hg2,hgc⟩:=hA.data.cell (j:=p) (List.getElem?_eq_getElem (by rw [List.length_map];rw [hL] at hpL;exact hpL))
    have hgf:=hA.data.frozenAt p
    have HC:=Lib.hid (recv_contains s.more fr k M mc w.heap.size wr.heap.size (wr.alloc (.cells #[.int .i64 (k:Int)] 3)) ((hA.next (balloc (bself wr) _)).moreLt) hn16 (by have h:=(HR.out.box.alloc (.cells #[.int .i64 (k:Int)] 3)).get 0;simpa using h) (by simp) (by omega) (by omega) (by simp only [World.size_alloc];omega) (by simp))
    rw [← hp] at HC
    have HP:=Lib.hid hp
    have HE:=Lib.hid hL
    generalize hxx:(List.map rv.u8v (rv.putAll s.more fr b k (s.data ++ List.replicate m 0)))[p]'_=old at hgc
    clear hxx hA hp hL
    have HBK:Hid (rv.putAll s.more fr b (k+1) (s.data ++ List.replicate m 0)=if rv.anyB s.more ((p:Nat):Int)=true then rv.putAll s.more fr b k (s.data ++ List.replicate m 0) else (rv.putAll s.more fr b k (s.data ++ List.replicate m 0)).set p (b.getD k 0)):=Lib.hid (by
     rw [HP.out]
     split
     ·next h=>exact rv.putAll_yes h
     ·next h=>exact rv.putAll_no (by simpa using h))
    generalize b.getD k 0=x at *
    cases hr:rv.anyB s.more ((p:Nat):Int) with
    | true=>
     have HT:=Lib.hid hr
     clear hr
     go_wp2_with (go_at_call 77;refine HC.out.mono ?_;rintro e w5 ⟨rfl,hb5⟩;rw [HT.out])
     go_roundw
     case rel=>
      refine ⟨k+1,by omega,by go_num,Lib.hid ?_⟩
      rw [HBK.out,if_pos HT.out]
      have hb:Below wr.heap.size wr _:=bnext (balloc (bself wr) _) hb5
      exact ⟨HR.out.at_.next hb,HR.out.box.next hb,HR.out.stay.comp (Stays.of_below hb _),HR.out.na⟩
     case measure=>simp [intOf];omega
    | false=>
     have HT:=Lib.hid hr
     clear hr
     go_upto_region 9 with (first
      | (go_at_call 77;refine HC.out.mono ?_;rintro e w5 ⟨rfl,hb5⟩;rw [HT.out];have HB5:=Lib.hid hb5;clear hb5)
      | fail)
     have hb:Below wr.heap.size wr w5:=bnext (balloc (bself wr) _) HB5.out
     have HN5:Hid (KeepAt w w5 B F room s fr (rv.putAll s.more fr b k (s.data ++ List.replicate m 0)) D (some ⟨g,0,none⟩) dc1 M mc):=Lib.hid ⟨HR.out.at_.next hb,HR.out.box.next hb,HR.out.stay.comp (Stays.of_below hb _),HR.out.na⟩
     have s1:=(hb.cell (p:=⟨F,1,none⟩) hFr).trans r1
     have s4:=(hb.cell (p:=⟨w.heap.size,0,none⟩) hzr).trans r4
     have s5:w5.cell? ⟨wr.heap.size,0,none⟩=some (.int .i64 (k:Int)):=(HB5.out.cell (p:=⟨wr.heap.size,0,none⟩) (by simp)).trans (by simp)
     have sg:=(hb.cell (p:=⟨g,p,none⟩) hg2).trans hgc
     have sf:=(hb.frozen (p:=⟨g,p,none⟩) hg2).trans hgf
     clear hb r1 r3 r4 hgc hgf hce HC HR
     have e1:IntKind.i64.wrap (p:Int)=(p:Int):=IntWalk.i64_in _ (by omega)
     have HEND:Hid (KeepAt w (w5.setCell ⟨g,p,none⟩ (.int .u8 (x.toNat:Int))).drew B F room s fr (rv.putAll s.more fr b (k+1) (s.data ++ List.replicate m 0)) D (some ⟨g,0,none⟩) dc1 M mc):=Lib.hid (by
      rw [HBK.out,if_neg (by rw [HT.out];decide)]
      have hA:=HN5.out.at_.setByte p x
      have hap:=HN5.out.at_.apart
      have hD:=HN5.out.na
      have hS5:Stays w (w5.setCell ⟨g,p,none⟩ (rv.u8v x)) (HW F D):=HN5.out.stay.trans (Stays.set w5 g p (rv.u8v x)) (fun q hq e=>by
       rw [e] at hq ⊢
       rcases hD.inf (k:=g) rfl with e2 | e2
       ·exact .inr e2
       ·omega)
      have hbx:BlkA (w5.setCell ⟨g,p,none⟩ (rv.u8v x)) w.heap.size 3 #[.int .i64 (fr:Int)]:=HN5.out.box.setCell (fun e=>by
       simp only at e
       exact HN5.out.box.apart HN5.out.at_.data (by decide) (by rw [e];rfl)) _
      exact ⟨hA.next (Below.drew (bself _)),hbx.next (Below.drew (bself _)),hS5.comp (Stays.of_below (Below.drew (bself _)) _),hD⟩)
     clear HN5
     go_region_law (fail)
     all_goals
      clear e1
      (try go_wp2)
      exact ⟨⟨k+1,by omega,by go_num,HEND⟩,by simp [intOf];omega⟩
   ·obtain rfl:k=bl:=by omega
    have HKR:Hid (KeepRes w B F room s (rv.kept s.more s.data fr b) D M mc (.returned (.tuple #[])) wr):=Lib.hid (by
     rw [HK.out,← HBL.out]
     exact ⟨_,_,rfl,HR.out.at_,HR.out.stay,HR.out.na⟩)
    clear HR
    go_wp2
    go_end0
    exact HKR.out
end Go.Proofs.Ytdldfllllgogoaa
namespace Go.Proofs.Ytdldfllllgogoaa
open Go.RowKit
set_option linter.unusedSimpArgs false
theorem u8NeSender:5≠112:=by decide
/-- who sends, in the block F -/
structure SAt (w:World) (B F:Nat) (s:sd.St) (D:Option Addr) (dc:Nat) (M:Option Addr) (mc:Nat):Prop where
 lo:B≤F
 blk:BlkA w F 112 #[.slice D s.data.length dc,.bool s.closed,.int .i64 s.done,.slice M s.more.length mc,.int .i64 s.next,.int .i64 s.again,.int .i64 s.edge]
 data:Own w B 5 1 D s.data.length dc (s.data.map rv.u8v)
 more:SlRep Rng.rep w (rv.InM w B F D) s.more M mc
section
variable {w w':World} {B F:Nat} {s:sd.St} {D M:Option Addr} {dc mc:Nat} {No:Nat→Prop}
theorem SAt.next (h:SAt w B F s D dc M mc) (hb:Below w.heap.size w w'):SAt w' B F s D dc M mc:=
 ⟨h.lo,h.blk.next hb,h.data.next hb,h.more.keep fun k hk=>⟨⟨hk.1,Nat.lt_of_lt_of_le hk.2.1 hb.size,hk.2.2⟩,hb.block k hk.2.1⟩⟩
theorem SAt.more' (h:SAt w B F s D dc M mc):SlRep Rng.rep w (fun k=>blkOf M=some k) s.more M mc:=h.more.tight flat_rng
theorem SAt.moreLt (h:SAt w B F s D dc M mc):SlRep Rng.rep w (· < w.heap.size) s.more M mc:=h.more.within fun _ hk=>hk.2.1
theorem SAt.mset (h:SAt w B F s D dc M mc):s.more=[]∨∃ k,blkOf M=some k∧rv.InM w B F D k:=h.more.blk
theorem SAt.apart (h:SAt w B F s D dc M mc):blkOf D≠some F:=h.blk.apart h.data u8NeSender
theorem SAt.stays (h:SAt w B F s D dc M mc) (hs:Stays w w' No) (hn:∀ k,HF F D M s.more k→¬ No k):SAt w' B F s D dc M mc:=by
 refine ⟨h.lo,h.blk.stays hs (hn _ (.inl rfl)),h.data.stays hs fun k hk=>hn k (.inr (.inl hk)),?_⟩
 rcases h.mset with e | ⟨k,hk,hin⟩
 ·rw [e];exact SlRep.nilAt h.more.2.1
 ·by_cases hne:s.more=[]
  ·rw [hne];exact SlRep.nilAt h.more.2.1
  refine h.more'.keep fun q hq=>?_
  rw [hk] at hq
  cases hq
  exact ⟨⟨hin.1,Nat.lt_of_lt_of_le hin.2.1 hs.size,hin.2.2⟩,hs.block k hin.2.1 (hn k (.inr (.inr ⟨hne,hk⟩)))⟩
theorem SAt.hf_lt (h:SAt w B F s D dc M mc) {k:Nat} (hk:HF F D M s.more k):B≤k∧k<w.heap.size:=by
 rcases hk with e | e | ⟨e,e2⟩
 ·exact ⟨by rw [e];exact h.lo,by rw [e];exact h.blk.lt⟩
 ·exact h.data.lt k e
 ·rcases h.mset with e3 | ⟨q,hq,hin⟩
  ·exact absurd e3 e
  ·rw [hq] at e2
   cases e2
   exact ⟨hin.1,hin.2.1⟩
theorem SAt.below {B0:Nat} (h:SAt w B F s D dc M mc) (hs:Stays w w' (HF F D M s.more)) (hB:B0≤B) (hw:B0≤w.heap.size):Below B0 w w':=
 ⟨hs.os,hs.tape,hs.output,hs.size,fun k hk=>hs.block k (by omega) (fun e=>by have:=(h.hf_lt e).1;omega)⟩
theorem SAt.rowKeep (_:SAt w B F s D dc M mc) (j:Nat) (v:Value) {l:List Rng} {M1:Option Addr} {mc1:Nat} (hm:SlRep Rng.rep w (rv.InM w B F D) l M1 mc1):SlRep Rng.rep (w.setCell ⟨F,j,none⟩ v) (rv.InM (w.setCell ⟨F,j,none⟩ v) B F D) l M1 mc1:=by
 have hs:=Stays.set w F j v
 exact hm.keep fun k hk=>⟨⟨hk.1,Nat.lt_of_lt_of_le hk.2.1 hs.size,hk.2.2⟩,hs.block k hk.2.1 hk.2.2.1⟩
theorem SAt.putClosed (h:SAt w B F s D dc M mc) (b:Bool):SAt (w.setCell ⟨F,1,none⟩ (.bool b)) B F { s with closed:=b } D dc M mc:=
 ⟨h.lo,by simpa using h.blk.set 1 (.bool b),h.data.setCell (by exact h.apart) _,h.rowKeep _ _ h.more⟩
theorem SAt.putDone (h:SAt w B F s D dc M mc) (d:Int):SAt (w.setCell ⟨F,2,none⟩ (.int .i64 d)) B F { s with done:=d } D dc M mc:=
 ⟨h.lo,by simpa using h.blk.set 2 (.int .i64 d),h.data.setCell (by exact h.apart) _,h.rowKeep _ _ h.more⟩
theorem SAt.putMore (h:SAt w B F s D dc M mc) {l:List Rng} {M1:Option Addr} {mc1:Nat} (hm:SlRep Rng.rep w (rv.InM w B F D) l M1 mc1):SAt (w.setCell ⟨F,3,none⟩ (.slice M1 l.length mc1)) B F { s with more:=l } D dc M1 mc1:=
 ⟨h.lo,by simpa using h.blk.set 3 (.slice M1 l.length mc1),h.data.setCell (by exact h.apart) _,h.rowKeep _ _ hm⟩
theorem SAt.putNext (h:SAt w B F s D dc M mc) (d:Int):SAt (w.setCell ⟨F,4,none⟩ (.int .i64 d)) B F { s with next:=d } D dc M mc:=
 ⟨h.lo,by simpa using h.blk.set 4 (.int .i64 d),h.data.setCell (by exact h.apart) _,h.rowKeep _ _ h.more⟩
theorem SAt.putAgain (h:SAt w B F s D dc M mc) (d:Int):SAt (w.setCell ⟨F,5,none⟩ (.int .i64 d)) B F { s with again:=d } D dc M mc:=
 ⟨h.lo,by simpa using h.blk.set 5 (.int .i64 d),h.data.setCell (by exact h.apart) _,h.rowKeep _ _ h.more⟩
theorem SAt.putEdge (h:SAt w B F s D dc M mc) (d:Int):SAt (w.setCell ⟨F,6,none⟩ (.int .i64 d)) B F { s with edge:=d } D dc M mc:=
 ⟨h.lo,by simpa using h.blk.set 6 (.int .i64 d),h.data.setCell (by exact h.apart) _,h.rowKeep _ _ h.more⟩
theorem SAt.grow {wa w2:World} (h:SAt w B F s D dc M mc) (hb:Below w.heap.size w wa) {D2:Option Addr} {n2 dc2:Nat} {d:List UInt8} (hg:Grew wa w2 D D2) (ho:Own w2 B 5 1 D2 n2 dc2 (d.map rv.u8v)) :
  SAt (w2.setCell ⟨F,0,none⟩ (.slice D2 n2 dc2)) B F { s with data:=d } D2 dc2 M mc∧Stays w (w2.setCell ⟨F,0,none⟩ (.slice D2 n2 dc2)) (HW F D)∧Anew w D2 D:=by
 have hn:n2=d.length:=by have h:=ho.len;rw [List.length_map] at h;omega
 subst hn
 have hs1:Stays w w2 (fun k=>blkOf D=some k):=(Stays.of_below hb (fun k=>blkOf D=some k)).trans (Stays.grew hg) (fun k _ hk=>hk)
 have hF2:BlkA w2 F _ _:=h.blk.stays hs1 h.apart
 have hD2F:blkOf D2≠some F:=hF2.apart ho u8NeSender
 have hs:Stays w (w2.setCell ⟨F,0,none⟩ (.slice D2 d.length dc2)) (HW F D):=(hs1.mono fun k _ hk=>.inr hk).trans (Stays.set w2 F 0 _) (fun k _ hk=>.inl hk)
 have hn:Anew w D2 D:=(Anew.of_grew hg).below hb.size
 refine ⟨⟨h.lo,by simpa using hF2.set 0 (.slice D2 d.length dc2),ho.setCell hD2F _,?_⟩,hs,hn⟩
 rcases h.mset with e | ⟨k,hk,hin⟩
 ·simp only;rw [e];exact SlRep.nilAt h.more.2.1
 ·refine h.more'.keep fun q hq=>?_
  rw [hk] at hq
  cases hq
  refine ⟨⟨hin.1,Nat.lt_of_lt_of_le hin.2.1 hs.size,hin.2.2.1,fun e=>?_⟩,hs.block k hin.2.1 (fun e=>e.elim hin.2.2.1 hin.2.2.2)⟩
  rcases hn.inf e with e2 | e2
  ·exact hin.2.2.2 e2
  ·have:=hin.2.1;omega
end
set_option maxHeartbeats 400000 in
theorem send_New (window:Int) (w:World) :
  Calls Try.prog 24 #[.int .i64 window] w fun e w'=>e=.returned (.pointer (some ⟨w.heap.size,0,none⟩))∧SAt w' w.heap.size w.heap.size (sd.start window) none 0 none 0∧Below w.heap.size w w':=by
 go_enter Try.func24,Try.ntmps24
 go_wp2
 go_ret
 exact ⟨rfl,⟨Nat.le_refl _,BlkA.new _ _ _,Own.nil _ _ _ _,⟨Nat.le_refl _,by decide,.inl rfl⟩⟩,(by repeat (first | (with_reducible first | exact Below.refl _ _ | assumption | refine bset ?_ ?_ _ | refine balloc ?_ _ | refine Below.drew ?_ | refine bdrewN ?_ _ | refine bnext ?_ (by with_reducible assumption)) | exact Nat.le_refl _ | (simp;done) | omega | (simp;omega)))⟩
set_option maxHeartbeats 400000 in
theorem send_end (B F:Nat) (s:sd.St) (D:Option Addr) (dc:Nat) (M:Option Addr) (mc:Nat) (w:World) (h:SAt w B F s D dc M mc) (hn:s.data.length≤1048575) :
  Calls Try.prog 80 #[.pointer (some ⟨F,0,none⟩)] w fun e w'=>e=.returned (.int .i64 (sd.endOf s))∧w=w':=by
 have c0:=h.blk.get 0
 have c1:=h.blk.get 1
 simp only [List.getElem?_toArray,List.getElem?_cons_succ,List.getElem?_cons_zero] at c0 c1
 cases hc:s.closed with
 | true=>
  have HE:Hid (sd.endOf s=(s.data.length:Int)+1):=Lib.hid (by unfold sd.endOf;rw [hc];rfl)
  rw [hc] at c1
  clear h hc
  go_enter Try.func80,Try.ntmps80
  go_wp2
  go_ret
  exact ⟨by rw [HE.out];rfl,rfl⟩
 | false=>
  have HE:Hid (sd.endOf s=(s.data.length:Int)):=Lib.hid (by unfold sd.endOf;rw [hc];simp [sd.fin1])
  rw [hc] at c1
  clear h hc
  go_enter Try.func80,Try.ntmps80
  go_wp2
  go_ret
  exact ⟨by rw [HE.out];rfl,rfl⟩
theorem sd.total_snoc (l:List Rng) (r:Rng):sd.total (l ++ [r])=sd.total l+(r.hi - r.lo):=by
 unfold sd.total
 rw [List.map_append,List.sum_append]
 simp
theorem sd.total_bd {l:List Rng} (h:∀ r,r ∈ l→0≤r.hi - r.lo∧r.hi - r.lo≤1048576):0≤sd.total l∧sd.total l≤1048576 * l.length:=by
 induction l with
 | nil=>exact ⟨Int.le_refl _,by simp [sd.total]⟩
 | cons r l ih=>
  have h1:=h r (by simp)
  have h2:=ih (fun q hq=>h q (by simp [hq]))
  unfold sd.total at *
  rw [List.map_cons,List.sum_cons,List.length_cons]
  omega
theorem sd.take_getD {l:List Rng} {k:Nat} (hk:k<l.length):l.take (k+1)=l.take k ++ [l.getD k Rng.z]:=by
 rw [List.take_add_one,List.getElem?_eq_getElem hk,List.getD_eq_getElem?_getD,List.getElem?_eq_getElem hk]
 rfl
theorem sd.firstFrom_snoc (l:List Rng) (r:Rng) (f:Int):sd.firstFrom (l ++ [r]) f=if r.lo≤sd.firstFrom l f∧sd.firstFrom l f<r.hi then r.hi else sd.firstFrom l f:=by
 unfold sd.firstFrom
 rw [List.foldl_append]
 rfl
theorem sd.firstFrom_ge:∀ (l:List Rng) (f:Int),f≤sd.firstFrom l f
 | [],f=>Int.le_refl _
 | r :: l,f=>by
  show f≤sd.firstFrom l (if r.lo≤f∧f<r.hi then r.hi else f)
  have:=sd.firstFrom_ge l (if r.lo≤f∧f<r.hi then r.hi else f)
  split at this <;> split <;> omega
theorem sd.Inv.rng {s:sd.St} (h:sd.Inv s) {r:Rng} (hr:r ∈ s.more):0≤r.lo∧r.lo<r.hi∧r.hi≤1048576:=by
 have h1:=h.canon.mem r hr
 have h2:=h.hi r hr
 have h3:=h.lo
 have h4:=h.end_
 omega
set_option maxHeartbeats 1000000 in
theorem send_Left (B F:Nat) (s:sd.St) (D:Option Addr) (dc:Nat) (M:Option Addr) (mc:Nat) (w:World) (h:SAt w B F s D dc M mc) (hi:sd.Inv s) :
  Calls Try.prog 50 #[.pointer (some ⟨F,0,none⟩)] w fun e w'=>e=.returned (.int .i64 (sd.leftOf s))∧Below w.heap.size w w':=by
 have H:=Lib.hid h
 have HI:=Lib.hid hi
 have c2:=h.blk.get 2
 have c3:=h.blk.get 3
 simp only [List.getElem?_toArray,List.getElem?_cons_succ,List.getElem?_cons_zero] at c2 c3
 have hF:=h.blk.lt
 have HEN:=Lib.hid (fun wz (hb:Below w.heap.size w wz)=>send_end B F s D dc M mc wz (h.next hb) hi.size)
 have hb0:=hi.lo
 have hb1:=hi.end_
 have hfew:=hi.few
 obtain ⟨en,hen⟩:∃ en,sd.endOf s=en:=⟨_,rfl⟩
 obtain ⟨dn,hdn⟩:∃ dn,s.done=dn:=⟨_,rfl⟩
 rw [hen,hdn] at hb0
 rw [hen] at hb1 HEN
 rw [hdn] at c2
 have HLE:Hid (sd.leftOf s=en - dn - sd.total s.more):=Lib.hid (by unfold sd.leftOf;rw [hen,hdn])
 have e1:IntKind.i64.wrap (en - dn)=en - dn:=IntWalk.i64_in _ (by omega)
 clear h hi hen hdn
 go_enter Try.func50,Try.ntmps50
 go_wp2
 go_quiet ((go_at_call 80;exact Calls.quiet_of_same ((HEN.out _ (by exact (by repeat (first | (with_reducible first | exact Below.refl _ _ | assumption | refine bset ?_ ?_ _ | refine balloc ?_ _ | refine Below.drew ?_ | refine bdrewN ?_ _ | refine bnext ?_ (by with_reducible assumption)) | exact Nat.le_refl _ | (simp;done) | omega | (simp;omega))))).mono (fun e w' he=>⟨he.1,he.2.symm⟩))))
 clear e1
 go_wp2
 go_loopw [3,18] (fun n i wr=>∃ k:Nat,k≤s.more.length∧i=.int .i64 k∧n=.int .i64 (en - dn - sd.total (s.more.take k))∧Below w.heap.size w wr) (fun _ i _=>s.more.length - (intOf i).toNat)
 case atStart=>exact ⟨0,by omega,rfl,by simp [sd.total],bdrewN (bself _) _⟩
 case round=>
  obtain ⟨k,hk,rfl,rfl,hB⟩:=hrel
  rename World=>wr
  have hbd:=sd.total_bd (l:=s.more.take k) (fun r hr=>by have:=HI.out.rng (List.mem_of_mem_take hr);omega)
  have hlk:(s.more.take k).length≤k:=List.length_take_le _ _
  by_cases hlt:k<s.more.length
  ·obtain ⟨g,o,rfl,hg,e0,e1⟩:=Rng.cells_at Rng.z (H.out.moreLt.below hB) hlt
   have hlt':(k:Int)<(s.more.length:Int):=by omega
   have hgr:g<wr.heap.size:=Nat.lt_of_lt_of_le hg hB.size
   have hr:=HI.out.rng (r:=s.more.getD k Rng.z) (by rw [List.getD_eq_getElem?_getD,List.getElem?_eq_getElem hlt];exact List.getElem_mem hlt)
   have HSN:Hid (sd.total (s.more.take (k+1))=sd.total (s.more.take k)+((s.more.getD k Rng.z).hi - (s.more.getD k Rng.z).lo)):=Lib.hid (by rw [sd.take_getD hlt,sd.total_snoc])
   generalize s.more.getD k Rng.z=r at *
   generalize sd.total (s.more.take k)=tt at *
   obtain ⟨rl,rh⟩:=r
   dsimp only at hr e0 e1 HSN
   go_wp2
   go_roundw
   case rel=>exact ⟨k+1,by omega,by go_num,by rw [HSN.out];congr 1;omega,balloc hB _⟩
   case measure=>simp [intOf];omega
  ·obtain rfl:k=s.more.length:=by omega
   have HT:Hid (s.more.take s.more.length=s.more):=Lib.hid List.take_length
   go_wp2
   go_ret
   exact ⟨by rw [HLE.out];first | rfl | (rw [HT.out];rfl),hB⟩
end Go.Proofs.Ytdldfllllgogoaa
namespace Go.Proofs.Ytdldfllllgogoaa
open Go.RowKit
/-- a frame and where its bytes lie -/
structure FrA where
 fr:pp.Fr
 A:Option Addr
 c:Nat
def FrA.cells (f:FrA):List Value:=[.slice f.A f.fr.bytes.length f.c,.bool f.fr.back,.bool f.fr.hit]
def FrA.z:FrA:=⟨pp.zf,none,0⟩
structure Frames (w:World) (B:Nat) (T:TypeId) (A:Option Addr) (c:Nat) (fa:List FrA):Prop where
 own:Own w B T 3 A fa.length c (fa.flatMap FrA.cells)
 rows:∀ f,f ∈ fa→Own w B 5 1 f.A f.fr.bytes.length f.c (f.fr.bytes.map rv.u8v)
 apart:∀ (i j:Nat) (f g:FrA),i≠j→fa[i]? = some f→fa[j]? = some g→Far f.A g.A
/-- the blocks of frames -/
def FrF (A:Option Addr) (fa:List FrA) (k:Nat):Prop:=blkOf A=some k∨∃ f,f ∈ fa∧blkOf f.A=some k
section
variable {w w' wa w2:World} {B:Nat} {T:TypeId} {A A2:Option Addr} {c c2 n2:Nat} {fa:List FrA}
theorem Frames.nil (w:World) (B:Nat) (T:TypeId):Frames w B T none 0 []:=⟨Own.nil _ _ _ _,fun f hf=>(by cases hf),fun i j f g _ h=>(by simp at h)⟩
theorem Frames.lt (h:Frames w B T A c fa) {k:Nat} (hk:FrF A fa k):B≤k∧k<w.heap.size:=by
 rcases hk with e | ⟨f,hf,e⟩
 ·exact h.own.lt k e
 ·exact (h.rows f hf).lt k e
theorem Frames.stays {No:Nat→Prop} (h:Frames w B T A c fa) (hs:Stays w w' No) (hn:∀ k,FrF A fa k→¬ No k):Frames w' B T A c fa:=
 ⟨h.own.stays hs fun k hk=>hn k (.inl hk),fun f hf=>(h.rows f hf).stays hs fun k hk=>hn k (.inr ⟨f,hf,hk⟩),h.apart⟩
theorem Frames.next (h:Frames w B T A c fa) (hb:Below w.heap.size w w'):Frames w' B T A c fa:=
 ⟨h.own.next hb,fun f hf=>(h.rows f hf).next hb,h.apart⟩
theorem Frames.rowApart (h:Frames w B T A c fa) (hT:5≠T) {f:FrA} (hf:f ∈ fa) {k:Nat} (hk:blkOf f.A=some k):blkOf A≠some k:=fun e=>by
 rcases Own.two (h.rows f hf) h.own hT with e2 | e2
 ·rw [e2] at hk;cases hk
 ·exact e2 (hk.trans e.symm)
/-- a frame put -/
theorem Frames.push (h:Frames w B T A c fa) (hT:5≠T) {f:FrA} {n:Nat} (hb:Below w.heap.size w wa) (hg:Grew wa w2 A A2) (ho:Own w2 B T 3 A2 n c2 (fa.flatMap FrA.cells ++ f.cells)) (hn:n=fa.length+1) (hr:Own wa B 5 1 f.A f.fr.bytes.length f.c (f.fr.bytes.map rv.u8v)) (hnew:∀ k,blkOf f.A=some k→w.heap.size≤k):Frames w2 B T A2 c2 (fa ++ [f]):=by
 subst hn
 refine ⟨?_,fun g hg'=>?_,fun i j p q hij hp hq=>?_⟩
 ·rw [List.flatMap_append,List.length_append]
  simpa using ho
 ·rcases List.mem_append.1 hg' with hm | hm
  ·refine ((h.rows g hm).next hb).stays (Stays.grew hg) fun k hk e=>?_
   exact h.rowApart hT hm hk e
  ·rw [List.mem_singleton] at hm
   subst hm
   refine hr.stays (Stays.grew hg) fun k hk e=>?_
   have:=(h.own.lt k e).2
   have:=hnew k hk
   omega
 ·have hl:∀ (i:Nat) (p:FrA),(fa ++ [f])[i]? = some p→fa[i]? = some p∨(i=fa.length∧p=f):=fun i p hp=>by
   rcases Nat.lt_or_ge i fa.length with h1 | h1
   ·rw [List.getElem?_append_left h1] at hp
    exact .inl hp
   ·rw [List.getElem?_append_right h1] at hp
    have h2:=(List.getElem?_eq_some_iff.1 hp).1
    simp at h2
    have h3:i=fa.length:=by omega
    subst h3
    simp at hp
    exact .inr ⟨rfl,hp.symm⟩
  rcases hl i p hp with h1 | ⟨h1,rfl⟩
  ·rcases hl j q hq with h2 | ⟨h2,rfl⟩
   ·exact h.apart i j p q hij h1 h2
   ·intro k hk e
    have:=((h.rows p (List.mem_of_getElem? h1)).lt k hk).2
    have:=hnew k e
    omega
  ·rcases hl j q hq with h2 | ⟨h2,rfl⟩
   ·intro k hk e
    have:=((h.rows q (List.mem_of_getElem? h2)).lt k e).2
    have:=hnew k hk
    omega
   ·omega
theorem FrF.push {w:World} {f:FrA} {k:Nat} (hA:Newer w A2 A) (hnew:∀ k,blkOf f.A=some k→w.heap.size≤k) (hk:FrF A2 (fa ++ [f]) k):FrF A fa k∨w.heap.size≤k:=by
 rcases hk with e | ⟨g,hg,e⟩
 ·exact (hA k e).imp .inl id
 ·rcases List.mem_append.1 hg with hm | hm
  ·exact .inl (.inr ⟨g,hm,e⟩)
  ·rw [List.mem_singleton] at hm
   subst hm
   exact .inr (hnew k e)
/-- the frame number i: its cells -/
theorem Frames.at_ (h:Frames w B T A c fa) {i:Nat} (hi:i<fa.length):∃ g,A=some ⟨g,0,none⟩∧B≤g∧g<w.heap.size∧w.cell? ⟨g,i * 3,none⟩=some (.slice (fa.getD i FrA.z).A (fa.getD i FrA.z).fr.bytes.length (fa.getD i FrA.z).c)∧w.cell? ⟨g,i * 3+1,none⟩=some (.bool (fa.getD i FrA.z).fr.back)∧w.cell? ⟨g,i * 3+2,none⟩=some (.bool (fa.getD i FrA.z).fr.hit):=by
 have hx:fa[i]? = some (fa.getD i FrA.z):=by rw [List.getD_eq_getElem?_getD,List.getElem?_eq_getElem hi];rfl
 have key:∀ j,j<3→(fa.flatMap FrA.cells)[i * 3+j]? = (fa.getD i FrA.z).cells[j]?:=fun j hj=>flatMap_at FrA.cells 3 (fun _=>rfl) fa i _ hx j hj
 obtain ⟨g,e,h1,h2,c0⟩:=h.own.cell (key 0 (by omega))
 obtain ⟨g1,e1,_,_,c1⟩:=h.own.cell (key 1 (by omega))
 obtain ⟨g2,e2,_,_,c2⟩:=h.own.cell (key 2 (by omega))
 rw [e] at e1 e2
 cases e1
 cases e2
 exact ⟨g,e,h1,h2,c0,c1,c2⟩
theorem Frames.row (h:Frames w B T A c fa) {i:Nat} (hi:i<fa.length):Own w B 5 1 (fa.getD i FrA.z).A (fa.getD i FrA.z).fr.bytes.length (fa.getD i FrA.z).c ((fa.getD i FrA.z).fr.bytes.map rv.u8v):=
 h.rows _ (by rw [List.getD_eq_getElem?_getD,List.getElem?_eq_getElem hi];exact List.getElem_mem hi)
end
end Go.Proofs.Ytdldfllllgogoaa
namespace Go.Proofs.Ytdldfllllgogoaa
open Go.RowKit
theorem xor_u8 (x y:UInt8):bits .xor .u8 (x.toNat:Int) (y.toNat:Int)=((x ^^^ y).toNat:Int):=by
 rw [u8_xor_nat _ _ x.toNat_lt y.toNat_lt,UInt8.toNat_xor]
theorem flatMap_set {α:Type} (enc:α→List Value) (size:Nat) (henc:∀ a,(enc a).length=size):∀ (l:List α) (i j:Nat) (y:α) (v:Value),i<l.length→j<size→(∀ x,l[i]? = some x→enc y=(enc x).set j v)→(l.flatMap enc).set (i * size+j) v=(l.set i y).flatMap enc
 | [],i,j,y,v,hi,_,_=>by simp at hi
 | x :: r,0,j,y,v,_,hj,h=>by
  rw [List.flatMap_cons,List.set_cons_zero,List.flatMap_cons,Nat.zero_mul,Nat.zero_add,List.set_append_left _ _ (by rw [henc];exact hj),h x rfl]
 | x :: r,i+1,j,y,v,hi,hj,h=>by
  rw [List.flatMap_cons,List.set_cons_succ,List.flatMap_cons,List.set_append_right _ _ (by rw [henc,Nat.succ_mul];omega),henc,show (i+1) * size+j - size=i * size+j by rw [Nat.succ_mul];omega,flatMap_set enc size henc r i j y v (by simpa using hi) hj (fun z hz=>h z (by simpa using hz))]
theorem flatMap_same {α:Type} (enc:α→List Value):∀ (l:List α) (i:Nat) (y:α),(∀ x,l[i]? = some x→enc y=enc x)→(l.set i y).flatMap enc=l.flatMap enc
 | [],i,y,_=>by simp
 | x :: r,0,y,h=>by rw [List.set_cons_zero,List.flatMap_cons,List.flatMap_cons,h x rfl]
 | x :: r,i+1,y,h=>by rw [List.set_cons_succ,List.flatMap_cons,List.flatMap_cons,flatMap_same enc r i y (fun z hz=>h z (by simpa using hz))]
section
variable {w:World} {B:Nat} {T:TypeId} {A:Option Addr} {c:Nat} {fa:List FrA}
theorem getD_some {i:Nat} (hi:i<fa.length):fa[i]? = some (fa.getD i FrA.z):=by rw [List.getD_eq_getElem?_getD,List.getElem?_eq_getElem hi];rfl
theorem FrF.set {i:Nat} (hi:i<fa.length) {f:pp.Fr} {k:Nat}:FrF A (fa.set i ⟨f,(fa.getD i FrA.z).A,(fa.getD i FrA.z).c⟩) k↔FrF A fa k:=by
 unfold FrF
 refine or_congr Iff.rfl ⟨?_,?_⟩
 ·rintro ⟨q,hq,e⟩
  rcases List.mem_or_eq_of_mem_set hq with hm | rfl
  ·exact ⟨q,hm,e⟩
  ·exact ⟨fa.getD i FrA.z,List.mem_of_getElem? (getD_some hi),e⟩
 ·rintro ⟨q,hq,e⟩
  obtain ⟨j,hj⟩:=List.mem_iff_getElem?.1 hq
  by_cases hji:j=i
  ·subst hji
   rw [getD_some hi] at hj
   cases hj
   exact ⟨⟨f,(fa.getD j FrA.z).A,(fa.getD j FrA.z).c⟩,List.mem_iff_getElem?.2 ⟨j,List.getElem?_set_self hi⟩,e⟩
  ·exact ⟨q,List.mem_iff_getElem?.2 ⟨j,by rw [List.getElem?_set_ne (fun h=>hji h.symm)];exact hj⟩,e⟩
theorem Frames.apartSet (h:Frames w B T A c fa) {i:Nat} (hi:i<fa.length) (f:pp.Fr):∀ (p q:Nat) (y z:FrA),p≠q→(fa.set i ⟨f,(fa.getD i FrA.z).A,(fa.getD i FrA.z).c⟩)[p]? = some y→(fa.set i ⟨f,(fa.getD i FrA.z).A,(fa.getD i FrA.z).c⟩)[q]? = some z→Far y.A z.A:=by
 have key:∀ (p:Nat) (y:FrA),(fa.set i ⟨f,(fa.getD i FrA.z).A,(fa.getD i FrA.z).c⟩)[p]? = some y→∃ y',fa[p]? = some y'∧y'.A=y.A:=fun p y hy=>by
  by_cases hp:i=p
  ·subst hp
   rw [List.getElem?_set_self hi] at hy
   cases hy
   exact ⟨_,getD_some hi,rfl⟩
  ·rw [List.getElem?_set_ne hp] at hy
   exact ⟨y,hy,rfl⟩
 intro p q y z hpq hy hz
 obtain ⟨y',h1,h2⟩:=key p y hy
 obtain ⟨z',h3,h4⟩:=key q z hz
 rw [← h2,← h4]
 exact h.apart p q y' z' hpq h1 h3
/-- a byte of a frame turned -/
theorem Frames.setByte (h:Frames w B T A c fa) (hT:5≠T) {i:Nat} (hi:i<fa.length) {g:Nat} (hg:(fa.getD i FrA.z).A=some ⟨g,0,none⟩) (n:Nat) (y:UInt8) :
  Frames (w.setCell ⟨g,n,none⟩ (rv.u8v y)) B T A c (fa.set i ⟨{ (fa.getD i FrA.z).fr with bytes:=(fa.getD i FrA.z).fr.bytes.set n y },(fa.getD i FrA.z).A,(fa.getD i FrA.z).c⟩):=by
 have hm:=List.mem_of_getElem? (getD_some hi)
 refine ⟨?_,fun q hq=>?_,h.apartSet hi _⟩
 ·rw [List.length_set,flatMap_same FrA.cells fa i _ (fun x hx=>by
   rw [getD_some hi] at hx
   cases hx
   show [Value.slice _ (List.set _ _ _).length _,_,_]=_
   rw [List.length_set]
   rfl)]
  exact h.own.setCell (h.rowApart hT hm (by rw [hg];rfl)) _
 ·obtain ⟨j,hj⟩:=List.mem_iff_getElem?.1 hq
  by_cases hji:i=j
  ·subst hji
   rw [List.getElem?_set_self hi] at hj
   cases hj
   show Own _ B _ 1 (fa.getD i FrA.z).A (List.set _ _ _).length (fa.getD i FrA.z).c ((List.set _ _ _).map rv.u8v)
   rw [List.length_set,List.map_set]
   have h2:=h.row hi
   rw [hg] at h2 ⊢
   exact h2.setAt _
  ·rw [List.getElem?_set_ne hji] at hj
   exact (h.rows q (List.mem_of_getElem? hj)).setCell (fun e=>h.apart j i q _ (fun e=>hji e.symm) hj (getD_some hi) g e (by rw [hg];rfl)) _
/-- a frame marked -/
theorem Frames.setHit (h:Frames w B T A c fa) (hT:5≠T) {i:Nat} (hi:i<fa.length) {g:Nat} (hg:A=some ⟨g,0,none⟩) (b:Bool) :
  Frames (w.setCell ⟨g,i * 3+2,none⟩ (.bool b)) B T A c (fa.set i ⟨{ (fa.getD i FrA.z).fr with hit:=b },(fa.getD i FrA.z).A,(fa.getD i FrA.z).c⟩):=by
 refine ⟨?_,fun q hq=>?_,h.apartSet hi _⟩
 ·rw [List.length_set,← flatMap_set FrA.cells 3 (fun _=>rfl) fa i 2 _ (.bool b) hi (by omega) (fun x hx=>by
   rw [getD_some hi] at hx
   cases hx
   rfl)]
  have h2:=h.own
  subst hg
  exact h2.setAt _
 ·have hne:∀ z,z ∈ fa→blkOf z.A≠some g:=fun z hz e=>h.rowApart hT hz e (by rw [hg];rfl)
  rcases List.mem_or_eq_of_mem_set hq with hm | rfl
  ·exact (h.rows q hm).setCell (hne q hm) _
  ·exact (h.row hi).setCell (hne _ (List.mem_of_getElem? (getD_some hi))) _
end
end Go.Proofs.Ytdldfllllgogoaa
namespace Go.Proofs.Ytdldfllllgogoaa
open Go.RowKit
set_option linter.unusedSimpArgs false
def sd.oddB (next:Int) (r:Rng):Bool:=decide (sd.odd next r)
set_option maxHeartbeats 400000 in
theorem send_odd (r:Rng) (next:Int) (Bs F:Nat) (w:World) (hs:w.cell? ⟨Bs,0,none⟩=some (.pointer (some ⟨F,0,none⟩))) (hx:w.cell? ⟨F,4,none⟩=some (.int .i64 next)) (h3:Bs<w.heap.size) (h4:F<w.heap.size) :
  Calls Try.prog 76 #[.agg #[.int .i64 r.lo,.int .i64 r.hi],.pointer (some ⟨Bs,0,none⟩)] w fun e w'=>e=.returned (.bool (sd.oddB next r))∧Below w.heap.size w w':=by
 obtain ⟨x,y⟩:=r
 by_cases c1:x<0
 ·have HE:Hid (sd.oddB next (⟨x,y⟩:Rng)=true):=Lib.hid (by unfold sd.oddB sd.odd;simp [c1])
  go_enter Try.func76,Try.ntmps76
  go_wp2
  go_quiet (fail)
  go_wp2
  go_ret
  exact ⟨by rw [HE.out];rfl,(by repeat (first | (with_reducible first | exact Below.refl _ _ | assumption | refine bset ?_ ?_ _ | refine balloc ?_ _ | refine Below.drew ?_ | refine bdrewN ?_ _ | refine bnext ?_ (by with_reducible assumption)) | exact Nat.le_refl _ | (simp;done) | omega | (simp;omega)))⟩
 by_cases c2:y≤x
 ·have HE:Hid (sd.oddB next (⟨x,y⟩:Rng)=true):=Lib.hid (by unfold sd.oddB sd.odd;simp [c2])
  have k1:decide (x<0)=false:=by simpa using c1
  have k2:decide (y≤x)=true:=by simpa using c2
  go_enter Try.func76,Try.ntmps76
  go_wp2
  go_quiet (fail)
  go_wp2
  go_ret
  exact ⟨by rw [HE.out];rfl,(by repeat (first | (with_reducible first | exact Below.refl _ _ | assumption | refine bset ?_ ?_ _ | refine balloc ?_ _ | refine Below.drew ?_ | refine bdrewN ?_ _ | refine bnext ?_ (by with_reducible assumption)) | exact Nat.le_refl _ | (simp;done) | omega | (simp;omega)))⟩
 have k1:decide (x<0)=false:=by simpa using c1
 have k2:decide (y≤x)=false:=by simpa using c2
 by_cases c3:next<y
 ·have HE:Hid (sd.oddB next (⟨x,y⟩:Rng)=true):=Lib.hid (by unfold sd.oddB sd.odd;simp [c3])
  have k3:decide (next<y)=true:=by simpa using c3
  go_enter Try.func76,Try.ntmps76
  go_wp2
  go_quiet (fail)
  go_wp2
  go_ret
  exact ⟨by rw [HE.out];rfl,(by repeat (first | (with_reducible first | exact Below.refl _ _ | assumption | refine bset ?_ ?_ _ | refine balloc ?_ _ | refine Below.drew ?_ | refine bdrewN ?_ _ | refine bnext ?_ (by with_reducible assumption)) | exact Nat.le_refl _ | (simp;done) | omega | (simp;omega)))⟩
 ·have HE:Hid (sd.oddB next (⟨x,y⟩:Rng)=false):=Lib.hid (decide_eq_false (fun e=>by unfold sd.odd at e;simp only at e;omega))
  have k3:decide (next<y)=false:=by simpa using c3
  go_enter Try.func76,Try.ntmps76
  go_wp2
  go_quiet (fail)
  go_wp2
  go_ret
  exact ⟨by rw [HE.out];rfl,(by repeat (first | (with_reducible first | exact Below.refl _ _ | assumption | refine bset ?_ ?_ _ | refine balloc ?_ _ | refine Below.drew ?_ | refine bdrewN ?_ _ | refine bnext ?_ (by with_reducible assumption)) | exact Nat.le_refl _ | (simp;done) | omega | (simp;omega)))⟩
def sd.anyB (l:List Rng) (p:Int):Bool:=l.any (sd.oddB p)
theorem sd.any_at {l:List Rng} {p:Int} {k:Nat} (hk:k<l.length) (h:sd.oddB p (l.getD k Rng.z)=true):sd.anyB l p=true:=by
 unfold sd.anyB
 rw [List.any_eq_true]
 refine ⟨l.getD k Rng.z,?_,h⟩
 rw [List.getD_eq_getElem?_getD,List.getElem?_eq_getElem hk]
 exact List.getElem_mem hk
theorem sd.any_no {l:List Rng} {p:Int} (h:∀ j,j<l.length→sd.oddB p (l.getD j Rng.z)=false):sd.anyB l p=false:=by
 unfold sd.anyB
 rw [List.any_eq_false]
 intro r hr
 obtain ⟨j,hj,rfl⟩:=List.mem_iff_getElem.1 hr
 have h2:=h j hj
 rw [List.getD_eq_getElem?_getD,List.getElem?_eq_getElem hj] at h2
 simpa using h2
set_option maxHeartbeats 1000000 in
theorem send_index (l:List Rng) (next:Int) (A:Option Addr) (c Bs F:Nat) (w:World) (hl:SlRep Rng.rep w (· < w.heap.size) l A c) (hn:l.length≤16) (hf:w.cell? ⟨Bs,0,none⟩=some (.pointer (some ⟨F,0,none⟩))) (hi:w.cell? ⟨F,4,none⟩=some (.int .i64 next)) (h3:Bs<w.heap.size) (h4:F<w.heap.size) :
  Calls Try.prog 98 #[.slice A l.length c,.func (.func 76) #[] #[.pointer (some ⟨Bs,0,none⟩)]] w (IdxPost (sd.anyB l next) w):=by
 have HL:=Lib.hid hl
 have HFI:=Lib.hid (And.intro hf hi)
 have HBL:=Lib.hid (And.intro h3 h4)
 clear hl hf hi h3 h4
 go_enter Try.func98,Try.ntmps98
 go_wp2
 go_loopw [5,8] (fun _ i wr=>∃ k:Nat,k≤l.length∧i=.int .i64 k∧Hid (∀ j,j<k→sd.oddB next (l.getD j Rng.z)=false)∧Below w.heap.size w wr) (fun _ i _=>l.length - (intOf i).toNat)
 case atStart=>exact ⟨0,by omega,rfl,Lib.hid (fun j hj=>by omega),Below.refl _ _⟩
 case round=>
  obtain ⟨k,hk,rfl,HA,hB⟩:=hrel
  rename World=>wr
  by_cases hlt:k<l.length
  ·obtain ⟨g,o,rfl,_,hc1,hc2⟩:=Rng.cells_at Rng.z (HL.out.below hB) hlt
   have HN:Hid (sd.oddB next (l.getD k Rng.z)=false→∀ j,j<k+1→sd.oddB next (l.getD j Rng.z)=false):=Lib.hid (fun h j hj=>by
    rcases Nat.lt_or_ge j k with h' | h'
    ·exact HA.out j h'
    ·obtain rfl:j=k:=by omega
     exact h)
   have HY:Hid (sd.oddB next (l.getD k Rng.z)=true→sd.anyB l next=true):=Lib.hid (sd.any_at hlt)
   have HC:=Lib.hid (fun r:Rng=>send_odd r next Bs F wr ((hB.cell (p:=⟨Bs,0,none⟩) HBL.out.1).trans HFI.out.1) ((hB.cell (p:=⟨F,4,none⟩) HBL.out.2).trans HFI.out.2) (Nat.lt_of_lt_of_le HBL.out.1 hB.size) (Nat.lt_of_lt_of_le HBL.out.2 hB.size))
   clear HL HA
   generalize l.getD k Rng.z=r at *
   cases hr:sd.oddB next r with
   | true=>
    have HT:=Lib.hid hr
    have HR:=Lib.hid (HY.out hr)
    clear hr
    go_wp2_with (go_at_call 76;((with_reducible refine (HC.out r).mono ?_);rintro e' w2 ⟨rfl,hb2⟩;rw [HT.out]))
    go_ret
    exact IdxPost.mk k rfl (by omega) (by omega) ⟨fun _=>HR.out,fun _=>by omega⟩ (bnext hB hb2)
   | false=>
    have HT:=Lib.hid hr
    have HR:=Lib.hid (HN.out hr)
    clear hr
    go_wp2_with (go_at_call 76;((with_reducible refine (HC.out r).mono ?_);rintro e' w2 ⟨rfl,hb2⟩;rw [HT.out]))
    go_roundw
    case rel=>exact ⟨k+1,by omega,by go_num,Lib.hid HR.out,bnext hB hb2⟩
    case measure=>simp [intOf];omega
  ·obtain rfl:k=l.length:=by omega
   have HT:Hid (sd.anyB l next=false):=Lib.hid (sd.any_no HA.out)
   clear HA HL
   go_wp2
   go_ret
   exact IdxPost.mk (-1) rfl (by omega) (by omega) ⟨fun h=>by omega,fun h=>by rw [HT.out] at h;cases h⟩ hB
set_option maxHeartbeats 400000 in
theorem send_contains (l:List Rng) (next:Int) (A:Option Addr) (c Bs F:Nat) (w:World) (hl:SlRep Rng.rep w (· < w.heap.size) l A c) (hn:l.length≤16) (hf:w.cell? ⟨Bs,0,none⟩=some (.pointer (some ⟨F,0,none⟩))) (hi:w.cell? ⟨F,4,none⟩=some (.int .i64 next)) (h3:Bs<w.heap.size) (h4:F<w.heap.size) :
  Calls Try.prog 77 #[.slice A l.length c,.func (.func 76) #[] #[.pointer (some ⟨Bs,0,none⟩)]] w fun e w'=>e=.returned (.bool (sd.anyB l next))∧Below w.heap.size w w':=by
 have HI:=Lib.hid (send_index l next A c Bs F w hl hn hf hi h3 h4)
 clear hl hf hi h3 h4
 generalize sd.anyB l next=b at *
 go_enter Try.func77,Try.ntmps77
 go_wp2_with (go_at_call 98;refine HI.out.mono ?_;rintro e w2 ⟨⟨n,rfl,h1,h2,h3⟩,hb2⟩;have H3:=Lib.hid h3;clear h3)
 go_ret
 refine ⟨ret_bool ?_,hb2⟩
 cases b with
 | true=>exact decide_eq_true (H3.out.2 rfl)
 | false=>exact decide_eq_false (fun h=>by have:=H3.out.1 h;cases this)
set_option maxRecDepth 100000 in
set_option maxHeartbeats 2000000 in
theorem concat2_rng (l1 l2:List Rng) (A1 A2:Option Addr) (c1 c2 B:Nat) (w:World) (hB:B<w.heap.size) (hx1:w.cell? ⟨B,0,none⟩=some (.slice A1 l1.length c1)) (hx2:w.cell? ⟨B,1,none⟩=some (.slice A2 l2.length c2))
  (h1:SlRep Rng.rep w (· < w.heap.size) l1 A1 c1) (h2:SlRep Rng.rep w (· < w.heap.size) l2 A2 c2) (hn:l1.length+l2.length≤1048576) :
  Calls Try.prog 78 #[.slice (some ⟨B,0,none⟩) 2 2] w fun e w'=>∃ A' c',e=.returned (.slice A' (l1 ++ l2).length c')∧Own w' w.heap.size 78 2 A' (l1 ++ l2).length c' ((l1 ++ l2).flatMap Rng.cells)∧Below w.heap.size w w':=by
 have H1:=Lib.hid h1
 have H2:=Lib.hid h2
 have CL:Hid (∀ (l:List Rng) (A:Option Addr) (c:Nat) (W:World),SlRep Rng.rep w (· < w.heap.size) l A c→Below w.heap.size w W→Cells W A (l.flatMap Rng.cells)):=Lib.hid fun l A c W hl hW=>(hl.next hW).cells_flat Rng.cells rfl (fun a cs h=>Rng.rep_iff.1 h) (fun _=>rfl) (by decide)
 clear h1 h2
 go_enter Try.func78,Try.ntmps78
 go_wp2
 go_loop [3,11] (fun s i=>(i=.int .i64 0∧s=.int .i64 0)∨(i=.int .i64 1∧s=.int .i64 l1.length)∨(i=.int .i64 2∧s=.int .i64 ((l1.length:Int)+l2.length))) (fun _ i=>2 - (intOf i).toNat)
 case atStart=>exact .inl ⟨rfl,rfl⟩
 case round=>
  rcases hrel with ⟨rfl,rfl⟩ | ⟨rfl,rfl⟩ | ⟨rfl,rfl⟩
  ·go_wp2
   go_round
   case rel=>exact .inr (.inl ⟨rfl,rfl⟩)
   case measure=>simp [intOf]
  ·go_wp2
   go_round
   case rel=>exact .inr (.inr ⟨rfl,rfl⟩)
   case measure=>simp [intOf]
  ·have HS:Hid (((l1.length:Int)+(l2.length:Int))=((l1.length+l2.length:Nat):Int)):=Lib.hid (by omega)
   have HG:=Lib.hid (grow_rng (l1.length+l2.length) w hn)
   go_wp2_with (go_at_call 99;go_loud (rw [HS.out];refine HG.out.mono ?_;rintro e w1 ⟨A',c',rfl,ho,hb1⟩))
   have HO:=Lib.hid ho
   clear ho HG HS
   have h1B:w1.cell? ⟨B,0,none⟩=some (.slice A1 l1.length c1):=(hb1.cell (p:=⟨B,0,none⟩) hB).trans hx1
   have h2B:w1.cell? ⟨B,1,none⟩=some (.slice A2 l2.length c2):=(hb1.cell (p:=⟨B,1,none⟩) hB).trans hx2
   have hsz:=hb1.size
   have HX1:=Lib.hid h1B
   have HX2:=Lib.hid h2B
   clear h1B h2B hx1 hx2
   go_wp2
   go_loopw [6,27] (fun out i wr=>∃ (k:Nat) (l:List Rng) (A':Option Addr) (c':Nat),k≤2∧i=.int .i64 k∧out=.slice A' l.length c'∧Hid (l=if k=0 then [] else if k=1 then l1 else l1 ++ l2)∧Hid (Own wr w.heap.size 78 2 A' l.length c' (l.flatMap Rng.cells))∧Below w.heap.size w wr∧Below B.succ w1 wr) (fun _ i _=>2 - (intOf i).toNat)
   case atStart=>exact ⟨0,[],A',c',by omega,rfl,rfl,Lib.hid rfl,HO,hb1,Below.refl _ _⟩
   case round=>
    obtain ⟨k,l,A2',c2',hk,rfl,rfl,HL,HO2,hB2,hB3⟩:=hrel
    rename World=>wr
    have hszr:=hB2.size
    have h1B:wr.cell? ⟨B,0,none⟩=some (.slice A1 l1.length c1):=(hB3.cell (p:=⟨B,0,none⟩) (Nat.lt_succ_self _)).trans HX1.out
    have h2B:wr.cell? ⟨B,1,none⟩=some (.slice A2 l2.length c2):=(hB3.cell (p:=⟨B,1,none⟩) (Nat.lt_succ_self _)).trans HX2.out
    have hBr:B<wr.heap.size:=by omega
    by_cases k0:k=0
    ·subst k0
     obtain rfl:l=[]:=HL.out
     go_wp2_with (at_builtin;refine wp_app _ rfl _ _ _ rfl elemRng w.heap.size A2' _ c2' _ rfl HO2.out A1 l1.length c1 (l1.flatMap Rng.cells) rfl (flatMap_len Rng.cells 2 (fun _=>rfl) l1) (CL.out _ _ _ _ H1.out hB2) (Rng.one l1) (by simp;omega) (by unfold maxLen;simp;omega) (by omega) ?_;intro A3 c3 w3 hO3 hg3;have HO3:=Lib.hid hO3;clear hO3)
     go_roundw
     case rel=>exact ⟨1,l1,A3,c3,by omega,rfl,by simp,Lib.hid rfl,Lib.hid (by simpa using HO3.out),Grew.step hB2 hg3 (fun x hx=>(HO2.out.lt x hx).1),hB3.trans (hg3.below (by omega) (fun x hx=>by have:=(HO2.out.lt x hx).1;omega))⟩
     case measure=>simp [intOf]
    ·by_cases k1:k=1
     ·subst k1
      obtain rfl:l=l1:=HL.out
      go_wp2_with (at_builtin;refine wp_app _ rfl _ _ _ rfl elemRng w.heap.size A2' _ c2' _ rfl HO2.out A2 l2.length c2 (l2.flatMap Rng.cells) rfl (flatMap_len Rng.cells 2 (fun _=>rfl) l2) (CL.out _ _ _ _ H2.out hB2) (Rng.one l2) (by omega) (by unfold maxLen;omega) (by omega) ?_;intro A3 c3 w3 hO3 hg3;have HO3:=Lib.hid hO3;clear hO3)
      go_roundw
      case rel=>exact ⟨2,l ++ l2,A3,c3,by omega,rfl,by rw [List.length_append],Lib.hid rfl,Lib.hid (by rw [List.length_append,List.flatMap_append];exact HO3.out),Grew.step hB2 hg3 (fun x hx=>(HO2.out.lt x hx).1),hB3.trans (hg3.below (by omega) (fun x hx=>by have:=(HO2.out.lt x hx).1;omega))⟩
      case measure=>simp [intOf]
     ·obtain rfl:k=2:=by omega
      obtain rfl:l=l1 ++ l2:=HL.out
      clear HL
      go_wp2
      go_ret
      exact ⟨A2',c2',rfl,HO2.out,hB2⟩
end Go.Proofs.Ytdldfllllgogoaa
namespace Go.Proofs.Ytdldfllllgogoaa
section
variable {P:Program} {ops:Array Oper} {Q:Exit→Act→World→Prop} {md:Region.Mode} {S:World→Prop} {late:List Nat}
/-- none of the late operations has come up -/
def early (late:List Nat) (listed:Array Bool):Bool:=late.all fun k=>!listed.getD k true
/-- Whatever order is picked from here on, and S holds behind every operation, as long as no late one has come up. -/
def wpAnyT (P:Program) (md:Region.Mode) (ops:Array Oper) (Q:Exit→Act→World→Prop) (S:World→Prop) (late:List Nat):Nat→Array Bool→Act→World→Prop
 | 0,listed,a,w=>Region.ready md ops listed=[]∧Q .normal a w
 | fuel+1,listed,a,w=>
  (Region.ready md ops listed=[]→Q .normal a w) ∧
  ∀ i ∈ Region.ready md ops listed,wpOp P ops Q i (fun a' w'=>(early late (listed.setIfInBounds i true)=true→S w')∧wpAnyT P md ops Q S late fuel (listed.setIfInBounds i true) a' w') a w
theorem wpAny_of_tail:∀ (fuel:Nat) (listed:Array Bool) (a:Act) (w:World),wpAnyT P md ops Q S late fuel listed a w→wpAny P md ops Q fuel listed a w
 | 0,_,_,_,h=>h
 | fuel+1,_,_,_,h=>⟨h.1,fun i hi=>wpOp_mono (fun a' w' h'=>wpAny_of_tail fuel _ a' w' h'.2) (h.2 i hi)⟩
/-- the operations B wait for i, one through the other; the late ones are among them -/
def Behind (md:Region.Mode) (ops:Array Oper) (i:Nat) (B:List Nat) (listed:Array Bool):Prop:=
 ∀ k,k ∈ B→listed.getD k true=false∧∃ ok,ops[k]? = some ok∧∃ e ∈ ok.after,Region.binds md e=true∧(e.on=i∨e.on ∈ B)
def behindB (md:Region.Mode) (ops:Array Oper) (i:Nat) (B:List Nat) (listed:Array Bool):Bool:=
 B.all fun k=>!listed.getD k true && match ops[k]? with
  | none=>false
  | some ok=>ok.after.any fun e=>Region.binds md e && (e.on == i || B.contains e.on)
theorem behind_of {i:Nat} {B:List Nat} {listed:Array Bool} (h:behindB md ops i B listed=true):Behind md ops i B listed:=by
 intro k hk
 have h1:=List.all_eq_true.1 h k hk
 simp only [Bool.and_eq_true,Bool.not_eq_true'] at h1
 refine ⟨h1.1,?_⟩
 have h2:=h1.2
 cases ho:ops[k]? with
 | none=>rw [ho] at h2;cases h2
 | some ok=>
  rw [ho] at h2
  simp only at h2
  obtain ⟨e,he,hb⟩:=Array.any_eq_true'.1 h2
  simp only [Bool.and_eq_true,Bool.or_eq_true,beq_iff_eq,List.contains_iff_mem] at hb
  exact ⟨ok,rfl,e,he,hb.1,hb.2⟩
theorem getD_true_of {listed:Array Bool} {i:Nat} (h:listed.getD i true=false):listed.getD i false=false:=by
 rcases Nat.lt_or_ge i listed.size with h' | h'
 ·simp [h'] at h ⊢;exact h
 ·simp [Array.getElem?_eq_none h'] at h ⊢
theorem wpAnyT_first {i:Nat} {oi:Oper} {v:Value} {B:List Nat} (hi:ops[i]? = some oi) (hsel:∀ (j:Nat) (o:Oper) cs b,ops[j]? = some o→o.op≠.select cs b)
  (hQ:∀ c a w,Q (.panic c) (a.put oi.dst v) w→Q (.panic c) a w) (hlB:∀ k,k ∈ late→k ∈ B) (hiB:i ∉ B) :
  ∀ (fuel:Nat) (listed:Array Bool) (a:Act) (w:World),
   (∀ j oj,ops[j]? = some oj→j≠i→listed.getD j true=false→(∀ e ∈ oj.after,Region.binds md e=true→e.on≠i)→oi.apart ops oj=true) →
   i ∈ Region.ready md ops listed→Behind md ops i B listed→YieldsIf P ops S oi v a→S w →
   wpAnyT P md ops Q S late fuel (listed.setIfInBounds i true) (a.put oi.dst v) w→wpAnyT P md ops Q S late (fuel+1) listed a w:=by
 intro fuel
 induction fuel with
 | zero=>
  intro listed a w _ hr hB hy hS H
  refine ⟨fun h=>(by rw [h] at hr;cases hr),fun j hj=>?_⟩
  by_cases hji:j=i
  ·subst hji;exact hy.wpOp hi hS ⟨fun _=>hS,H⟩
  ·have:=ready_mono hj hji
   rw [H.1] at this
   cases this
 | succ fuel ih=>
  intro listed a w hfree hr hB hy hS H
  refine ⟨fun h=>(by rw [h] at hr;cases hr),fun j hj=>?_⟩
  by_cases hji:j=i
  ·subst hji;exact hy.wpOp hi hS ⟨fun _=>hS,H⟩
  ·have h1:=H.2 j (ready_mono hj hji)
   obtain ⟨hjun,oj,hoj,hall⟩:=mem_ready.1 hj
   have hiun:=(mem_ready.1 hr).1
   have hnot:∀ e ∈ oj.after,Region.binds md e=true→e.on≠i:=fun e he hb heq=>by
    have h1:=hall e he hb
    rw [heq,getD_true_of hiun] at h1
    cases h1
   have hjB:j ∉ B:=fun hm=>by
    obtain ⟨_,ok,hok,e,he,hb,hon⟩:=hB j hm
    rw [hoj] at hok
    cases hok
    rcases hon with hon | hon
    ·exact hnot e he hb hon
    ·have h1:=hall e he hb
     rw [getD_true_of (hB e.on hon).1] at h1
     cases h1
   have hB':Behind md ops i B (listed.setIfInBounds j true):=fun k hk=>by
    obtain ⟨h0,h2⟩:=hB k hk
    refine ⟨?_,h2⟩
    rw [getD_set_ne true (by intro e;subst e;exact hjB hk)]
    exact h0
   have hearly:early late ((listed.setIfInBounds i true).setIfInBounds j true)=true:=by
    unfold early
    rw [List.all_eq_true]
    intro k hk
    have hkB:=hlB k hk
    rw [getD_set_ne true (by intro e;subst e;exact hjB hkB),getD_set_ne true (by intro e;subst e;exact hiB hkB),(hB k hkB).1]
    rfl
   have h2:=wpOp_putIf hoj (hfree j oj hoj hji hjun hnot) (fun cs b=>hsel i oi cs b hi) (fun cs b=>hsel j oj cs b hoj) hQ hy h1
   have hfree':∀ k ok,ops[k]? = some ok→k≠i→(listed.setIfInBounds j true).getD k true=false →
     (∀ e ∈ ok.after,Region.binds md e=true→e.on≠i)→oi.apart ops ok=true:=fun k ok hk hki hun hno=>by
    refine hfree k ok hk hki ?_ hno
    by_cases hjk:j=k
    ·subst hjk;exact hjun
    ·rw [getD_set_ne true hjk] at hun;exact hun
   refine wpOp_mono (fun a' w' h3=>⟨fun _=>h3.2.1 hearly,ih (listed.setIfInBounds j true) a' w' hfree' (ready_mono hr (Ne.symm hji)) hB' h3.1 (h3.2.1 hearly) ?_⟩) h2
   rw [Array.setIfInBounds_comm _ _ hji]
   exact h3.2.2
/-- Number i is taken first: B: operations that wait for i, one through the other, the late ones among them. -/
theorem wpAnyT_take {i:Nat} {oi:Oper} {v:Value} (B:List Nat) {fuel:Nat} {listed:Array Bool} {a:Act} {w:World} (hi:ops[i]? = some oi)
  (hs:Region.noSelect ops=true) (hf:Region.free md ops listed i=true) (hr:(Region.ready md ops listed).contains i=true)
  (hB:(behindB md ops i B listed && late.all (fun k=>B.contains k) && !B.contains i)=true)
  (hQ:∀ c a w,Q (.panic c) (a.put oi.dst v) w→Q (.panic c) a w) (hy:YieldsIf P ops S oi v a) (hS:S w)
  (h:wpAnyT P md ops Q S late fuel (listed.setIfInBounds i true) (a.put oi.dst v) w):wpAnyT P md ops Q S late (fuel+1) listed a w:=by
 simp only [Bool.and_eq_true,Bool.not_eq_true'] at hB
 refine wpAnyT_first hi (Region.noSelect_spec hs) hQ (B:=B) (fun k hk=>?_) (fun hm=>?_) fuel listed a w (Region.free_spec hi hf) (by simpa using hr) (behind_of hB.1.1) hy hS h
 ·have:=List.all_eq_true.1 hB.1.2 k hk
  simpa using this
 ·have:=hB.2
  rw [List.contains_iff_mem.2 hm] at this
  cases this
/-- What yields in whatever world is taken first, whoever waits for it: S is asked of nobody. -/
theorem wpAnyT_pure {i:Nat} {oi:Oper} {v:Value} {fuel:Nat} {listed:Array Bool} {a:Act} {w:World} (hi:ops[i]? = some oi)
  (hs:Region.noSelect ops=true) (hf:Region.free md ops listed i=true) (hr:(Region.ready md ops listed).contains i=true)
  (hQ:∀ c a w,Q (.panic c) (a.put oi.dst v) w→Q (.panic c) a w) (hy:Yields P ops oi v a) (hS:early late (listed.setIfInBounds i true)=true→S w)
  (h:wpAnyT P md ops Q S late fuel (listed.setIfInBounds i true) (a.put oi.dst v) w) (hE:¬ i ∈ late):wpAnyT P md ops Q S late (fuel+1) listed a w:=by
 have hsel:=Region.noSelect_spec hs
 have key:∀ (fuel:Nat) (listed:Array Bool) (a:Act) (w:World),
   (∀ j oj,ops[j]? = some oj→j≠i→listed.getD j true=false→(∀ e ∈ oj.after,Region.binds md e=true→e.on≠i)→oi.apart ops oj=true) →
   i ∈ Region.ready md ops listed→Yields P ops oi v a→(early late (listed.setIfInBounds i true)=true→S w) →
   wpAnyT P md ops Q S late fuel (listed.setIfInBounds i true) (a.put oi.dst v) w→wpAnyT P md ops Q S late (fuel+1) listed a w:=by
  intro fuel
  induction fuel with
  | zero=>
   intro listed a w _ hr hy hS H
   refine ⟨fun h=>(by rw [h] at hr;cases hr),fun j hj=>?_⟩
   by_cases hji:j=i
   ·subst hji;exact hy.yieldsIf.wpOp (S:=fun _=>True) hi trivial ⟨hS,H⟩
   ·have:=ready_mono hj hji
    rw [H.1] at this
    cases this
  | succ fuel ih=>
   intro listed a w hfree hr hy hS H
   refine ⟨fun h=>(by rw [h] at hr;cases hr),fun j hj=>?_⟩
   by_cases hji:j=i
   ·subst hji;exact hy.yieldsIf.wpOp (S:=fun _=>True) hi trivial ⟨hS,H⟩
   ·have h1:=H.2 j (ready_mono hj hji)
    obtain ⟨hjun,oj,hoj,hall⟩:=mem_ready.1 hj
    have hiun:=(mem_ready.1 hr).1
    have hnot:∀ e ∈ oj.after,Region.binds md e=true→e.on≠i:=fun e he hb heq=>by
     have h1:=hall e he hb
     rw [heq,getD_true_of hiun] at h1
     cases h1
    have h2:=wpOp_putIf (S:=fun _=>True) hoj (hfree j oj hoj hji hjun hnot) (fun cs b=>hsel i oi cs b hi) (fun cs b=>hsel j oj cs b hoj) hQ hy.yieldsIf h1
    have hfree':∀ k ok,ops[k]? = some ok→k≠i→(listed.setIfInBounds j true).getD k true=false →
      (∀ e ∈ ok.after,Region.binds md e=true→e.on≠i)→oi.apart ops ok=true:=fun k ok hk hki hun hno=>by
     refine hfree k ok hk hki ?_ hno
     by_cases hjk:j=k
     ·subst hjk;exact hjun
     ·rw [getD_set_ne true hjk] at hun;exact hun
    have hear:early late ((listed.setIfInBounds i true).setIfInBounds j true)=early late (listed.setIfInBounds j true):=by
     unfold early
     rw [Bool.eq_iff_iff,List.all_eq_true,List.all_eq_true]
     have one:∀ k,k ∈ late→((listed.setIfInBounds i true).setIfInBounds j true).getD k true=(listed.setIfInBounds j true).getD k true:=fun k hk=>by
      rw [Array.setIfInBounds_comm _ _ (Ne.symm hji),getD_set_ne true (by intro e;subst e;exact hE hk)]
     exact ⟨fun h k hk=>by rw [← one k hk];exact h k hk,fun h k hk=>by rw [one k hk];exact h k hk⟩
    refine wpOp_mono (fun a' w' h3=>⟨fun he=>h3.2.1 (hear.trans he),ih (listed.setIfInBounds j true) a' w' hfree' (ready_mono hr (Ne.symm hji)) ?_ (fun he=>h3.2.1 (by rw [Array.setIfInBounds_comm _ _ hji] at *;exact he)) ?_⟩) h2
    ·rcases h3.1 with ⟨h4,h5⟩ | ⟨h4,h5⟩
     ·exact .inl ⟨h4,fun w=>h5 w trivial⟩
     ·exact .inr ⟨h4,h5⟩
    ·rw [Array.setIfInBounds_comm _ _ hji]
     exact h3.2.2
 exact key fuel listed a w (Region.free_spec hi hf) (by simpa using hr) hy hS h
/-- One operation alone may come up. -/
theorem wpAnyT_next {i:Nat} {o:Oper} {fuel:Nat} {listed:Array Bool} {a:Act} {w:World} (hr:Region.ready md ops listed=[i]) (ho:ops[i]? = some o)
  (h:∀ K:Act→World→Prop,Shut (∀ a w,(early late (listed.setIfInBounds i true)=true→S w)→wpAnyT P md ops Q S late fuel (listed.setIfInBounds i true) a w→K a w)→if Region.wanted o (yielded ops a.tmps)=true then Oper.wp P o a w K Q else K (a.put o.dst undef) w) :
  wpAnyT P md ops Q S late (fuel+1) listed a w:=by
 refine ⟨fun h0=>(by rw [hr] at h0;cases h0),fun j hj=>?_⟩
 rw [hr,List.mem_singleton] at hj
 subst hj
 exact wpOp_step ho (fun K' hK=>h K' (fun a w hS hW=>hK a w ⟨hS,hW⟩))
theorem wpAnyT_done {listed:Array Bool} {a:Act} {w:World} (hr:Region.ready md ops listed=[]) (h:Q .normal a w):∀ fuel,wpAnyT P md ops Q S late fuel listed a w
 | 0=>⟨hr,h⟩
 | _+1=>⟨fun _=>h,by rw [hr];simp⟩
theorem wp_region_tail (late:List Nat) (S:World→Prop) {id:Nat} {a:Act} {w:World} (hm:P.follows .mixedOrders=true) (hS:S w.drew)
  (h:S w.drew→wpAnyT P .any ops Q S late ops.size (Array.replicate ops.size false) a w.drew):(Code.region id ops true).wp P Q a w:=
 wp_region_any hm (wpAny_of_tail _ _ _ _ (h hS))
end
end Go.Proofs.Ytdldfllllgogoaa
