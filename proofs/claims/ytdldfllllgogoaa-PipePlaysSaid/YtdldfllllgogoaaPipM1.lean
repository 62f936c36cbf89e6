/- Texts in one: Lib, Types, Own, Own2, Rngs, Bytes, Sl, Lists, Add3. No condition. -/
import Derived.Test.YtdldfllllgogoaaRows
import Derived.WalkKit
import Derived.WalkSpells
import Derived.WalkLawsBesides
import Derived.ProofKit
import Derived.OpenShut
import Derived.SizedLaws
import Derived.Lib.Hide
import Derived.Maps.AppendAt
import Derived.Deep.AppendLies
import Derived.Deep.Draws
import Derived.RegionTactic
import Derived.OwnWalk
import Derived.LoopTactic
import Derived.Deep.QuietTactic
import Derived.BigQuiet
import Derived.Deep.RegionHeld3
import Derived.Lib.SliceRun
import Derived.Lib.AppendZerosOnto
namespace Go.Proofs.Ytdldfllllgogoaa
open Go.RowKit Go.WideShapes Go.ChangeShapes Go.ChangeAt
/-! ### Small facts on worlds -/
theorem bcell {W w1:World} (hb:Below W.heap.size W w1):(∀ b o,b<W.heap.size→w1.cell? ⟨b,o,none⟩=W.cell? ⟨b,o,none⟩)∧(∀ b o,b<W.heap.size→w1.frozen? ⟨b,o,none⟩=W.frozen? ⟨b,o,none⟩)∧(∀ k,k<W.heap.size→k<w1.heap.size)∧W.heap.size≤w1.heap.size:=
 ⟨fun b o h=>hb.cell (p:=⟨b,o,none⟩) h,fun b o h=>hb.frozen (p:=⟨b,o,none⟩) h,fun _ hk=>Nat.lt_of_lt_of_le hk hb.size,hb.size⟩
theorem bnext {w W W1:World} (h:Below w.heap.size w W) (hb:Below W.heap.size W W1):Below w.heap.size w W1:=h.trans (hb.mono h.size)
theorem bself (w:World):Below w.heap.size w w:=Below.refl _ _
theorem balloc {w W:World} (h:Below w.heap.size w W) (o:Obj):Below w.heap.size w (W.alloc o):=h.alloc h.size o
theorem bset {w W:World} (h:Below w.heap.size w W) {b o:Nat} (hb:w.heap.size≤b) (u:Value):Below w.heap.size w (W.setCell ⟨b,o,none⟩ u):=h.setCell (p:=⟨b,o,none⟩) hb u
theorem bdrewN {B:Nat} {a w:World} (h:Below B a w) (n:Nat):Below B a (w.drewN n):=⟨h.os,h.tape,h.output,h.size,h.block⟩
theorem size_drewN (w:World) (n:Nat):(w.drewN n).heap.size=w.heap.size:=rfl
theorem isSome_setCell (w:World) (a b:Addr) (v:Value):((w.setCell a v).cell? b).isSome=(w.cell? b).isSome:=by
 simp only [World.setCell,World.cell?,Array.getElem?_modify]
 by_cases hb:a.block=b.block
 ·simp only [hb,if_true]
  cases hh:w.heap[b.block]? with
  | none=>simp
  | some x=>
   cases x <;> simp
   rename_i c e f
   by_cases hs:b.spot.isSome=true <;> by_cases ha:a.spot.isSome=true <;> simp [hs,ha]
   by_cases hl:b.off<c.size
   ·simp [hl]
   ·simp [hl]
 ·simp [hb]
theorem setCell_twice (w:World) (a:Addr) (u v:Value):(w.setCell a u).setCell a v=w.setCell a v:=by
 unfold World.setCell
 congr 1
 apply Array.ext_getElem?
 intro i
 simp only [Array.getElem?_modify]
 by_cases h:a.block=i
 ·simp only [h,if_true]
  cases w.heap[i]? with
  | none=>rfl
  | some x=>
   cases x <;> simp
   by_cases hs:a.spot.isSome=true <;> simp [hs]
 ·simp [h]
attribute [go_sem] isSome_setCell setCell_twice
/-! ### Ends of walks -/
theorem ret_bool {a b:Bool} (h:a=b):Ending.returned (.bool a)=.returned (.bool b):=by rw [h]
theorem ret_int {k:IntKind} {a b:Int} (h:a=b):Ending.returned (.int k a)=.returned (.int k b):=by rw [h]
theorem ret2_int {k l:IntKind} {a b c d:Int} (h:a=b) (h':c=d):Ending.returned (.tuple #[.int k a,.int l c])=.returned (.tuple #[.int k b,.int l d]):=by rw [h,h']
theorem ret2_bool {l:IntKind} {a b:Bool} {c d:Int} (h:a=b) (h':c=d):Ending.returned (.tuple #[.bool a,.int l c])=.returned (.tuple #[.bool b,.int l d]):=by rw [h,h']
/-! ### A reading of cells as a Lean value: 'S' bounds the blocks that it leads to. -/
structure Rep (α:Type) where
 size:Nat
 rep:World→(Nat→Prop)→α→List Value→Prop
 bulk:α→Nat
 len:∀ {w S a cs},rep w S a cs→cs.length=size
 mono:∀ {w w' S S' a cs},rep w S a cs→(∀ k,S k→S' k∧w'.heap[k]? = w.heap[k]?)→rep w' S' a cs
namespace Rep
def int:Rep Int:=⟨1,fun _ _ n cs=>cs=[.int .i64 n],fun _=>1,fun h=>by subst h;rfl,fun h _=>h⟩
def u8:Rep UInt8:=⟨1,fun _ _ n cs=>cs=[.int .u8 n.toNat],fun _=>1,fun h=>by subst h;rfl,fun h _=>h⟩
def bool:Rep Bool:=⟨1,fun _ _ n cs=>cs=[.bool n],fun _=>1,fun h=>by subst h;rfl,fun h _=>h⟩
def str:Rep ByteArray:=⟨1,fun _ _ n cs=>cs=[.string n],fun s=>s.size+1,fun h=>by subst h;rfl,fun h _=>h⟩
def unit:Rep Unit:=⟨0,fun _ _ _ cs=>cs=[],fun _=>0,fun h=>by subst h;rfl,fun h _=>h⟩
def pair {α β:Type} (R:Rep α) (T:Rep β):Rep (α × β):=
 ⟨R.size+T.size,fun w S a cs=>∃ c d,cs=c ++ d∧R.rep w S a.1 c∧T.rep w S a.2 d,fun a=>R.bulk a.1+T.bulk a.2,
  fun ⟨c,d,e,h1,h2⟩=>by rw [e,List.length_append,R.len h1,T.len h2],
  fun ⟨c,d,e,h1,h2⟩ hk=>⟨c,d,e,R.mono h1 hk,T.mono h2 hk⟩⟩
def via {α β:Type} (f:α→β) (R:Rep β):Rep α:=
 ⟨R.size,fun w S a cs=>R.rep w S (f a) cs,fun a=>R.bulk (f a),fun h=>R.len h,fun h hk=>R.mono h hk⟩
/-- the elements of a slice from an address on -/
def at_ {α:Type} (R:Rep α) (w:World) (S:Nat→Prop) (b o:Nat) (l:List α):Prop:=
 ∀ i a,l[i]? = some a→∃ cs,R.rep w S a cs∧∀ j u,cs[j]? = some u→w.cell? ⟨b,o+i * R.size+j,none⟩=some u
def slice {α:Type} (R:Rep α):Rep (List α):=
 ⟨1,fun w S l cs=>∃ A c,cs=[.slice A l.length c]∧l.length≤c∧c≤maxLen∧(l=[]∨∃ b o,A=some ⟨b,o,none⟩∧S b∧R.at_ w S b o l),fun l=>(l.map R.bulk).sum+1,
  fun ⟨_,_,e,_⟩=>by subst e;rfl,
  fun ⟨A,c,e,h1,h2,h3⟩ hk=>⟨A,c,e,h1,h2,h3.imp id fun ⟨b,o,e,hb,h⟩=>⟨b,o,e,(hk b hb).1,fun i a hi=>
   let ⟨cs,h4,h5⟩:=h i a hi
   ⟨cs,R.mono h4 hk,fun j u hu=>(World.cell?_of_block (hk b hb).2).trans (h5 j u hu)⟩⟩⟩⟩
end Rep
/-! ### Opened from the form's reading -/
/-- every reading of type t is a reading by R, and is 'ok' -/
structure Opens (P:Program) {α:Type} (R:Rep α) (ok:α→Prop) (t:TypeId):Prop where
 one:P.cellsOf t=R.size
 two:∀ {H:Type} {enc:TypeId × Value→H} {w:World} {base:Nat} {sp:Nat→Bool} {held:Bool} {fuel:Nat} {cs:List Value} {x:DataW H × List MemPlace},
  DataW.trod enc P w base sp held fuel t cs=some x→(∀ n,n ∈ x.1.weights P t→n≤reachBytes)→∃ a,R.rep w (· < w.heap.size) a cs∧ok a∧R.bulk a≤Rows.uptoBulk x.1
def IntOk (n:Int):Prop:=-9223372036854775808≤n∧n≤9223372036854775807
def StrOk (s:ByteArray):Prop:=s.size≤140737488351232
/-- every element is ok, and the whole is within the form's reach, 'bytes' an element -/
def AllOk {α:Type} (bytes:Nat) (ok:α→Prop) (l:List α):Prop:=(∀ a,a ∈ l→ok a)∧l.length * bytes≤140737488351232
def PairOk {α β:Type} (o1:α→Prop) (o2:β→Prop) (x:α × β):Prop:=o1 x.1∧o2 x.2
def AnyOk {α:Type} (_:α):Prop:=True
section
variable {P:Program}
theorem opens_int {t:TypeId} (ht:P.underlying t=some (.int .i64)) (hc:P.cellsOf t=1):Opens P Rep.int IntOk t:=by
 refine ⟨hc,fun h _=>?_⟩
 obtain ⟨n,rfl,rfl,hw⟩:=DataW.trod_int ht h
 exact ⟨n,rfl,by simpa [IntOk,Lit.wf,IntKind.min,IntKind.max,IntKind.signed,IntKind.bits] using hw,by simp [Rows.uptoBulk,Rep.int]⟩
theorem opens_u8 {t:TypeId} (ht:P.underlying t=some (.int .u8)) (hc:P.cellsOf t=1):Opens P Rep.u8 AnyOk t:=by
 refine ⟨hc,fun h _=>?_⟩
 obtain ⟨n,rfl,rfl,hw⟩:=DataW.trod_int ht h
 have hb:0≤n∧n≤255:=by simpa [Lit.wf,IntKind.min,IntKind.max,IntKind.signed,IntKind.bits] using hw
 refine ⟨UInt8.ofNat n.toNat,?_,trivial,by simp [Rows.uptoBulk,Rep.u8]⟩
 have:((UInt8.ofNat n.toNat).toNat:Int)=n:=by
  rw [UInt8.toNat_ofNat'];omega
 show _=[Value.int .u8 _]
 rw [this]
theorem opens_bool {t:TypeId} (ht:P.underlying t=some .bool) (hc:P.cellsOf t=1):Opens P Rep.bool AnyOk t:=by
 refine ⟨hc,fun h _=>?_⟩
 obtain ⟨n,rfl,rfl,_⟩:=DataW.trod_bool ht h
 exact ⟨n,rfl,trivial,by simp [Rows.uptoBulk,Rep.bool]⟩
theorem opens_str {t:TypeId} (ht:P.underlying t=some .string) (hc:P.cellsOf t=1):Opens P Rep.str StrOk t:=by
 refine ⟨hc,fun h hs=>?_⟩
 obtain ⟨s,rfl,rfl,_⟩:=DataW.trod_string ht h
 refine ⟨s,rfl,?_,by simp only [Rows.uptoBulk,Rep.str,Array.length_toList];exact Nat.le_refl _⟩
 have:=hs s.data.toList.length (by simp [DataW.weights])
 unfold reachBytes at this
 unfold StrOk
 have e:s.data.toList.length=s.size:=by rw [Array.length_toList];rfl
 omega
/-- the fields of a struct, one behind the other -/
structure OpensF (P:Program) {α:Type} (R:Rep α) (ok:α→Prop) (k:Nat) (fs:List Field):Prop where
 out:∀ {H:Type} {enc:TypeId × Value→H} {w:World} {base:Nat} {sp:Nat→Bool} {held:Bool} {n:Nat} {cs:List Value} (xs:List (DataW H × List MemPlace)),
  cs.length=k+R.size→(∀ (i:Nat) (f:Field),fs[i]? = some f→DataW.trod enc P w base sp held n f.type ((cs.drop f.offset).take (P.cellsOf f.type))=xs[i]?)→xs.length=fs.length →
  (∀ n,n ∈ DataW.weightsEach P (fs.map (·.type)) (xs.map (·.1))→n≤reachBytes)→∃ a,R.rep w (· < w.heap.size) a (cs.drop k)∧ok a∧R.bulk a≤Rows.uptoBulkAll (xs.map (·.1))
theorem opensF_nil (k:Nat):OpensF P Rep.unit AnyOk k []:=by
 constructor
 intro H enc w base sp held n cs xs hl _ _ _
 exact ⟨(),List.drop_eq_nil_of_le (by rw [hl];simp [Rep.unit]),trivial,by simp [Rep.unit]⟩
theorem opensF_cons {α β:Type} {R:Rep α} {T:Rep β} {o1:α→Prop} {o2:β→Prop} {k:Nat} {f:Field} {fs:List Field} (h1:Opens P R o1 f.type) (hk:f.offset=k) (h2:OpensF P T o2 (k+R.size) fs) :
  OpensF P (Rep.pair R T) (PairOk o1 o2) k (f :: fs):=by
 constructor
 intro H enc w base sp held n cs xs hl hx hxl hw
 have hl':cs.length=k+R.size+T.size:=by rw [hl];simp only [Rep.pair];omega
 match xs,hxl with
 | x :: xs',hxl=>
  have e0:=hx 0 f rfl
  simp only [List.getElem?_cons_zero] at e0
  simp only [List.map_cons,DataW.weightsEach,List.mem_append] at hw
  obtain ⟨a,ha,hao,hab⟩:=h1.two e0 (fun m hm=>hw m (.inl hm))
  obtain ⟨b,hb,hbo,hbb⟩:=h2.out (n:=n) (enc:=enc) (w:=w) (base:=base) (sp:=sp) (held:=held) (cs:=cs) xs' hl' (fun i g hg=>by
   have:=hx (i+1) g (by simpa using hg)
   simpa using this) (by simpa using hxl) (fun m hm=>hw m (.inr hm))
  refine ⟨(a,b),⟨_,_,?_,ha,hb⟩,⟨hao,hbo⟩,by simp only [List.map_cons,Rows.uptoBulkAll,Rep.pair];omega⟩
  rw [hk,h1.one,← List.drop_drop]
  exact (List.take_append_drop _ _).symm
theorem opens_struct {α:Type} {R:Rep α} {ok:α→Prop} {t:TypeId} {fs:Array Field} (ht:P.underlying t=some (.struct fs)) (hc:P.cellsOf t=R.size) (h:OpensF P R ok 0 fs.toList):Opens P R ok t:=by
 refine ⟨hc,fun hd hw=>?_⟩
 obtain ⟨xs,n,_,rfl,hlen,hxl,hf⟩:=DataW.trod_struct ht hd
 simp only [DataW.weights,ht] at hw
 obtain ⟨a,ha,hao,hab⟩:=h.out (cs:=_) xs (by rw [hlen,hc];omega) (fun i f hi=>hf i f (by simpa using hi)) (by simpa using hxl) hw
 exact ⟨a,by simpa using ha,hao,by simp only [Rows.uptoBulk];omega⟩
theorem opens_via {α β:Type} {R:Rep β} {ok:β→Prop} {t:TypeId} (f:α→β) (g:β→α) (hfg:∀ b,f (g b)=b) (h:Opens P R ok t):Opens P (Rep.via f R) (fun a=>ok (f a)) t:=by
 refine ⟨h.one,fun hd hw=>?_⟩
 obtain ⟨b,hb,hbo,hbb⟩:=h.two hd hw
 exact ⟨g b,by simpa [Rep.via,hfg] using hb,by simpa [hfg] using hbo,by simpa [Rep.via,hfg] using hbb⟩
theorem opens_weak {α:Type} {R:Rep α} {ok ok':α→Prop} {t:TypeId} (h:Opens P R ok t) (hw:∀ a,ok a→ok' a):Opens P R ok' t:=
 ⟨h.one,fun hd hs=>let ⟨a,ha,ho,hb⟩:=h.two hd hs;⟨a,ha,hw _ ho,hb⟩⟩
theorem spot_none {w:World} {a:Addr} {v:Value} (h:w.cell? a=some v):a.spot=none:=by
 unfold World.cell? at h
 split at h
 ·split at h
  ·cases h
  ·rename_i hs;simpa using hs
 ·cases h
theorem bulk_app {H:Type} (l r:List (DataW H)):Rows.uptoBulkAll (l ++ r)=Rows.uptoBulkAll l+Rows.uptoBulkAll r:=by
 induction l with
 | nil=>simp [Rows.uptoBulkAll]
 | cons x l ih=>simp only [List.cons_append,Rows.uptoBulkAll,ih];omega
theorem mem_weightsAll {H:Type} (e:TypeId) {d:DataW H} {l:List (DataW H)} (h:d ∈ l) {n:Nat} (hn:n ∈ d.weights P e):n ∈ DataW.weightsAll P e l:=by
 induction l with
 | nil=>cases h
 | cons x r ih=>
  simp only [DataW.weightsAll,List.mem_append]
  rcases List.mem_cons.1 h with rfl | h
  ·exact .inl hn
  ·exact .inr (ih h)
theorem opens_slice {α:Type} {R:Rep α} {ok:α→Prop} {t e:TypeId} {bytes:Nat} (ht:P.underlying t=some (.slice e)) (hc:P.cellsOf t=1) (hpos:0<R.size) (hby:P.bytesOf e=bytes) (h:Opens P R ok e):Opens P (Rep.slice R) (AllOk bytes ok) t:=by
 refine ⟨hc,fun {H enc w base sp held fuel cs x} hd hw=>?_⟩
 rcases DataW.trod_slice ht hd with ⟨rfl,rfl⟩ | ⟨a,len,cap,elems,rest,n,_,rfl,rfl,hb,hl,hm,hlen,hel,_⟩
 ·exact ⟨[],⟨none,0,rfl,Nat.le_refl _,Nat.zero_le _,.inl rfl⟩,⟨(fun a ha=>by cases ha),by simp⟩,by simp [Rep.slice,Rows.uptoBulk]⟩
 ·simp only [DataW.weights,ht,List.mem_cons,List.mem_append] at hw
  have hreach:len * bytes≤140737488351232:=by
   have h1:=hw _ (.inl rfl)
   rw [hby] at h1
   simp only [List.length_map,reachBytes] at h1
   have h2:len * bytes≤(elems.length+rest.length) * bytes:=Nat.mul_le_mul_right _ (by omega)
   omega
  have hone:∀ i (hi:i<len),∃ y cs',R.rep w (· < w.heap.size) y cs'∧ok y∧R.bulk y≤Rows.uptoBulk (elems[i]'(by omega)).1∧∀ j u,cs'[j]? = some u→w.cell? (a.add (i * R.size+j))=some u:=by
   intro i hi
   have h1:=hel i hi
   rw [h.one] at h1
   have h2:elems[i]? = some (elems[i]'(by omega)):=List.getElem?_eq_getElem (by omega)
   rw [h2] at h1
   obtain ⟨cs',hcs,ht'⟩:=Option.bind_eq_some_iff.1 h1
   obtain ⟨y,hy,hyo,hyb⟩:=h.two ht' (fun m hm=>hw m (.inr (.inl (mem_weightsAll e (List.mem_map.2 ⟨_,List.getElem_mem _,rfl⟩) hm))))
   obtain ⟨_,hcl,hat⟩:=World.cells?_some hcs
   refine ⟨y,cs',hy,hyo,hyb,fun j u hu=>?_⟩
   have hj:j<cs'.length:=(List.getElem?_eq_some_iff.1 hu).1
   have:=hat j (by omega)
   rw [hu] at this
   rw [← this]
   congr 1
   unfold Addr.add
   by_cases c1:i * R.size=0 <;> by_cases c2:j=0 <;> simp [c1,c2,Nat.add_assoc]
  rcases Nat.eq_zero_or_pos len with h0 | h0
  ·subst h0
   exact ⟨[],⟨some a,cap,rfl,Nat.zero_le _,hm,.inl rfl⟩,⟨(fun a ha=>by cases ha),by simp⟩,by simp [Rep.slice,Rows.uptoBulk]⟩
  ·have hchoose:∀ m,m≤len→∃ l:List α,l.length=m∧(∀ a,a ∈ l→ok a)∧(l.map R.bulk).sum≤Rows.uptoBulkAll ((elems.take m).map (·.1))∧∀ i y,l[i]? = some y→∃ cs',R.rep w (· < w.heap.size) y cs'∧∀ j u,cs'[j]? = some u→w.cell? (a.add (i * R.size+j))=some u:=by
    intro m
    induction m with
    | zero=>exact fun _=>⟨[],rfl,fun _ hm=>(List.not_mem_nil hm).elim,by simp,fun i y hy=>by simp at hy⟩
    | succ m ih=>
     intro hml
     obtain ⟨l,hl1,hl2,hlb,hl3⟩:=ih (by omega)
     obtain ⟨y,cs',hy,hyo,hyb,hcell⟩:=hone m (by omega)
     refine ⟨l ++ [y],by simp [hl1],fun z hz=>?_,by rw [List.take_succ_eq_append_getElem (by omega),List.map_append,List.map_append,bulk_app,List.sum_append];simp only [List.map_cons,List.map_nil,List.sum_cons,List.sum_nil,Rows.uptoBulkAll];omega,fun i z hz=>?_⟩
     ·rcases List.mem_append.1 hz with hz | hz
      ·exact hl2 z hz
      ·rw [List.mem_singleton.1 hz];exact hyo
     ·by_cases hi:i<m
      ·rw [List.getElem?_append_left (by omega)] at hz
       exact hl3 i z hz
      ·have hi':i=m:=by
        have:=(List.getElem?_eq_some_iff.1 hz).1
        simp [hl1] at this
        omega
       subst hi'
       rw [List.getElem?_append_right (by omega),hl1] at hz
       simp at hz
       subst hz
       exact ⟨cs',hy,hcell⟩
   obtain ⟨l,hl1,hl2,hlb,hl3⟩:=hchoose len (Nat.le_refl _)
   rw [List.take_of_length_le (by omega)] at hlb
   have hsp:a.spot=none:=by
    have h2:l[0]? = some (l[0]'(by omega)):=List.getElem?_eq_getElem (by omega)
    obtain ⟨cs',hr,hcell⟩:=hl3 0 _ h2
    have hlr:=R.len hr
    have:=hcell 0 _ (List.getElem?_eq_getElem (by omega))
    simpa [Addr.add] using spot_none this
   obtain ⟨ab,ao,sp0⟩:=a
   simp only at hsp
   subst hsp
   have hadd:∀ n,(⟨ab,ao,none⟩:Addr).add n=⟨ab,ao+n,none⟩:=fun n=>by unfold Addr.add;split <;> simp_all
   have hblk:ab<w.heap.size:=by
    have h2:l[0]? = some (l[0]'(by omega)):=List.getElem?_eq_getElem (by omega)
    obtain ⟨cs',hr,hcell⟩:=hl3 0 _ h2
    have hlr:=R.len hr
    have:=World.block_lt_of_cell? w _ (hcell 0 _ (List.getElem?_eq_getElem (by omega)))
    rw [hadd] at this
    exact this
   refine ⟨l,⟨some ⟨ab,ao,none⟩,cap,by rw [hl1],by omega,hm,.inr ⟨ab,ao,rfl,hblk,fun i y hy=>?_⟩⟩,⟨hl2,by rw [hl1];exact hreach⟩,by simp only [Rep.slice,Rows.uptoBulk];omega⟩
   obtain ⟨cs',hr,hcell⟩:=hl3 i y hy
   refine ⟨cs',hr,fun j u hu=>?_⟩
   have:=hcell j u hu
   rw [hadd] at this
   rw [Nat.add_assoc]
   exact this
/-- what is read before the call, argument by argument, is within the form's reach -/
theorem reach_of {H:Type} {ts:List TypeId} {ds:List (DataW H)} (h:(DataW.weightsEach P ts ds).all (· ≤ reachBytes)=true) {j:Nat} {t:TypeId} {d:DataW H} (ht:ts[j]? = some t) (hd:ds[j]? = some d):∀ n,n ∈ d.weights P t→n≤reachBytes:=
 fun n hn=>by simpa using List.all_eq_true.1 h n (DataW.weights_mem_each ht hd n hn)
end
/-! ### The last step of a law's row -/
section
variable {H:Type} {enc:TypeId × Value→H} {P:Program}
theorem trodAll_stays (hl:laidOutB P=true) {W W':World} {sp':Nat→Bool}:∀ (ts:List TypeId) (vs:List Value) (ds:List (DataW H)) (ps:List MemPlace),
  (∀ t,t ∈ ts→P.readableRec t=true∧t<P.types.size)→DataW.TrodAll enc P W 0 (fun _=>true) true ts vs ds ps→(∀ p ∈ ps,W.sameAt W' p)→(∀ p ∈ ps,sp' p.block=true) →
  DataW.TrodAll enc P W' 0 sp' true ts vs ds ps
 | [],vs,ds,ps,_,h,_,_=>by
  obtain ⟨rfl,rfl,rfl⟩:=trodAll_nil h
  rfl
 | t :: ts,vs,ds,ps,hr,h,hs,hsp=>by
  obtain ⟨v,vs',d,ds',p,q,rfl,rfl,rfl,h1,h2⟩:=trodAll_cons h
  exact ⟨p,q,WideElems.Trod_stays hl (hr t (by simp)).1 (hr t (by simp)).2 h1 (fun x hx=>hs x (by simp [hx])) (fun x hx=>hsp x (by simp [hx])),
   trodAll_stays hl ts vs' ds' q (fun u hu=>hr u (by simp [hu])) h2 (fun x hx=>hs x (by simp [hx])) (fun x hx=>hsp x (by simp [hx])),rfl⟩
theorem law_post {f:Func} {s:ChangeSpec} {W W':World} {args:Array Value} {ds gs:List (DataW H)} {before:List MemPlace} {T:TypeId}
  (hl:laidOutB P=true) (hrd:∀ t,t ∈ f.params.toList→P.readableRec t=true∧t<P.types.size) (hvars:s.vars=[]) (hres:f.resultTypes = #[T]) (hT:P.underlying T=some .bool)
  (hW:DataW.Whole enc P f.params.toList s.vars false W args.toList ds gs before)
  (hfn:s.fn H (ds ++ gs)={ results:=[.lit (.bool true)],args:=ds }) (hb:Below W.heap.size W W') :
  s.post enc P f false true false false W args (.bool true) W':=by
 have hlt:∀ p ∈ before,p.block<W.heap.size:=fun p hp=>hW.lt p hp
 have hW0:=hW
 obtain ⟨p,q,hA,hV,rfl,hz,hn⟩:=hW
 rw [hvars] at hV
 obtain ⟨rfl,rfl⟩:=trodVars_none hV
 rw [List.append_nil] at hfn
 have hold:∀ x ∈ p ++ [],(fun b=>decide (b<W.heap.size)) x.block=true:=fun x hx=>by simpa using hlt x hx
 have hsame:∀ x ∈ p,W.sameAt W' x:=fun x hx=>hb.same (hlt x (by simp [hx]))
 have hresl:((Value.bool true).resultList f.resultTypes.size)=[.bool true]:=by rw [hres];rfl
 have hok:∀ (j:Nat) (t:TypeId) (r:Value),f.resultTypes[j]? = some t→((Value.bool true).resultList f.resultTypes.size)[j]? = some r→Value.okWide P W' .any 0 t r:=ok_one hres rfl (okWide_bool_mk hT true)
 have hR:∀ (b:Nat) (sp:Nat→Bool) (hd:Bool),DataW.TrodAll enc P W' b sp hd f.resultTypes.toList ((Value.bool true).resultList f.resultTypes.size) (s.fn H (ds ++ [])).results []:=fun b sp hd=>by
  rw [List.append_nil,hfn,hresl,hres]
  exact trodAll_mk1 (shut_bool hT true)
 have hA':∀ sp:Nat→Bool,(∀ x ∈ p ++ [],sp x.block=true)→DataW.TrodAll enc P W' 0 sp true f.params.toList args.toList (s.fn H (ds ++ [])).args p:=fun sp hsp=>by
  rw [List.append_nil,hfn]
  exact trodAll_stays hl _ _ _ _ hrd hA hsame (fun x hx=>hsp x (by simp [hx]))
 have hV':∀ sp:Nat→Bool,DataW.TrodVars enc P W' sp s.vars (s.fn H (ds ++ [])).vars []:=fun sp=>by
  rw [List.append_nil,hfn,hvars]
  rfl
 refine ⟨ds,[],p ++ [],[],p,[],hW0,hR _ _ _,hA' _ hold,hV' _,World.keptBut_mono (fun x hx=>⟨hx,by simpa using hx⟩) (hb.frame (· ∈ p ++ [])),fun _=>?_⟩
 refine ⟨hok,_,_,([] ++ p) ++ [],⟨[] ++ p,[],trodAll_append (hA' _ (fun _ _=>rfl)) (hR _ _ _),hV' _,rfl,?_,?_⟩,?_⟩
 ·intro b off hp
  have hin:MemPlace.cell b off ∈ p ++ []:=by simpa using hp
  rw [hb.frozen (hlt _ hin)]
  exact hz b off hin
 ·intro ha
  cases ha
 ·intro x hx _
  simpa using hx
end
end Go.Proofs.Ytdldfllllgogoaa
namespace Go.Proofs.Ytdldfllllgogoaa
open Go.RowKit
def SlRep {α:Type} (R:Rep α) (w:World) (S:Nat→Prop) (l:List α) (A:Option Addr) (c:Nat):Prop:=
 l.length≤c∧c≤maxLen∧(l=[]∨∃ b o,A=some ⟨b,o,none⟩∧S b∧R.at_ w S b o l)
theorem rep_slice_iff {α:Type} {R:Rep α} {w:World} {S:Nat→Prop} {l:List α} {cs:List Value}:(Rep.slice R).rep w S l cs↔∃ A c,cs=[.slice A l.length c]∧SlRep R w S l A c:=Iff.rfl
theorem rep_slice_val {α:Type} {R:Rep α} {w:World} {S:Nat→Prop} {l:List α} {A:Option Addr} {n c:Nat}:(Rep.slice R).rep w S l [.slice A n c]↔n=l.length∧SlRep R w S l A c:=by
 constructor
 ·rintro ⟨A',c',e,h⟩
  simp only [List.cons.injEq,Value.slice.injEq,and_true] at e
  obtain ⟨rfl,rfl,rfl⟩:=e
  exact ⟨rfl,h⟩
 ·rintro ⟨rfl,h⟩
  exact ⟨A,c,rfl,h⟩
theorem SlRep.keep {α:Type} {R:Rep α} {w w':World} {S S':Nat→Prop} {l:List α} {A:Option Addr} {c:Nat} (h:SlRep R w S l A c) (hk:∀ k,S k→S' k∧w'.heap[k]? = w.heap[k]?):SlRep R w' S' l A c:=
 (rep_slice_val.1 ((Rep.slice R).mono (rep_slice_val.2 ⟨rfl,h⟩) hk)).2
theorem SlRep.below {α:Type} {R:Rep α} {w0 w w':World} {l:List α} {A:Option Addr} {c:Nat} (h:SlRep R w (· < w0.heap.size) l A c) (hb:Below w0.heap.size w w'):SlRep R w' (· < w0.heap.size) l A c:=
 h.keep fun k hk=>⟨hk,hb.block k hk⟩
theorem SlRep.next {α:Type} {R:Rep α} {w w':World} {l:List α} {A:Option Addr} {c:Nat} (h:SlRep R w (· < w.heap.size) l A c) (hb:Below w.heap.size w w'):SlRep R w' (· < w'.heap.size) l A c:=
 h.keep fun k hk=>⟨Nat.lt_of_lt_of_le hk hb.size,hb.block k hk⟩
theorem u8_at {w:World} {S:Nat→Prop} {l:List UInt8} {A:Option Addr} {c k:Nat} (h:SlRep Rep.u8 w S l A c) (hk:k<l.length) :
  ∃ b o,A=some ⟨b,o,none⟩∧S b∧w.cell? ⟨b,o+k,none⟩=some (.int .u8 ((l.getD k 0).toNat:Int)):=by
 rcases h.2.2 with rfl | ⟨b,o,rfl,hb,hr⟩
 ·simp at hk
 ·obtain ⟨cs,hcs,hc⟩:=hr k (l.getD k 0) (by rw [List.getD_eq_getElem?_getD,List.getElem?_eq_getElem hk];rfl)
  subst hcs
  have:=hc 0 _ rfl
  exact ⟨b,o,rfl,hb,by simpa [Rep.u8] using this⟩
theorem int_at {w:World} {S:Nat→Prop} {l:List Int} {A:Option Addr} {c k:Nat} (h:SlRep Rep.int w S l A c) (hk:k<l.length) :
  ∃ b o,A=some ⟨b,o,none⟩∧S b∧w.cell? ⟨b,o+k,none⟩=some (.int .i64 (l.getD k 0)):=by
 rcases h.2.2 with rfl | ⟨b,o,rfl,hb,hr⟩
 ·simp at hk
 ·obtain ⟨cs,hcs,hc⟩:=hr k (l.getD k 0) (by rw [List.getD_eq_getElem?_getD,List.getElem?_eq_getElem hk];rfl)
  subst hcs
  have:=hc 0 _ rfl
  exact ⟨b,o,rfl,hb,by simpa [Rep.int] using this⟩
structure Rng where
 lo:Int
 hi:Int
 deriving DecidableEq
def Rng.tup (x:Rng):Int × Int × Unit:=(x.lo,x.hi,())
def Rng.rep:Rep Rng:=Rep.via Rng.tup (Rep.pair Rep.int (Rep.pair Rep.int Rep.unit))
def Rng.ok (x:Rng):Prop:=IntOk x.lo∧IntOk x.hi
def Rng.cells (x:Rng):List Value:=[.int .i64 x.lo,.int .i64 x.hi]
theorem Rng.rep_iff {w:World} {S:Nat→Prop} {x:Rng} {cs:List Value}:Rng.rep.rep w S x cs↔cs=Rng.cells x:=by
 constructor
 ·intro h
  obtain ⟨_,_,rfl,rfl,⟨_,_,rfl,rfl,rfl⟩⟩:=h
  rfl
 ·rintro rfl
  exact ⟨_,_,rfl,rfl,⟨_,_,rfl,rfl,rfl⟩⟩
theorem Rng.enc (w:World) (S:Nat→Prop) (x:Rng):Rng.rep.rep w S x (Rng.cells x):=Rng.rep_iff.2 rfl
theorem Rng.one (l:List Rng):∀ u ∈ l.flatMap Rng.cells,u.oneCell'=true:=by
 intro u hu
 obtain ⟨x,_,hx⟩:=List.mem_flatMap.1 hu
 simp only [Rng.cells,List.mem_cons,List.not_mem_nil,or_false] at hx
 rcases hx with rfl | rfl <;> rfl
theorem Rng.cells_at (z:Rng) {w:World} {S:Nat→Prop} {l:List Rng} {A:Option Addr} {c k:Nat} (h:SlRep Rng.rep w S l A c) (hk:k<l.length) :
  ∃ b o,A=some ⟨b,o,none⟩∧S b∧w.cell? ⟨b,o+k * 2,none⟩=some (.int .i64 (l.getD k z).lo)∧w.cell? ⟨b,o+k * 2+1,none⟩=some (.int .i64 (l.getD k z).hi):=by
 rcases h.2.2 with rfl | ⟨b,o,rfl,hb,hr⟩
 ·simp at hk
 ·obtain ⟨cs,hcs,hc⟩:=hr k (l.getD k z) (by rw [List.getD_eq_getElem?_getD,List.getElem?_eq_getElem hk];rfl)
  rw [Rng.rep_iff] at hcs
  subst hcs
  exact ⟨b,o,rfl,hb,hc 0 _ rfl,hc 1 _ rfl⟩
set_option maxRecDepth 100000 in
theorem opens_Rng:Opens Try.prog Rng.rep Rng.ok 78:=
 opens_weak (opens_via Rng.tup (fun b=>⟨b.1,b.2.1⟩) (fun _=>rfl) (opens_struct Try.underlying78 (by kernel_rfl) (opensF_cons (opens_int Try.underlying3 (by kernel_rfl)) rfl (opensF_cons (opens_int Try.underlying3 (by kernel_rfl)) rfl (opensF_nil _))))) (fun a ho=>by
  obtain ⟨h0,⟨h1,_⟩⟩:=ho
  exact ⟨h0,h1⟩)
structure Want where
 at_:Int
 count:Int
 deriving DecidableEq
def Want.tup (x:Want):Int × Int × Unit:=(x.at_,x.count,())
def Want.rep:Rep Want:=Rep.via Want.tup (Rep.pair Rep.int (Rep.pair Rep.int Rep.unit))
def Want.ok (x:Want):Prop:=IntOk x.at_∧IntOk x.count
def Want.cells (x:Want):List Value:=[.int .i64 x.at_,.int .i64 x.count]
theorem Want.rep_iff {w:World} {S:Nat→Prop} {x:Want} {cs:List Value}:Want.rep.rep w S x cs↔cs=Want.cells x:=by
 constructor
 ·intro h
  obtain ⟨_,_,rfl,rfl,⟨_,_,rfl,rfl,rfl⟩⟩:=h
  rfl
 ·rintro rfl
  exact ⟨_,_,rfl,rfl,⟨_,_,rfl,rfl,rfl⟩⟩
theorem Want.enc (w:World) (S:Nat→Prop) (x:Want):Want.rep.rep w S x (Want.cells x):=Want.rep_iff.2 rfl
theorem Want.one (l:List Want):∀ u ∈ l.flatMap Want.cells,u.oneCell'=true:=by
 intro u hu
 obtain ⟨x,_,hx⟩:=List.mem_flatMap.1 hu
 simp only [Want.cells,List.mem_cons,List.not_mem_nil,or_false] at hx
 rcases hx with rfl | rfl <;> rfl
theorem Want.cells_at (z:Want) {w:World} {S:Nat→Prop} {l:List Want} {A:Option Addr} {c k:Nat} (h:SlRep Want.rep w S l A c) (hk:k<l.length) :
  ∃ b o,A=some ⟨b,o,none⟩∧S b∧w.cell? ⟨b,o+k * 2,none⟩=some (.int .i64 (l.getD k z).at_)∧w.cell? ⟨b,o+k * 2+1,none⟩=some (.int .i64 (l.getD k z).count):=by
 rcases h.2.2 with rfl | ⟨b,o,rfl,hb,hr⟩
 ·simp at hk
 ·obtain ⟨cs,hcs,hc⟩:=hr k (l.getD k z) (by rw [List.getD_eq_getElem?_getD,List.getElem?_eq_getElem hk];rfl)
  rw [Want.rep_iff] at hcs
  subst hcs
  exact ⟨b,o,rfl,hb,hc 0 _ rfl,hc 1 _ rfl⟩
set_option maxRecDepth 100000 in
theorem opens_Want:Opens Try.prog Want.rep Want.ok 33:=
 opens_weak (opens_via Want.tup (fun b=>⟨b.1,b.2.1⟩) (fun _=>rfl) (opens_struct Try.underlying33 (by kernel_rfl) (opensF_cons (opens_int Try.underlying3 (by kernel_rfl)) rfl (opensF_cons (opens_int Try.underlying3 (by kernel_rfl)) rfl (opensF_nil _))))) (fun a ho=>by
  obtain ⟨h0,⟨h1,_⟩⟩:=ho
  exact ⟨h0,h1⟩)
structure Line where
 first:Int
 room:Int
 deriving DecidableEq
def Line.tup (x:Line):Int × Int × Unit:=(x.first,x.room,())
def Line.rep:Rep Line:=Rep.via Line.tup (Rep.pair Rep.int (Rep.pair Rep.int Rep.unit))
def Line.ok (x:Line):Prop:=IntOk x.first∧IntOk x.room
def Line.cells (x:Line):List Value:=[.int .i64 x.first,.int .i64 x.room]
theorem Line.rep_iff {w:World} {S:Nat→Prop} {x:Line} {cs:List Value}:Line.rep.rep w S x cs↔cs=Line.cells x:=by
 constructor
 ·intro h
  obtain ⟨_,_,rfl,rfl,⟨_,_,rfl,rfl,rfl⟩⟩:=h
  rfl
 ·rintro rfl
  exact ⟨_,_,rfl,rfl,⟨_,_,rfl,rfl,rfl⟩⟩
theorem Line.enc (w:World) (S:Nat→Prop) (x:Line):Line.rep.rep w S x (Line.cells x):=Line.rep_iff.2 rfl
theorem Line.one (l:List Line):∀ u ∈ l.flatMap Line.cells,u.oneCell'=true:=by
 intro u hu
 obtain ⟨x,_,hx⟩:=List.mem_flatMap.1 hu
 simp only [Line.cells,List.mem_cons,List.not_mem_nil,or_false] at hx
 rcases hx with rfl | rfl <;> rfl
theorem Line.cells_at (z:Line) {w:World} {S:Nat→Prop} {l:List Line} {A:Option Addr} {c k:Nat} (h:SlRep Line.rep w S l A c) (hk:k<l.length) :
  ∃ b o,A=some ⟨b,o,none⟩∧S b∧w.cell? ⟨b,o+k * 2,none⟩=some (.int .i64 (l.getD k z).first)∧w.cell? ⟨b,o+k * 2+1,none⟩=some (.int .i64 (l.getD k z).room):=by
 rcases h.2.2 with rfl | ⟨b,o,rfl,hb,hr⟩
 ·simp at hk
 ·obtain ⟨cs,hcs,hc⟩:=hr k (l.getD k z) (by rw [List.getD_eq_getElem?_getD,List.getElem?_eq_getElem hk];rfl)
  rw [Line.rep_iff] at hcs
  subst hcs
  exact ⟨b,o,rfl,hb,hc 0 _ rfl,hc 1 _ rfl⟩
set_option maxRecDepth 100000 in
theorem opens_Line:Opens Try.prog Line.rep Line.ok 52:=
 opens_weak (opens_via Line.tup (fun b=>⟨b.1,b.2.1⟩) (fun _=>rfl) (opens_struct Try.underlying52 (by kernel_rfl) (opensF_cons (opens_int Try.underlying3 (by kernel_rfl)) rfl (opensF_cons (opens_int Try.underlying3 (by kernel_rfl)) rfl (opensF_nil _))))) (fun a ho=>by
  obtain ⟨h0,⟨h1,_⟩⟩:=ho
  exact ⟨h0,h1⟩)
structure Segment where
 seq:Int
 ack:Int
 window:Int
 syn:Bool
 fin:Bool
 rst:Bool
 acks:Bool
 sacks:List Rng
 data:List UInt8
 deriving DecidableEq
def Segment.tup (x:Segment):Int × Int × Int × Bool × Bool × Bool × Bool × (List Rng) × (List UInt8) × Unit:=(x.seq,x.ack,x.window,x.syn,x.fin,x.rst,x.acks,x.sacks,x.data,())
def Segment.rep:Rep Segment:=Rep.via Segment.tup (Rep.pair Rep.int (Rep.pair Rep.int (Rep.pair Rep.int (Rep.pair Rep.bool (Rep.pair Rep.bool (Rep.pair Rep.bool (Rep.pair Rep.bool (Rep.pair (Rep.slice Rng.rep) (Rep.pair (Rep.slice Rep.u8) Rep.unit)))))))))
def Segment.ok (x:Segment):Prop:=IntOk x.seq∧IntOk x.ack∧IntOk x.window∧(AllOk 16 Rng.ok) x.sacks∧(AllOk 1 AnyOk) x.data
theorem Segment.rep_iff {w:World} {S:Nat→Prop} {x:Segment} {cs:List Value}:Segment.rep.rep w S x cs↔∃ (A0:Option Addr) (c0:Nat) (A1:Option Addr) (c1:Nat),cs=[.int .i64 x.seq,.int .i64 x.ack,.int .i64 x.window,.bool x.syn,.bool x.fin,.bool x.rst,.bool x.acks,.slice A0 x.sacks.length c0,.slice A1 x.data.length c1]∧SlRep Rng.rep w S x.sacks A0 c0∧SlRep Rep.u8 w S x.data A1 c1:=by
 constructor
 ·intro h
  obtain ⟨_,_,rfl,rfl,⟨_,_,rfl,rfl,⟨_,_,rfl,rfl,⟨_,_,rfl,rfl,⟨_,_,rfl,rfl,⟨_,_,rfl,rfl,⟨_,_,rfl,rfl,⟨_,_,rfl,⟨A0,c0,rfl,h0⟩,⟨_,_,rfl,⟨A1,c1,rfl,h1⟩,rfl⟩⟩⟩⟩⟩⟩⟩⟩⟩:=h
  exact ⟨A0,c0,A1,c1,rfl,h0,h1⟩
 ·rintro ⟨A0,c0,A1,c1,rfl,h0,h1⟩
  exact ⟨_,_,rfl,rfl,⟨_,_,rfl,rfl,⟨_,_,rfl,rfl,⟨_,_,rfl,rfl,⟨_,_,rfl,rfl,⟨_,_,rfl,rfl,⟨_,_,rfl,rfl,⟨_,_,rfl,⟨A0,c0,rfl,h0⟩,⟨_,_,rfl,⟨A1,c1,rfl,h1⟩,rfl⟩⟩⟩⟩⟩⟩⟩⟩⟩
theorem Segment.cells_at (z:Segment) {w:World} {S:Nat→Prop} {l:List Segment} {A:Option Addr} {c k:Nat} (h:SlRep Segment.rep w S l A c) (hk:k<l.length) :
  ∃ b o,A=some ⟨b,o,none⟩∧S b∧∃ (A0:Option Addr) (c0:Nat) (A1:Option Addr) (c1:Nat),w.cell? ⟨b,o+k * 9,none⟩=some (.int .i64 (l.getD k z).seq)∧w.cell? ⟨b,o+k * 9+1,none⟩=some (.int .i64 (l.getD k z).ack)∧w.cell? ⟨b,o+k * 9+2,none⟩=some (.int .i64 (l.getD k z).window)∧w.cell? ⟨b,o+k * 9+3,none⟩=some (.bool (l.getD k z).syn)∧w.cell? ⟨b,o+k * 9+4,none⟩=some (.bool (l.getD k z).fin)∧w.cell? ⟨b,o+k * 9+5,none⟩=some (.bool (l.getD k z).rst)∧w.cell? ⟨b,o+k * 9+6,none⟩=some (.bool (l.getD k z).acks)∧w.cell? ⟨b,o+k * 9+7,none⟩=some (.slice A0 (l.getD k z).sacks.length c0)∧w.cell? ⟨b,o+k * 9+8,none⟩=some (.slice A1 (l.getD k z).data.length c1)∧SlRep Rng.rep w S (l.getD k z).sacks A0 c0∧SlRep Rep.u8 w S (l.getD k z).data A1 c1:=by
 rcases h.2.2 with rfl | ⟨b,o,rfl,hb,hr⟩
 ·simp at hk
 ·obtain ⟨cs,hcs,hc⟩:=hr k (l.getD k z) (by rw [List.getD_eq_getElem?_getD,List.getElem?_eq_getElem hk];rfl)
  obtain ⟨A0,c0,A1,c1,rfl,h0,h1⟩:=Segment.rep_iff.1 hcs
  exact ⟨b,o,rfl,hb,A0,c0,A1,c1,hc 0 _ rfl,hc 1 _ rfl,hc 2 _ rfl,hc 3 _ rfl,hc 4 _ rfl,hc 5 _ rfl,hc 6 _ rfl,hc 7 _ rfl,hc 8 _ rfl,h0,h1⟩
set_option maxRecDepth 100000 in
theorem opens_Segment:Opens Try.prog Segment.rep Segment.ok 134:=
 opens_weak (opens_via Segment.tup (fun b=>⟨b.1,b.2.1,b.2.2.1,b.2.2.2.1,b.2.2.2.2.1,b.2.2.2.2.2.1,b.2.2.2.2.2.2.1,b.2.2.2.2.2.2.2.1,b.2.2.2.2.2.2.2.2.1⟩) (fun _=>rfl) (opens_struct Try.underlying134 (by kernel_rfl) (opensF_cons (opens_int Try.underlying3 (by kernel_rfl)) rfl (opensF_cons (opens_int Try.underlying3 (by kernel_rfl)) rfl (opensF_cons (opens_int Try.underlying3 (by kernel_rfl)) rfl (opensF_cons (opens_bool Try.underlying4 (by kernel_rfl)) rfl (opensF_cons (opens_bool Try.underlying4 (by kernel_rfl)) rfl (opensF_cons (opens_bool Try.underlying4 (by kernel_rfl)) rfl (opensF_cons (opens_bool Try.underlying4 (by kernel_rfl)) rfl (opensF_cons (opens_slice Try.underlying39 (by kernel_rfl) (by decide) (by kernel_rfl) opens_Rng) rfl (opensF_cons (opens_slice Try.underlying28 (by kernel_rfl) (by decide) (by kernel_rfl) (opens_u8 Try.underlying5 (by kernel_rfl))) rfl (opensF_nil _)))))))))))) (fun a ho=>by
  obtain ⟨h0,⟨h1,⟨h2,⟨h3,⟨h4,⟨h5,⟨h6,⟨h7,⟨h8,_⟩⟩⟩⟩⟩⟩⟩⟩⟩:=ho
  exact ⟨h0,h1,h2,h7,h8⟩)
structure Deed where
 kind:Int
 data:List UInt8
 ack:Int
 window:Int
 sacks:List Rng
 deriving DecidableEq
def Deed.tup (x:Deed):Int × (List UInt8) × Int × Int × (List Rng) × Unit:=(x.kind,x.data,x.ack,x.window,x.sacks,())
def Deed.rep:Rep Deed:=Rep.via Deed.tup (Rep.pair Rep.int (Rep.pair (Rep.slice Rep.u8) (Rep.pair Rep.int (Rep.pair Rep.int (Rep.pair (Rep.slice Rng.rep) Rep.unit)))))
def Deed.ok (x:Deed):Prop:=IntOk x.kind∧(AllOk 1 AnyOk) x.data∧IntOk x.ack∧IntOk x.window∧(AllOk 16 Rng.ok) x.sacks
theorem Deed.rep_iff {w:World} {S:Nat→Prop} {x:Deed} {cs:List Value}:Deed.rep.rep w S x cs↔∃ (A0:Option Addr) (c0:Nat) (A1:Option Addr) (c1:Nat),cs=[.int .i64 x.kind,.slice A0 x.data.length c0,.int .i64 x.ack,.int .i64 x.window,.slice A1 x.sacks.length c1]∧SlRep Rep.u8 w S x.data A0 c0∧SlRep Rng.rep w S x.sacks A1 c1:=by
 constructor
 ·intro h
  obtain ⟨_,_,rfl,rfl,⟨_,_,rfl,⟨A0,c0,rfl,h0⟩,⟨_,_,rfl,rfl,⟨_,_,rfl,rfl,⟨_,_,rfl,⟨A1,c1,rfl,h1⟩,rfl⟩⟩⟩⟩⟩:=h
  exact ⟨A0,c0,A1,c1,rfl,h0,h1⟩
 ·rintro ⟨A0,c0,A1,c1,rfl,h0,h1⟩
  exact ⟨_,_,rfl,rfl,⟨_,_,rfl,⟨A0,c0,rfl,h0⟩,⟨_,_,rfl,rfl,⟨_,_,rfl,rfl,⟨_,_,rfl,⟨A1,c1,rfl,h1⟩,rfl⟩⟩⟩⟩⟩
theorem Deed.cells_at (z:Deed) {w:World} {S:Nat→Prop} {l:List Deed} {A:Option Addr} {c k:Nat} (h:SlRep Deed.rep w S l A c) (hk:k<l.length) :
  ∃ b o,A=some ⟨b,o,none⟩∧S b∧∃ (A0:Option Addr) (c0:Nat) (A1:Option Addr) (c1:Nat),w.cell? ⟨b,o+k * 5,none⟩=some (.int .i64 (l.getD k z).kind)∧w.cell? ⟨b,o+k * 5+1,none⟩=some (.slice A0 (l.getD k z).data.length c0)∧w.cell? ⟨b,o+k * 5+2,none⟩=some (.int .i64 (l.getD k z).ack)∧w.cell? ⟨b,o+k * 5+3,none⟩=some (.int .i64 (l.getD k z).window)∧w.cell? ⟨b,o+k * 5+4,none⟩=some (.slice A1 (l.getD k z).sacks.length c1)∧SlRep Rep.u8 w S (l.getD k z).data A0 c0∧SlRep Rng.rep w S (l.getD k z).sacks A1 c1:=by
 rcases h.2.2 with rfl | ⟨b,o,rfl,hb,hr⟩
 ·simp at hk
 ·obtain ⟨cs,hcs,hc⟩:=hr k (l.getD k z) (by rw [List.getD_eq_getElem?_getD,List.getElem?_eq_getElem hk];rfl)
  obtain ⟨A0,c0,A1,c1,rfl,h0,h1⟩:=Deed.rep_iff.1 hcs
  exact ⟨b,o,rfl,hb,A0,c0,A1,c1,hc 0 _ rfl,hc 1 _ rfl,hc 2 _ rfl,hc 3 _ rfl,hc 4 _ rfl,h0,h1⟩
set_option maxRecDepth 100000 in
theorem opens_Deed:Opens Try.prog Deed.rep Deed.ok 82:=
 opens_weak (opens_via Deed.tup (fun b=>⟨b.1,b.2.1,b.2.2.1,b.2.2.2.1,b.2.2.2.2.1⟩) (fun _=>rfl) (opens_struct Try.underlying82 (by kernel_rfl) (opensF_cons (opens_int Try.underlying3 (by kernel_rfl)) rfl (opensF_cons (opens_slice Try.underlying28 (by kernel_rfl) (by decide) (by kernel_rfl) (opens_u8 Try.underlying5 (by kernel_rfl))) rfl (opensF_cons (opens_int Try.underlying3 (by kernel_rfl)) rfl (opensF_cons (opens_int Try.underlying3 (by kernel_rfl)) rfl (opensF_cons (opens_slice Try.underlying39 (by kernel_rfl) (by decide) (by kernel_rfl) opens_Rng) rfl (opensF_nil _)))))))) (fun a ho=>by
  obtain ⟨h0,⟨h1,⟨h2,⟨h3,⟨h4,_⟩⟩⟩⟩⟩:=ho
  exact ⟨h0,h1,h2,h3,h4⟩)
structure Sent where
 code:Int
 from_:Int
 data:List UInt8
 fin:Bool
 again:Bool
 idle:Bool
 left:Int
 deriving DecidableEq
def Sent.tup (x:Sent):Int × Int × (List UInt8) × Bool × Bool × Bool × Int × Unit:=(x.code,x.from_,x.data,x.fin,x.again,x.idle,x.left,())
def Sent.rep:Rep Sent:=Rep.via Sent.tup (Rep.pair Rep.int (Rep.pair Rep.int (Rep.pair (Rep.slice Rep.u8) (Rep.pair Rep.bool (Rep.pair Rep.bool (Rep.pair Rep.bool (Rep.pair Rep.int Rep.unit)))))))
def Sent.ok (x:Sent):Prop:=IntOk x.code∧IntOk x.from_∧(AllOk 1 AnyOk) x.data∧IntOk x.left
theorem Sent.rep_iff {w:World} {S:Nat→Prop} {x:Sent} {cs:List Value}:Sent.rep.rep w S x cs↔∃ (A0:Option Addr) (c0:Nat),cs=[.int .i64 x.code,.int .i64 x.from_,.slice A0 x.data.length c0,.bool x.fin,.bool x.again,.bool x.idle,.int .i64 x.left]∧SlRep Rep.u8 w S x.data A0 c0:=by
 constructor
 ·intro h
  obtain ⟨_,_,rfl,rfl,⟨_,_,rfl,rfl,⟨_,_,rfl,⟨A0,c0,rfl,h0⟩,⟨_,_,rfl,rfl,⟨_,_,rfl,rfl,⟨_,_,rfl,rfl,⟨_,_,rfl,rfl,rfl⟩⟩⟩⟩⟩⟩⟩:=h
  exact ⟨A0,c0,rfl,h0⟩
 ·rintro ⟨A0,c0,rfl,h0⟩
  exact ⟨_,_,rfl,rfl,⟨_,_,rfl,rfl,⟨_,_,rfl,⟨A0,c0,rfl,h0⟩,⟨_,_,rfl,rfl,⟨_,_,rfl,rfl,⟨_,_,rfl,rfl,⟨_,_,rfl,rfl,rfl⟩⟩⟩⟩⟩⟩⟩
theorem Sent.cells_at (z:Sent) {w:World} {S:Nat→Prop} {l:List Sent} {A:Option Addr} {c k:Nat} (h:SlRep Sent.rep w S l A c) (hk:k<l.length) :
  ∃ b o,A=some ⟨b,o,none⟩∧S b∧∃ (A0:Option Addr) (c0:Nat),w.cell? ⟨b,o+k * 7,none⟩=some (.int .i64 (l.getD k z).code)∧w.cell? ⟨b,o+k * 7+1,none⟩=some (.int .i64 (l.getD k z).from_)∧w.cell? ⟨b,o+k * 7+2,none⟩=some (.slice A0 (l.getD k z).data.length c0)∧w.cell? ⟨b,o+k * 7+3,none⟩=some (.bool (l.getD k z).fin)∧w.cell? ⟨b,o+k * 7+4,none⟩=some (.bool (l.getD k z).again)∧w.cell? ⟨b,o+k * 7+5,none⟩=some (.bool (l.getD k z).idle)∧w.cell? ⟨b,o+k * 7+6,none⟩=some (.int .i64 (l.getD k z).left)∧SlRep Rep.u8 w S (l.getD k z).data A0 c0:=by
 rcases h.2.2 with rfl | ⟨b,o,rfl,hb,hr⟩
 ·simp at hk
 ·obtain ⟨cs,hcs,hc⟩:=hr k (l.getD k z) (by rw [List.getD_eq_getElem?_getD,List.getElem?_eq_getElem hk];rfl)
  obtain ⟨A0,c0,rfl,h0⟩:=Sent.rep_iff.1 hcs
  exact ⟨b,o,rfl,hb,A0,c0,hc 0 _ rfl,hc 1 _ rfl,hc 2 _ rfl,hc 3 _ rfl,hc 4 _ rfl,hc 5 _ rfl,hc 6 _ rfl,h0⟩
set_option maxRecDepth 100000 in
theorem opens_Sent:Opens Try.prog Sent.rep Sent.ok 49:=
 opens_weak (opens_via Sent.tup (fun b=>⟨b.1,b.2.1,b.2.2.1,b.2.2.2.1,b.2.2.2.2.1,b.2.2.2.2.2.1,b.2.2.2.2.2.2.1⟩) (fun _=>rfl) (opens_struct Try.underlying49 (by kernel_rfl) (opensF_cons (opens_int Try.underlying3 (by kernel_rfl)) rfl (opensF_cons (opens_int Try.underlying3 (by kernel_rfl)) rfl (opensF_cons (opens_slice Try.underlying28 (by kernel_rfl) (by decide) (by kernel_rfl) (opens_u8 Try.underlying5 (by kernel_rfl))) rfl (opensF_cons (opens_bool Try.underlying4 (by kernel_rfl)) rfl (opensF_cons (opens_bool Try.underlying4 (by kernel_rfl)) rfl (opensF_cons (opens_bool Try.underlying4 (by kernel_rfl)) rfl (opensF_cons (opens_int Try.underlying3 (by kernel_rfl)) rfl (opensF_nil _)))))))))) (fun a ho=>by
  obtain ⟨h0,⟨h1,⟨h2,⟨h3,⟨h4,⟨h5,⟨h6,_⟩⟩⟩⟩⟩⟩⟩:=ho
  exact ⟨h0,h1,h2,h6⟩)
structure Arrival where
 kind:Int
 from_:Int
 data:List UInt8
 fin:Bool
 count:Int
 deriving DecidableEq
def Arrival.tup (x:Arrival):Int × Int × (List UInt8) × Bool × Int × Unit:=(x.kind,x.from_,x.data,x.fin,x.count,())
def Arrival.rep:Rep Arrival:=Rep.via Arrival.tup (Rep.pair Rep.int (Rep.pair Rep.int (Rep.pair (Rep.slice Rep.u8) (Rep.pair Rep.bool (Rep.pair Rep.int Rep.unit)))))
def Arrival.ok (x:Arrival):Prop:=IntOk x.kind∧IntOk x.from_∧(AllOk 1 AnyOk) x.data∧IntOk x.count
theorem Arrival.rep_iff {w:World} {S:Nat→Prop} {x:Arrival} {cs:List Value}:Arrival.rep.rep w S x cs↔∃ (A0:Option Addr) (c0:Nat),cs=[.int .i64 x.kind,.int .i64 x.from_,.slice A0 x.data.length c0,.bool x.fin,.int .i64 x.count]∧SlRep Rep.u8 w S x.data A0 c0:=by
 constructor
 ·intro h
  obtain ⟨_,_,rfl,rfl,⟨_,_,rfl,rfl,⟨_,_,rfl,⟨A0,c0,rfl,h0⟩,⟨_,_,rfl,rfl,⟨_,_,rfl,rfl,rfl⟩⟩⟩⟩⟩:=h
  exact ⟨A0,c0,rfl,h0⟩
 ·rintro ⟨A0,c0,rfl,h0⟩
  exact ⟨_,_,rfl,rfl,⟨_,_,rfl,rfl,⟨_,_,rfl,⟨A0,c0,rfl,h0⟩,⟨_,_,rfl,rfl,⟨_,_,rfl,rfl,rfl⟩⟩⟩⟩⟩
theorem Arrival.cells_at (z:Arrival) {w:World} {S:Nat→Prop} {l:List Arrival} {A:Option Addr} {c k:Nat} (h:SlRep Arrival.rep w S l A c) (hk:k<l.length) :
  ∃ b o,A=some ⟨b,o,none⟩∧S b∧∃ (A0:Option Addr) (c0:Nat),w.cell? ⟨b,o+k * 5,none⟩=some (.int .i64 (l.getD k z).kind)∧w.cell? ⟨b,o+k * 5+1,none⟩=some (.int .i64 (l.getD k z).from_)∧w.cell? ⟨b,o+k * 5+2,none⟩=some (.slice A0 (l.getD k z).data.length c0)∧w.cell? ⟨b,o+k * 5+3,none⟩=some (.bool (l.getD k z).fin)∧w.cell? ⟨b,o+k * 5+4,none⟩=some (.int .i64 (l.getD k z).count)∧SlRep Rep.u8 w S (l.getD k z).data A0 c0:=by
 rcases h.2.2 with rfl | ⟨b,o,rfl,hb,hr⟩
 ·simp at hk
 ·obtain ⟨cs,hcs,hc⟩:=hr k (l.getD k z) (by rw [List.getD_eq_getElem?_getD,List.getElem?_eq_getElem hk];rfl)
  obtain ⟨A0,c0,rfl,h0⟩:=Arrival.rep_iff.1 hcs
  exact ⟨b,o,rfl,hb,A0,c0,hc 0 _ rfl,hc 1 _ rfl,hc 2 _ rfl,hc 3 _ rfl,hc 4 _ rfl,h0⟩
set_option maxRecDepth 100000 in
theorem opens_Arrival:Opens Try.prog Arrival.rep Arrival.ok 73:=
 opens_weak (opens_via Arrival.tup (fun b=>⟨b.1,b.2.1,b.2.2.1,b.2.2.2.1,b.2.2.2.2.1⟩) (fun _=>rfl) (opens_struct Try.underlying73 (by kernel_rfl) (opensF_cons (opens_int Try.underlying3 (by kernel_rfl)) rfl (opensF_cons (opens_int Try.underlying3 (by kernel_rfl)) rfl (opensF_cons (opens_slice Try.underlying28 (by kernel_rfl) (by decide) (by kernel_rfl) (opens_u8 Try.underlying5 (by kernel_rfl))) rfl (opensF_cons (opens_bool Try.underlying4 (by kernel_rfl)) rfl (opensF_cons (opens_int Try.underlying3 (by kernel_rfl)) rfl (opensF_nil _)))))))) (fun a ho=>by
  obtain ⟨h0,⟨h1,⟨h2,⟨h3,⟨h4,_⟩⟩⟩⟩⟩:=ho
  exact ⟨h0,h1,h2,h4⟩)
structure Told where
 code:Int
 ack:Int
 window:Int
 sacks:List Rng
 data:List UInt8
 end_:Bool
 deriving DecidableEq
def Told.tup (x:Told):Int × Int × Int × (List Rng) × (List UInt8) × Bool × Unit:=(x.code,x.ack,x.window,x.sacks,x.data,x.end_,())
def Told.rep:Rep Told:=Rep.via Told.tup (Rep.pair Rep.int (Rep.pair Rep.int (Rep.pair Rep.int (Rep.pair (Rep.slice Rng.rep) (Rep.pair (Rep.slice Rep.u8) (Rep.pair Rep.bool Rep.unit))))))
def Told.ok (x:Told):Prop:=IntOk x.code∧IntOk x.ack∧IntOk x.window∧(AllOk 16 Rng.ok) x.sacks∧(AllOk 1 AnyOk) x.data
theorem Told.rep_iff {w:World} {S:Nat→Prop} {x:Told} {cs:List Value}:Told.rep.rep w S x cs↔∃ (A0:Option Addr) (c0:Nat) (A1:Option Addr) (c1:Nat),cs=[.int .i64 x.code,.int .i64 x.ack,.int .i64 x.window,.slice A0 x.sacks.length c0,.slice A1 x.data.length c1,.bool x.end_]∧SlRep Rng.rep w S x.sacks A0 c0∧SlRep Rep.u8 w S x.data A1 c1:=by
 constructor
 ·intro h
  obtain ⟨_,_,rfl,rfl,⟨_,_,rfl,rfl,⟨_,_,rfl,rfl,⟨_,_,rfl,⟨A0,c0,rfl,h0⟩,⟨_,_,rfl,⟨A1,c1,rfl,h1⟩,⟨_,_,rfl,rfl,rfl⟩⟩⟩⟩⟩⟩:=h
  exact ⟨A0,c0,A1,c1,rfl,h0,h1⟩
 ·rintro ⟨A0,c0,A1,c1,rfl,h0,h1⟩
  exact ⟨_,_,rfl,rfl,⟨_,_,rfl,rfl,⟨_,_,rfl,rfl,⟨_,_,rfl,⟨A0,c0,rfl,h0⟩,⟨_,_,rfl,⟨A1,c1,rfl,h1⟩,⟨_,_,rfl,rfl,rfl⟩⟩⟩⟩⟩⟩
theorem Told.cells_at (z:Told) {w:World} {S:Nat→Prop} {l:List Told} {A:Option Addr} {c k:Nat} (h:SlRep Told.rep w S l A c) (hk:k<l.length) :
  ∃ b o,A=some ⟨b,o,none⟩∧S b∧∃ (A0:Option Addr) (c0:Nat) (A1:Option Addr) (c1:Nat),w.cell? ⟨b,o+k * 6,none⟩=some (.int .i64 (l.getD k z).code)∧w.cell? ⟨b,o+k * 6+1,none⟩=some (.int .i64 (l.getD k z).ack)∧w.cell? ⟨b,o+k * 6+2,none⟩=some (.int .i64 (l.getD k z).window)∧w.cell? ⟨b,o+k * 6+3,none⟩=some (.slice A0 (l.getD k z).sacks.length c0)∧w.cell? ⟨b,o+k * 6+4,none⟩=some (.slice A1 (l.getD k z).data.length c1)∧w.cell? ⟨b,o+k * 6+5,none⟩=some (.bool (l.getD k z).end_)∧SlRep Rng.rep w S (l.getD k z).sacks A0 c0∧SlRep Rep.u8 w S (l.getD k z).data A1 c1:=by
 rcases h.2.2 with rfl | ⟨b,o,rfl,hb,hr⟩
 ·simp at hk
 ·obtain ⟨cs,hcs,hc⟩:=hr k (l.getD k z) (by rw [List.getD_eq_getElem?_getD,List.getElem?_eq_getElem hk];rfl)
  obtain ⟨A0,c0,A1,c1,rfl,h0,h1⟩:=Told.rep_iff.1 hcs
  exact ⟨b,o,rfl,hb,A0,c0,A1,c1,hc 0 _ rfl,hc 1 _ rfl,hc 2 _ rfl,hc 3 _ rfl,hc 4 _ rfl,hc 5 _ rfl,h0,h1⟩
set_option maxRecDepth 100000 in
theorem opens_Told:Opens Try.prog Told.rep Told.ok 41:=
 opens_weak (opens_via Told.tup (fun b=>⟨b.1,b.2.1,b.2.2.1,b.2.2.2.1,b.2.2.2.2.1,b.2.2.2.2.2.1⟩) (fun _=>rfl) (opens_struct Try.underlying41 (by kernel_rfl) (opensF_cons (opens_int Try.underlying3 (by kernel_rfl)) rfl (opensF_cons (opens_int Try.underlying3 (by kernel_rfl)) rfl (opensF_cons (opens_int Try.underlying3 (by kernel_rfl)) rfl (opensF_cons (opens_slice Try.underlying39 (by kernel_rfl) (by decide) (by kernel_rfl) opens_Rng) rfl (opensF_cons (opens_slice Try.underlying28 (by kernel_rfl) (by decide) (by kernel_rfl) (opens_u8 Try.underlying5 (by kernel_rfl))) rfl (opensF_cons (opens_bool Try.underlying4 (by kernel_rfl)) rfl (opensF_nil _))))))))) (fun a ho=>by
  obtain ⟨h0,⟨h1,⟨h2,⟨h3,⟨h4,⟨h5,_⟩⟩⟩⟩⟩⟩:=ho
  exact ⟨h0,h1,h2,h3,h4⟩)
structure Hop where
 kind:Int
 data:List UInt8
 id:Int
 at_:Int
 by_:UInt8
 count:Int
 deriving DecidableEq
def Hop.tup (x:Hop):Int × (List UInt8) × Int × Int × UInt8 × Int × Unit:=(x.kind,x.data,x.id,x.at_,x.by_,x.count,())
def Hop.rep:Rep Hop:=Rep.via Hop.tup (Rep.pair Rep.int (Rep.pair (Rep.slice Rep.u8) (Rep.pair Rep.int (Rep.pair Rep.int (Rep.pair Rep.u8 (Rep.pair Rep.int Rep.unit))))))
def Hop.ok (x:Hop):Prop:=IntOk x.kind∧(AllOk 1 AnyOk) x.data∧IntOk x.id∧IntOk x.at_∧IntOk x.count
theorem Hop.rep_iff {w:World} {S:Nat→Prop} {x:Hop} {cs:List Value}:Hop.rep.rep w S x cs↔∃ (A0:Option Addr) (c0:Nat),cs=[.int .i64 x.kind,.slice A0 x.data.length c0,.int .i64 x.id,.int .i64 x.at_,.int .u8 x.by_.toNat,.int .i64 x.count]∧SlRep Rep.u8 w S x.data A0 c0:=by
 constructor
 ·intro h
  obtain ⟨_,_,rfl,rfl,⟨_,_,rfl,⟨A0,c0,rfl,h0⟩,⟨_,_,rfl,rfl,⟨_,_,rfl,rfl,⟨_,_,rfl,rfl,⟨_,_,rfl,rfl,rfl⟩⟩⟩⟩⟩⟩:=h
  exact ⟨A0,c0,rfl,h0⟩
 ·rintro ⟨A0,c0,rfl,h0⟩
  exact ⟨_,_,rfl,rfl,⟨_,_,rfl,⟨A0,c0,rfl,h0⟩,⟨_,_,rfl,rfl,⟨_,_,rfl,rfl,⟨_,_,rfl,rfl,⟨_,_,rfl,rfl,rfl⟩⟩⟩⟩⟩⟩
theorem Hop.cells_at (z:Hop) {w:World} {S:Nat→Prop} {l:List Hop} {A:Option Addr} {c k:Nat} (h:SlRep Hop.rep w S l A c) (hk:k<l.length) :
  ∃ b o,A=some ⟨b,o,none⟩∧S b∧∃ (A0:Option Addr) (c0:Nat),w.cell? ⟨b,o+k * 6,none⟩=some (.int .i64 (l.getD k z).kind)∧w.cell? ⟨b,o+k * 6+1,none⟩=some (.slice A0 (l.getD k z).data.length c0)∧w.cell? ⟨b,o+k * 6+2,none⟩=some (.int .i64 (l.getD k z).id)∧w.cell? ⟨b,o+k * 6+3,none⟩=some (.int .i64 (l.getD k z).at_)∧w.cell? ⟨b,o+k * 6+4,none⟩=some (.int .u8 (l.getD k z).by_.toNat)∧w.cell? ⟨b,o+k * 6+5,none⟩=some (.int .i64 (l.getD k z).count)∧SlRep Rep.u8 w S (l.getD k z).data A0 c0:=by
 rcases h.2.2 with rfl | ⟨b,o,rfl,hb,hr⟩
 ·simp at hk
 ·obtain ⟨cs,hcs,hc⟩:=hr k (l.getD k z) (by rw [List.getD_eq_getElem?_getD,List.getElem?_eq_getElem hk];rfl)
  obtain ⟨A0,c0,rfl,h0⟩:=Hop.rep_iff.1 hcs
  exact ⟨b,o,rfl,hb,A0,c0,hc 0 _ rfl,hc 1 _ rfl,hc 2 _ rfl,hc 3 _ rfl,hc 4 _ rfl,hc 5 _ rfl,h0⟩
set_option maxRecDepth 100000 in
theorem opens_Hop:Opens Try.prog Hop.rep Hop.ok 89:=
 opens_weak (opens_via Hop.tup (fun b=>⟨b.1,b.2.1,b.2.2.1,b.2.2.2.1,b.2.2.2.2.1,b.2.2.2.2.2.1⟩) (fun _=>rfl) (opens_struct Try.underlying89 (by kernel_rfl) (opensF_cons (opens_int Try.underlying3 (by kernel_rfl)) rfl (opensF_cons (opens_slice Try.underlying28 (by kernel_rfl) (by decide) (by kernel_rfl) (opens_u8 Try.underlying5 (by kernel_rfl))) rfl (opensF_cons (opens_int Try.underlying3 (by kernel_rfl)) rfl (opensF_cons (opens_int Try.underlying3 (by kernel_rfl)) rfl (opensF_cons (opens_u8 Try.underlying5 (by kernel_rfl)) rfl (opensF_cons (opens_int Try.underlying3 (by kernel_rfl)) rfl (opensF_nil _))))))))) (fun a ho=>by
  obtain ⟨h0,⟨h1,⟨h2,⟨h3,⟨h4,⟨h5,_⟩⟩⟩⟩⟩⟩:=ho
  exact ⟨h0,h1,h2,h3,h5⟩)
structure Passed where
 code:Int
 put:Bool
 id:Int
 data:List UInt8
 end_:Bool
 left:Int
 deriving DecidableEq
def Passed.tup (x:Passed):Int × Bool × Int × (List UInt8) × Bool × Int × Unit:=(x.code,x.put,x.id,x.data,x.end_,x.left,())
def Passed.rep:Rep Passed:=Rep.via Passed.tup (Rep.pair Rep.int (Rep.pair Rep.bool (Rep.pair Rep.int (Rep.pair (Rep.slice Rep.u8) (Rep.pair Rep.bool (Rep.pair Rep.int Rep.unit))))))
def Passed.ok (x:Passed):Prop:=IntOk x.code∧IntOk x.id∧(AllOk 1 AnyOk) x.data∧IntOk x.left
theorem Passed.rep_iff {w:World} {S:Nat→Prop} {x:Passed} {cs:List Value}:Passed.rep.rep w S x cs↔∃ (A0:Option Addr) (c0:Nat),cs=[.int .i64 x.code,.bool x.put,.int .i64 x.id,.slice A0 x.data.length c0,.bool x.end_,.int .i64 x.left]∧SlRep Rep.u8 w S x.data A0 c0:=by
 constructor
 ·intro h
  obtain ⟨_,_,rfl,rfl,⟨_,_,rfl,rfl,⟨_,_,rfl,rfl,⟨_,_,rfl,⟨A0,c0,rfl,h0⟩,⟨_,_,rfl,rfl,⟨_,_,rfl,rfl,rfl⟩⟩⟩⟩⟩⟩:=h
  exact ⟨A0,c0,rfl,h0⟩
 ·rintro ⟨A0,c0,rfl,h0⟩
  exact ⟨_,_,rfl,rfl,⟨_,_,rfl,rfl,⟨_,_,rfl,rfl,⟨_,_,rfl,⟨A0,c0,rfl,h0⟩,⟨_,_,rfl,rfl,⟨_,_,rfl,rfl,rfl⟩⟩⟩⟩⟩⟩
theorem Passed.cells_at (z:Passed) {w:World} {S:Nat→Prop} {l:List Passed} {A:Option Addr} {c k:Nat} (h:SlRep Passed.rep w S l A c) (hk:k<l.length) :
  ∃ b o,A=some ⟨b,o,none⟩∧S b∧∃ (A0:Option Addr) (c0:Nat),w.cell? ⟨b,o+k * 6,none⟩=some (.int .i64 (l.getD k z).code)∧w.cell? ⟨b,o+k * 6+1,none⟩=some (.bool (l.getD k z).put)∧w.cell? ⟨b,o+k * 6+2,none⟩=some (.int .i64 (l.getD k z).id)∧w.cell? ⟨b,o+k * 6+3,none⟩=some (.slice A0 (l.getD k z).data.length c0)∧w.cell? ⟨b,o+k * 6+4,none⟩=some (.bool (l.getD k z).end_)∧w.cell? ⟨b,o+k * 6+5,none⟩=some (.int .i64 (l.getD k z).left)∧SlRep Rep.u8 w S (l.getD k z).data A0 c0:=by
 rcases h.2.2 with rfl | ⟨b,o,rfl,hb,hr⟩
 ·simp at hk
 ·obtain ⟨cs,hcs,hc⟩:=hr k (l.getD k z) (by rw [List.getD_eq_getElem?_getD,List.getElem?_eq_getElem hk];rfl)
  obtain ⟨A0,c0,rfl,h0⟩:=Passed.rep_iff.1 hcs
  exact ⟨b,o,rfl,hb,A0,c0,hc 0 _ rfl,hc 1 _ rfl,hc 2 _ rfl,hc 3 _ rfl,hc 4 _ rfl,hc 5 _ rfl,h0⟩
set_option maxRecDepth 100000 in
theorem opens_Passed:Opens Try.prog Passed.rep Passed.ok 58:=
 opens_weak (opens_via Passed.tup (fun b=>⟨b.1,b.2.1,b.2.2.1,b.2.2.2.1,b.2.2.2.2.1,b.2.2.2.2.2.1⟩) (fun _=>rfl) (opens_struct Try.underlying58 (by kernel_rfl) (opensF_cons (opens_int Try.underlying3 (by kernel_rfl)) rfl (opensF_cons (opens_bool Try.underlying4 (by kernel_rfl)) rfl (opensF_cons (opens_int Try.underlying3 (by kernel_rfl)) rfl (opensF_cons (opens_slice Try.underlying28 (by kernel_rfl) (by decide) (by kernel_rfl) (opens_u8 Try.underlying5 (by kernel_rfl))) rfl (opensF_cons (opens_bool Try.underlying4 (by kernel_rfl)) rfl (opensF_cons (opens_int Try.underlying3 (by kernel_rfl)) rfl (opensF_nil _))))))))) (fun a ho=>by
  obtain ⟨h0,⟨h1,⟨h2,⟨h3,⟨h4,⟨h5,_⟩⟩⟩⟩⟩⟩:=ho
  exact ⟨h0,h2,h3,h5⟩)
structure Got where
 at_:Int
 count:Int
 data:List UInt8
 deriving DecidableEq
def Got.tup (x:Got):Int × Int × (List UInt8) × Unit:=(x.at_,x.count,x.data,())
def Got.rep:Rep Got:=Rep.via Got.tup (Rep.pair Rep.int (Rep.pair Rep.int (Rep.pair (Rep.slice Rep.u8) Rep.unit)))
def Got.ok (x:Got):Prop:=IntOk x.at_∧IntOk x.count∧(AllOk 1 AnyOk) x.data
theorem Got.rep_iff {w:World} {S:Nat→Prop} {x:Got} {cs:List Value}:Got.rep.rep w S x cs↔∃ (A0:Option Addr) (c0:Nat),cs=[.int .i64 x.at_,.int .i64 x.count,.slice A0 x.data.length c0]∧SlRep Rep.u8 w S x.data A0 c0:=by
 constructor
 ·intro h
  obtain ⟨_,_,rfl,rfl,⟨_,_,rfl,rfl,⟨_,_,rfl,⟨A0,c0,rfl,h0⟩,rfl⟩⟩⟩:=h
  exact ⟨A0,c0,rfl,h0⟩
 ·rintro ⟨A0,c0,rfl,h0⟩
  exact ⟨_,_,rfl,rfl,⟨_,_,rfl,rfl,⟨_,_,rfl,⟨A0,c0,rfl,h0⟩,rfl⟩⟩⟩
theorem Got.cells_at (z:Got) {w:World} {S:Nat→Prop} {l:List Got} {A:Option Addr} {c k:Nat} (h:SlRep Got.rep w S l A c) (hk:k<l.length) :
  ∃ b o,A=some ⟨b,o,none⟩∧S b∧∃ (A0:Option Addr) (c0:Nat),w.cell? ⟨b,o+k * 3,none⟩=some (.int .i64 (l.getD k z).at_)∧w.cell? ⟨b,o+k * 3+1,none⟩=some (.int .i64 (l.getD k z).count)∧w.cell? ⟨b,o+k * 3+2,none⟩=some (.slice A0 (l.getD k z).data.length c0)∧SlRep Rep.u8 w S (l.getD k z).data A0 c0:=by
 rcases h.2.2 with rfl | ⟨b,o,rfl,hb,hr⟩
 ·simp at hk
 ·obtain ⟨cs,hcs,hc⟩:=hr k (l.getD k z) (by rw [List.getD_eq_getElem?_getD,List.getElem?_eq_getElem hk];rfl)
  obtain ⟨A0,c0,rfl,h0⟩:=Got.rep_iff.1 hcs
  exact ⟨b,o,rfl,hb,A0,c0,hc 0 _ rfl,hc 1 _ rfl,hc 2 _ rfl,h0⟩
set_option maxRecDepth 100000 in
theorem opens_Got:Opens Try.prog Got.rep Got.ok 66:=
 opens_weak (opens_via Got.tup (fun b=>⟨b.1,b.2.1,b.2.2.1⟩) (fun _=>rfl) (opens_struct Try.underlying66 (by kernel_rfl) (opensF_cons (opens_int Try.underlying3 (by kernel_rfl)) rfl (opensF_cons (opens_int Try.underlying3 (by kernel_rfl)) rfl (opensF_cons (opens_slice Try.underlying28 (by kernel_rfl) (by decide) (by kernel_rfl) (opens_u8 Try.underlying5 (by kernel_rfl))) rfl (opensF_nil _)))))) (fun a ho=>by
  obtain ⟨h0,⟨h1,⟨h2,_⟩⟩⟩:=ho
  exact ⟨h0,h1,h2⟩)
structure Next where
 code:Int
 wants:List Want
 done:Bool
 data:List UInt8
 deriving DecidableEq
def Next.tup (x:Next):Int × (List Want) × Bool × (List UInt8) × Unit:=(x.code,x.wants,x.done,x.data,())
def Next.rep:Rep Next:=Rep.via Next.tup (Rep.pair Rep.int (Rep.pair (Rep.slice Want.rep) (Rep.pair Rep.bool (Rep.pair (Rep.slice Rep.u8) Rep.unit))))
def Next.ok (x:Next):Prop:=IntOk x.code∧(AllOk 16 Want.ok) x.wants∧(AllOk 1 AnyOk) x.data
theorem Next.rep_iff {w:World} {S:Nat→Prop} {x:Next} {cs:List Value}:Next.rep.rep w S x cs↔∃ (A0:Option Addr) (c0:Nat) (A1:Option Addr) (c1:Nat),cs=[.int .i64 x.code,.slice A0 x.wants.length c0,.bool x.done,.slice A1 x.data.length c1]∧SlRep Want.rep w S x.wants A0 c0∧SlRep Rep.u8 w S x.data A1 c1:=by
 constructor
 ·intro h
  obtain ⟨_,_,rfl,rfl,⟨_,_,rfl,⟨A0,c0,rfl,h0⟩,⟨_,_,rfl,rfl,⟨_,_,rfl,⟨A1,c1,rfl,h1⟩,rfl⟩⟩⟩⟩:=h
  exact ⟨A0,c0,A1,c1,rfl,h0,h1⟩
 ·rintro ⟨A0,c0,A1,c1,rfl,h0,h1⟩
  exact ⟨_,_,rfl,rfl,⟨_,_,rfl,⟨A0,c0,rfl,h0⟩,⟨_,_,rfl,rfl,⟨_,_,rfl,⟨A1,c1,rfl,h1⟩,rfl⟩⟩⟩⟩
theorem Next.cells_at (z:Next) {w:World} {S:Nat→Prop} {l:List Next} {A:Option Addr} {c k:Nat} (h:SlRep Next.rep w S l A c) (hk:k<l.length) :
  ∃ b o,A=some ⟨b,o,none⟩∧S b∧∃ (A0:Option Addr) (c0:Nat) (A1:Option Addr) (c1:Nat),w.cell? ⟨b,o+k * 4,none⟩=some (.int .i64 (l.getD k z).code)∧w.cell? ⟨b,o+k * 4+1,none⟩=some (.slice A0 (l.getD k z).wants.length c0)∧w.cell? ⟨b,o+k * 4+2,none⟩=some (.bool (l.getD k z).done)∧w.cell? ⟨b,o+k * 4+3,none⟩=some (.slice A1 (l.getD k z).data.length c1)∧SlRep Want.rep w S (l.getD k z).wants A0 c0∧SlRep Rep.u8 w S (l.getD k z).data A1 c1:=by
 rcases h.2.2 with rfl | ⟨b,o,rfl,hb,hr⟩
 ·simp at hk
 ·obtain ⟨cs,hcs,hc⟩:=hr k (l.getD k z) (by rw [List.getD_eq_getElem?_getD,List.getElem?_eq_getElem hk];rfl)
  obtain ⟨A0,c0,A1,c1,rfl,h0,h1⟩:=Next.rep_iff.1 hcs
  exact ⟨b,o,rfl,hb,A0,c0,A1,c1,hc 0 _ rfl,hc 1 _ rfl,hc 2 _ rfl,hc 3 _ rfl,h0,h1⟩
set_option maxRecDepth 100000 in
theorem opens_Next:Opens Try.prog Next.rep Next.ok 30:=
 opens_weak (opens_via Next.tup (fun b=>⟨b.1,b.2.1,b.2.2.1,b.2.2.2.1⟩) (fun _=>rfl) (opens_struct Try.underlying30 (by kernel_rfl) (opensF_cons (opens_int Try.underlying3 (by kernel_rfl)) rfl (opensF_cons (opens_slice Try.underlying27 (by kernel_rfl) (by decide) (by kernel_rfl) opens_Want) rfl (opensF_cons (opens_bool Try.underlying4 (by kernel_rfl)) rfl (opensF_cons (opens_slice Try.underlying28 (by kernel_rfl) (by decide) (by kernel_rfl) (opens_u8 Try.underlying5 (by kernel_rfl))) rfl (opensF_nil _))))))) (fun a ho=>by
  obtain ⟨h0,⟨h1,⟨h2,⟨h3,_⟩⟩⟩⟩:=ho
  exact ⟨h0,h1,h3⟩)
end Go.Proofs.Ytdldfllllgogoaa
namespace Go.Proofs.Ytdldfllllgogoaa
open Go.RowKit
/-- a slice type and its element's table row -/
structure ElemT (P:Program) (t e:TypeId) (size bytes:Nat):Prop where
 und:P.underlying t=some (.slice e)
 info:∃ i z,P.info? e=some i∧i.zero=some z∧i.size=size∧i.bytes=bytes∧z.cells.size=size
 pos:0<size
theorem ElemT.of {P:Program} {t e:TypeId} {size bytes:Nat} {z:Value} (h:P.underlying t=some (.slice e)) (hi:(P.info? e).map (fun i=>(i.zero,i.size,i.bytes))=some (some z,size,bytes)) (hz:z.cells.size=size) (hp:0<size) :
  ElemT P t e size bytes:=by
 obtain ⟨i0,a1,a2,a3,a4⟩:=info_parts hi
 exact ⟨h,⟨i0,z,a1,a2,a3,a4,hz⟩,hp⟩
/-- the block of an address -/
def blkOf (A:Option Addr):Option Nat:=A.map (·.block)
/-- the slice (A, n, c) owns the cells xs, from block base on -/
def Own (w:World) (base:Nat) (e:TypeId) (size:Nat) (A:Option Addr) (n c:Nat) (xs:List Value):Prop:=w.ownsRow base e size (.slice A n c) n xs
/-- w' is w with new blocks and writes into A's block; A' lies there or in a new block -/
structure Grew (w w':World) (A A':Option Addr):Prop where
 grown:w.grownBy w' (blkOf A)
 blk:blkOf A'=blkOf A∨∃ k,w.heap.size≤k∧blkOf A'=some k
theorem ownBlock_slice (A:Option Addr) (n c:Nat):(Value.slice A n c).ownBlock=blkOf A:=by cases A <;> rfl
theorem Grew.refl (w:World) (A:Option Addr):Grew w w A A:=⟨World.grownBy.refl w _,.inl rfl⟩
theorem Grew.trans {a b c:World} {A B C:Option Addr} (h:Grew a b A B) (k:Grew b c B C):Grew a c A C:=by
 refine ⟨⟨k.grown.os.trans h.grown.os,k.grown.tape.trans h.grown.tape,k.grown.output.trans h.grown.output,Nat.le_trans h.grown.size k.grown.size,fun i hi hne=>?_⟩,?_⟩
 ·refine (k.grown.block i (Nat.lt_of_lt_of_le hi h.grown.size) (fun e=>?_)).trans (h.grown.block i hi hne)
  rcases h.blk with hb | ⟨g,hg,hb⟩
  ·exact hne (e.trans hb)
  ·rw [hb] at e
   injection e with e
   omega
 ·have hs:=h.grown.size
  rcases k.blk with hb | ⟨g,hg,hb⟩
  ·rw [hb];exact h.blk
  ·exact .inr ⟨g,by omega,hb⟩
theorem Grew.alloc {a b:World} {A B:Option Addr} (h:Grew a b A B) (o:Obj):Grew a (b.alloc o) A B:=
 ⟨⟨h.grown.os,h.grown.tape,h.grown.output,by simp only [World.size_alloc];have:=h.grown.size;omega,fun i hi hne=>(Below.heap_alloc b o i (Nat.lt_of_lt_of_le hi h.grown.size)).trans (h.grown.block i hi hne)⟩,h.blk⟩
theorem Grew.below {w w':World} {A A':Option Addr} {B:Nat} (h:Grew w w' A A') (hB:B≤w.heap.size) (hA:∀ k,blkOf A=some k→B≤k):Below B w w':=
 (Below.refl B w).grown h.grown hB hA
theorem Grew.step {w0 w w':World} {A A':Option Addr} (hb:Below w0.heap.size w0 w) (h:Grew w w' A A') (hA:∀ k,blkOf A=some k→w0.heap.size≤k):Below w0.heap.size w0 w':=
 hb.trans (h.below hb.size hA)
section
variable {w w':World} {base:Nat} {e:TypeId} {size n c:Nat} {A:Option Addr} {xs:List Value}
theorem Own.nil (w:World) (base:Nat) (e:TypeId) (size:Nat):Own w base e size none 0 0 []:=World.ownsRow_nil w base e size
theorem Own.new (w:World) (base:Nat) (e:TypeId) (size n c:Nat) (xs cs:List Value) (hb:base≤w.heap.size) (hx:xs.length=n * size) (hc:cs.length=c * size) (hn:n≤c) (hm:c≤maxLen) (ht:cs.take (n * size)=xs) :
  Own (w.alloc (.cells cs.toArray e)) base e size (Option.some ⟨w.heap.size,0,none⟩) n c xs:=
 ⟨hx,.inr ⟨w.heap.size,c,cs.toArray,rfl,hb,heap_alloc_new w _,hn,hm,by simpa using hc,by simpa using ht⟩⟩
theorem Own.lit (w:World) (base:Nat) (e:TypeId) (size n:Nat) (xs:List Value) (hb:base≤w.heap.size) (hx:xs.length=n * size) (hm:n≤maxLen):Own (w.alloc (.cells xs.toArray e)) base e size (Option.some ⟨w.heap.size,0,none⟩) n n xs:=
 Own.new w base e size n n xs xs hb hx hx (Nat.le_refl _) hm (by rw [← hx,List.take_length])
theorem Own.lt (h:Own w base e size A n c xs):∀ k,blkOf A=Option.some k→base≤k∧k<w.heap.size:=fun k hk=>World.ownsRow.lt h k (by rw [ownBlock_slice];exact hk)
theorem Own.len (h:Own w base e size A n c xs):xs.length=n * size:=h.1
theorem Own.cap (h:Own w base e size A n c xs):n≤c∧c≤maxLen:=by
 rcases h.2 with ⟨h1,rfl⟩ | ⟨g,cap,cur,h1,_,_,h2,h3,_⟩
 ·simp only [Value.slice.injEq] at h1
  omega
 ·simp only [Value.slice.injEq] at h1
  omega
theorem Own.alloc (h:Own w base e size A n c xs) (o:Obj):Own (w.alloc o) base e size A n c xs:=World.ownsRow.alloc h o
theorem Own.drew (h:Own w base e size A n c xs):Own w.drew base e size A n c xs:=h
theorem Own.drewN (h:Own w base e size A n c xs) (k:Nat):Own (w.drewN k) base e size A n c xs:=h
theorem Own.kept {row:Option Nat} (h:Own w base e size A n c xs) (hg:w.grownBy w' row) (hne:blkOf A=none∨blkOf A≠row):Own w' base e size A n c xs:=
 World.ownsRow.kept h hg (by rw [ownBlock_slice];exact hne)
theorem Own.below {B:Nat} (h:Own w base e size A n c xs) (hb:Below B w w') (hB:∀ k,blkOf A=Option.some k→k<B):Own w' base e size A n c xs:=by
 refine ⟨h.1,?_⟩
 rcases h.2 with h2 | ⟨g,cap,cur,h1,h2,h3,h4⟩
 ·exact .inl h2
 ·refine .inr ⟨g,cap,cur,h1,h2,(hb.block g (hB g ?_)).trans h3,h4⟩
  simp only [Value.slice.injEq] at h1
  rw [h1.1]
  rfl
theorem Own.next (h:Own w base e size A n c xs) (hb:Below w.heap.size w w'):Own w' base e size A n c xs:=h.below hb fun k hk=>(h.lt k hk).2
theorem Own.setCell (h:Own w base e size A n c xs) {p:Addr} (hp:blkOf A≠Option.some p.block) (u:Value):Own (w.setCell p u) base e size A n c xs:=by
 refine ⟨h.1,?_⟩
 rcases h.2 with h2 | ⟨g,cap,cur,h1,h2,h3,h4⟩
 ·exact .inl h2
 ·refine .inr ⟨g,cap,cur,h1,h2,(Below.heap_setCell w p u g (fun e=>hp ?_)).trans h3,h4⟩
  simp only [Value.slice.injEq] at h1
  rw [h1.1,← e]
  rfl
theorem Own.base_le {b':Nat} (h:Own w base e size A n c xs) (hb:b'≤base):Own w b' e size A n c xs:=by
 refine ⟨h.1,?_⟩
 rcases h.2 with h2 | ⟨g,cap,cur,h1,h2,h3⟩
 ·exact .inl h2
 ·exact .inr ⟨g,cap,cur,h1,Nat.le_trans hb h2,h3⟩
theorem Own.cell (h:Own w base e size A n c xs) {j:Nat} {u:Value} (hj:xs[j]? = Option.some u):∃ g,A=Option.some ⟨g,0,none⟩∧base≤g∧g<w.heap.size∧w.cell? ⟨g,j,none⟩=Option.some u:=by
 rcases h.2 with ⟨h1,rfl⟩ | ⟨g,cap,cur,h1,h2,h3,h4,h5,h6,h7⟩
 ·have:=h.1
  have hl:=(List.getElem?_eq_some_iff.1 hj).1
  omega
 ·simp only [Value.slice.injEq] at h1
  refine ⟨g,h1.1,h2,(Array.getElem?_eq_some_iff.1 h3).1,?_⟩
  rw [cell_of_row w g j cur e (0,0) h3]
  rw [← h7,List.getElem?_take] at hj
  split at hj
  ·simpa using hj
  ·cases hj
end
/-- the cells that a slice begins with -/
def Cells (w:World) (A:Option Addr) (xs:List Value):Prop:=xs=[]∨∃ b o,A=some ⟨b,o,none⟩∧∀ j u,xs[j]? = some u→w.cell? ⟨b,o+j,none⟩=some u
theorem Own.cells {w:World} {base:Nat} {e:TypeId} {size n c:Nat} {A:Option Addr} {xs:List Value} (h:Own w base e size A n c xs):Cells w A xs:=by
 rcases h.2 with ⟨h1,rfl⟩ | ⟨g,cap,cur,h1,h2,h3,h4,h5,h6,h7⟩
 ·exact .inl (List.eq_nil_of_length_eq_zero (by have:=h.1;omega))
 ·simp only [Value.slice.injEq] at h1
  refine .inr ⟨g,0,h1.1,fun j u hu=>?_⟩
  obtain ⟨g',e1,_,_,hc⟩:=h.cell hu
  rw [h1.1] at e1
  simp only [Option.some.injEq,Addr.mk.injEq,and_true] at e1
  rw [e1,Nat.zero_add]
  exact hc
theorem Cells.new (w:World) (t:TypeId) (xs:List Value):Cells (w.alloc (.cells xs.toArray t)) (some ⟨w.heap.size,0,none⟩) xs:=
 .inr ⟨_,_,rfl,fun j u hu=>by rw [Nat.zero_add,World.cell?_alloc_new];simpa using hu⟩
section
variable {P:Program} (w:World)
theorem run_app_nil (base:Nat) (t ty e:TypeId) (i:TypeInfo) (size:Nat) (ht:P.underlying t=some (.slice e)) (hi:P.info? e=some i)
  (v:Value) (n:Nat) (xs:List Value) (hown:w.ownsRow base e size v n xs) (c:Nat):(Builtin.append_ #[t,t] ty #[v,.slice none 0 c]).run P w=.ok v w:=by
 rcases hown.2 with ⟨rfl,rfl⟩ | ⟨g,cap,cur,rfl,_,_,hnc,_⟩
 ·simp [Builtin.append_,run_underlying ht,sizeOf,typeInfo,hi,Builtin.lenOf,Builtin.firstCells]
 ·simp [Builtin.append_,run_underlying ht,sizeOf,typeInfo,hi,Builtin.lenOf,Builtin.firstCells,hnc,storeCells]
theorem own_shape {w:World} {base:Nat} {e:TypeId} {size n:Nat} {v:Value} {xs:List Value} (h:w.ownsRow base e size v n xs):∃ A c,v=.slice A n c:=by
 rcases h.2 with ⟨rfl,rfl⟩ | ⟨g,cap,cur,rfl,_⟩
 ·exact ⟨_,_,rfl⟩
 ·exact ⟨_,_,rfl⟩
theorem run_app {t ty e:TypeId} {size bytes:Nat} (hT:ElemT P t e size bytes) (base:Nat) (A:Option Addr) (n c:Nat) (xs:List Value) (hown:Own w base e size A n c xs)
  (B:Option Addr) (m d:Nat) (news:List Value) (hl:news.length=m * size) (hnews:Cells w B news) (h1:∀ u ∈ news,u.oneCell'=true) (hroom:(n+m) * bytes≤140737488355328) (h63:n+m≤maxLen) (hbase:base≤w.heap.size) :
  ∃ A' c' w',(Builtin.append_ #[t,t] ty #[.slice A n c,.slice B m d]).run P w=.ok (.slice A' (n+m) c') w'∧Own w' base e size A' (n+m) c' (xs ++ news)∧Grew w w' A A':=by
 obtain ⟨i,z,hi,hz,hsize,hby,hzs⟩:=hT.info
 have hpos:=hT.pos
 have key:∀ ad:Addr,B=some ad→(∀ j u,news[j]? = some u→w.cell? (ad.add j)=some u)→∃ A' c' w',(Builtin.append_ #[t,t] ty #[.slice A n c,.slice B m d]).run P w=.ok (.slice A' (n+m) c') w'∧Own w' base e size A' (n+m) c' (xs ++ news)∧Grew w w' A A':=by
  rintro ad rfl hc
  obtain ⟨v',w',hr,h2,h3,_,h5⟩:=run_append_own_at (P:=P) w base t ty e i z size bytes hT.und hi hz hsize hby hzs hT.pos (.slice A n c) n xs hown ad m d news hl hc h1 h63 hroom hbase
  obtain ⟨A',c',rfl⟩:=own_shape h2
  rw [ownBlock_slice] at h3
  rw [ownBlock_slice,ownBlock_slice] at h5
  exact ⟨A',c',w',hr,h2,h3,h5.imp id fun h=>⟨_,Nat.le_refl _,h⟩⟩
 rcases hnews with rfl | ⟨b,o,rfl,hc⟩
 ·have hm:m=0:=by
   rcases Nat.eq_zero_or_pos m with h | h
   ·exact h
   ·have:=Nat.mul_pos h hpos
    simp at hl
    omega
  subst hm
  cases B with
  | none=>exact ⟨A,c,w,run_app_nil w base t ty e i size hT.und hi _ n xs hown d,by simpa [Own] using hown,Grew.refl w A⟩
  | some ad=>exact key ad rfl (fun j u h=>by simp at h)
 ·refine key _ rfl fun j u hu=>?_
  have:(⟨b,o,none⟩:Addr).add j=⟨b,o+j,none⟩:=by unfold Addr.add;split <;> simp_all
  rw [this]
  exact hc j u hu
theorem wp_app {ops:Array Oper} {rest:List Oper} {o:Oper} {a:Act} {Q:Exit→Act→World→Prop} (hgd:o.guard=none) (s x:Operand) (t:TypeId)
  (ho:o.op=.call { callee:=.builtin .append,args:=#[s,x],argTypes:=#[t,t] }) {e:TypeId} {size bytes:Nat} (hT:ElemT P t e size bytes) (base:Nat) (A:Option Addr) (n c:Nat) (xs:List Value) (hs:a.eval s=.slice A n c) (hown:Own w base e size A n c xs)
  (B:Option Addr) (m d:Nat) (news:List Value) (hx:a.eval x=.slice B m d) (hl:news.length=m * size) (hnews:Cells w B news) (h1:∀ u ∈ news,u.oneCell'=true) (hroom:(n+m) * bytes≤140737488355328) (h63:n+m≤maxLen) (hbase:base≤w.heap.size)
  (h:∀ A' c' w',Own w' base e size A' (n+m) c' (xs ++ news)→Grew w w' A A'→wpList P ops Q rest (a.put o.dst (.slice A' (n+m) c')) w'):wpList P ops Q (o :: rest) a w:=
 wpList_plain hgd fun K hK=>by
  obtain ⟨A',c',w',hr,h2,h3⟩:=run_app (P:=P) (ty:=o.type) w hT base A n c xs hown B m d news hl hnews h1 hroom h63 hbase
  unfold Oper.wp execOp
  simp only [ho,resolve,invoke,builtin,Sem.run_bind,Sem.run_pure,Result.andThen_ok,List.map_toArray,List.map_cons,List.map_nil,hs,hx,hr]
  exact hK _ _ (h A' c' w' h2 h3)
end
/-! ### Readings out of rows of the call's own -/
theorem SlRep.cells_u8 {w:World} {S:Nat→Prop} {l:List UInt8} {A:Option Addr} {c:Nat} (h:SlRep Rep.u8 w S l A c):Cells w A (l.map fun b=>Value.int .u8 (b.toNat:Int)):=by
 rcases h.2.2 with rfl | ⟨b,o,rfl,_,hr⟩
 ·exact .inl rfl
 ·refine .inr ⟨b,o,rfl,fun j u hu=>?_⟩
  rw [List.getElem?_map] at hu
  obtain ⟨y,hy,rfl⟩:=Option.map_eq_some_iff.1 hu
  obtain ⟨cs,hcs,hc⟩:=hr j y hy
  subst hcs
  have:=hc 0 _ rfl
  simpa [Rep.u8] using this
theorem Own.u8 {w:World} {base:Nat} {e:TypeId} {A:Option Addr} {n c:Nat} {l:List UInt8} (h:Own w base e 1 A n c (l.map fun b=>Value.int .u8 (b.toNat:Int))):n=l.length∧SlRep Rep.u8 w (fun k=>base≤k∧k<w.heap.size) l A c:=by
 have hn:n=l.length:=by have:=h.len;simp at this;omega
 refine ⟨hn,⟨by have:=h.cap;omega,h.cap.2,?_⟩⟩
 cases l with
 | nil=>exact .inl rfl
 | cons x r=>
  obtain ⟨g,rfl,h1,h2,_⟩:=h.cell (j:=0) (u:=.int .u8 (x.toNat:Int)) rfl
  refine .inr ⟨g,0,rfl,⟨h1,h2⟩,fun i y hy=>⟨_,rfl,fun j u hu=>?_⟩⟩
  obtain ⟨g',e1,_,_,hc⟩:=h.cell (j:=i) (u:=.int .u8 (y.toNat:Int)) (by rw [List.getElem?_map,hy];rfl)
  simp only [Option.some.injEq,Addr.mk.injEq,and_true] at e1
  subst e1
  have hj:j=0:=by have:=(List.getElem?_eq_some_iff.1 hu).1;simp at this;omega
  subst hj
  simp at hu
  subst hu
  simpa [Rep.u8] using hc
theorem oneCell_u8 (l:List UInt8):∀ u ∈ (l.map fun b=>Value.int .u8 (b.toNat:Int)),u.oneCell'=true:=by
 intro u hu
 obtain ⟨b,_,rfl⟩:=List.mem_map.1 hu
 rfl
end Go.Proofs.Ytdldfllllgogoaa
namespace Go.Proofs.Ytdldfllllgogoaa
open Go.RowKit
theorem Cells.newAt (w:World) (t:TypeId) (xs:List Value) {b:Nat} (hb:b=w.heap.size):Cells (w.alloc (.cells xs.toArray t)) (some ⟨b,0,none⟩) xs:=by
 subst hb
 exact Cells.new w t xs
theorem Grew.cell {w w':World} {A A':Option Addr} (h:Grew w w' A A') {b:Nat} (o:Nat) (hb:b<w.heap.size) (hne:∀ k,blkOf A=some k→k≠b):w'.cell? ⟨b,o,none⟩=w.cell? ⟨b,o,none⟩:=
 World.cell?_of_block (h.grown.block b hb (fun e=>hne b e.symm rfl))
theorem Grew.frozen {w w':World} {A A':Option Addr} (h:Grew w w' A A') {b:Nat} (o:Nat) (hb:b<w.heap.size) (hne:∀ k,blkOf A=some k→k≠b):w'.frozen? ⟨b,o,none⟩=w.frozen? ⟨b,o,none⟩:=
 World.frozen?_of_block (h.grown.block b hb (fun e=>hne b e.symm rfl))
theorem flatMap_at {α:Type} (f:α→List Value) (size:Nat) (hf:∀ a,(f a).length=size):∀ (l:List α) (i:Nat) (y:α),l[i]? = some y→∀ j,j<size→(l.flatMap f)[i * size+j]? = (f y)[j]?
 | [],i,y,h,j,_=>by simp at h
 | x :: r,0,y,h,j,hj=>by
  simp at h
  subst h
  rw [List.flatMap_cons,Nat.zero_mul,Nat.zero_add,List.getElem?_append_left (by rw [hf];exact hj)]
 | x :: r,i+1,y,h,j,hj=>by
  rw [List.flatMap_cons,List.getElem?_append_right (by rw [hf,Nat.succ_mul];omega),hf,show (i+1) * size+j - size=i * size+j by rw [Nat.succ_mul];omega]
  exact flatMap_at f size hf r i y (by simpa using h) j hj
theorem flatMap_len {α:Type} (f:α→List Value) (size:Nat) (hf:∀ a,(f a).length=size):∀ l:List α,(l.flatMap f).length=l.length * size
 | []=>by simp
 | x :: r=>by rw [List.flatMap_cons,List.length_append,hf,flatMap_len f size hf r,List.length_cons,Nat.succ_mul,Nat.add_comm]
theorem Own.flat {w:World} {base:Nat} {e:TypeId} {A:Option Addr} {n c size:Nat} {α:Type} {R:Rep α} (enc:α→List Value) (hR:R.size=size) (henc:∀ (S:Nat→Prop) (a:α),R.rep w S a (enc a)) (hpos:0<size) {l:List α}
  (h:Own w base e size A n c (l.flatMap enc)):n=l.length∧SlRep R w (fun k=>base≤k∧k<w.heap.size) l A c:=by
 subst hR
 have hf:∀ a,(enc a).length=R.size:=fun a=>R.len (henc (fun _=>True) a)
 have hn:n=l.length:=by
  have h1:=h.len
  rw [flatMap_len enc R.size hf] at h1
  exact (Nat.eq_of_mul_eq_mul_right hpos h1).symm
 refine ⟨hn,⟨by have:=h.cap;omega,h.cap.2,?_⟩⟩
 cases l with
 | nil=>exact .inl rfl
 | cons x r=>
  have h0:((x :: r).flatMap enc)[0]? = Option.some ((enc x)[0]'(by rw [hf];exact hpos)):=by
   have:=flatMap_at enc R.size hf (x :: r) 0 x rfl 0 hpos
   rw [Nat.zero_mul,Nat.zero_add] at this
   rw [this,List.getElem?_eq_getElem]
  obtain ⟨g,rfl,h1,h2,_⟩:=h.cell h0
  refine .inr ⟨g,0,rfl,⟨h1,h2⟩,fun i y hy=>⟨enc y,henc _ y,fun j u hu=>?_⟩⟩
  have hj:j<R.size:=by rw [← hf y];exact (List.getElem?_eq_some_iff.1 hu).1
  obtain ⟨g',e1,_,_,hc⟩:=h.cell (j:=i * R.size+j) (u:=u) (by rw [flatMap_at enc R.size hf _ i y hy j hj];exact hu)
  simp only [Option.some.injEq,Addr.mk.injEq,and_true] at e1
  subst e1
  rw [Nat.zero_add]
  exact hc
theorem SlRep.cells_flat {w:World} {S:Nat→Prop} {α:Type} {R:Rep α} {l:List α} {A:Option Addr} {c size:Nat} (enc:α→List Value) (hR:R.size=size) (hinv:∀ a cs,R.rep w S a cs→cs=enc a) (henc:∀ a,(enc a).length=size) (hpos:0<size)
  (h:SlRep R w S l A c):Cells w A (l.flatMap enc):=by
 subst hR
 rcases h.2.2 with rfl | ⟨b,o,rfl,_,hr⟩
 ·exact .inl rfl
 ·refine .inr ⟨b,o,rfl,fun j u hu=>?_⟩
  have hj:j<l.length * R.size:=by rw [← flatMap_len enc R.size henc];exact (List.getElem?_eq_some_iff.1 hu).1
  have hi:j / R.size<l.length:=(Nat.div_lt_iff_lt_mul hpos).2 hj
  have hy:l[j / R.size]? = some (l[j / R.size]'hi):=List.getElem?_eq_getElem hi
  obtain ⟨cs,hcs,hc⟩:=hr _ _ hy
  rw [hinv _ _ hcs] at hc
  have hm:j % R.size<R.size:=Nat.mod_lt _ hpos
  have hdm:j / R.size * R.size+j % R.size=j:=by rw [Nat.mul_comm];exact Nat.div_add_mod j R.size
  have:=flatMap_at enc R.size henc l _ _ hy (j % R.size) hm
  rw [hdm,hu] at this
  have h2:=hc (j % R.size) u this.symm
  rw [Nat.add_assoc,hdm] at h2
  exact h2
end Go.Proofs.Ytdldfllllgogoaa
namespace Go.Proofs.Ytdldfllllgogoaa
open Go.RowKit
def Rng.z:Rng:=⟨0,0⟩
theorem elemRng:ElemT Try.prog 39 78 2 16:=ElemT.of Try.underlying39 (z:=.agg #[.int .i64 0,.int .i64 0]) (by kernel_rfl) rfl (by decide)
theorem Own.rng {w:World} {base:Nat} {e:TypeId} {A:Option Addr} {n c:Nat} {l:List Rng} (h:Own w base e 2 A n c (l.flatMap Rng.cells)):n=l.length∧SlRep Rng.rep w (fun k=>base≤k∧k<w.heap.size) l A c:=
 Own.flat Rng.cells rfl (fun S a=>Rng.enc w S a) (by decide) h
theorem sl_nil {α:Type} (R:Rep α) (w:World) (S:Nat→Prop):SlRep R w S [] none 0:=⟨by simp,by simp,.inl rfl⟩
end Go.Proofs.Ytdldfllllgogoaa
namespace Go.Proofs.Ytdldfllllgogoaa
open Go.RowKit
theorem elemU8:ElemT Try.prog 28 5 1 1:=ElemT.of Try.underlying28 (z:=.int .u8 0) (by kernel_rfl) rfl (by decide)
def u8v (b:UInt8):Value:=.int .u8 (b.toNat:Int)
/-- a number's lowest byte -/
def byteOf (x:Int):UInt8:=UInt8.ofNat (x % 256).toNat
theorem byteOf_toNat (x:Int):((byteOf x).toNat:Int)=x % 256:=by
 unfold byteOf
 rw [UInt8.toNat_ofNat']
 omega
set_option maxHeartbeats 400000 in
theorem law_sameBytes_q (l:List UInt8) (A A':Option Addr) (c c':Nat) (S S':Nat→Prop) (w:World) (hl:SlRep Rep.u8 w S l A c) (hl':SlRep Rep.u8 w S' l A' c') (hn:l.length≤9223372036854775807) :
  Calls Try.prog 9 #[.slice A l.length c,.slice A' l.length c'] w fun e w'=>e=.returned (.bool true)∧∃ m,w'=w.drewN m:=by
 have HL:=Lib.hid hl
 have HL':=Lib.hid hl'
 clear hl hl'
 go_enter Try.func9,Try.ntmps9
 go_wp2
 go_loopw [5] (fun i wr=>∃ k m:Nat,k≤l.length∧i=.int .i64 k∧wr=w.drewN m) (fun i _=>l.length - (intOf i).toNat)
 case atStart=>exact ⟨0,0,by omega,rfl,rfl⟩
 case round=>
  obtain ⟨k,m,hk,rfl,rfl⟩:=hrel
  by_cases hlt:k<l.length
  ·obtain ⟨b,o,rfl,_,hc1⟩:=u8_at HL.out hlt
   obtain ⟨b',o',rfl,_,hc2⟩:=u8_at HL'.out hlt
   have hlt':(k:Int)<(l.length:Int):=by omega
   generalize (l.getD k 0).toNat=x at *
   go_wp2
   go_quiet (fail)
   go_wp2
   go_roundw
   case rel=>exact ⟨k+1,_,by omega,by go_num,rfl⟩
   case measure=>simp [intOf];omega
  ·go_wp2
   go_ret
   exact ⟨rfl,m,rfl⟩
theorem law_sameBytes (l:List UInt8) (A A':Option Addr) (c c':Nat) (S S':Nat→Prop) (w:World) (hl:SlRep Rep.u8 w S l A c) (hl':SlRep Rep.u8 w S' l A' c') (hn:l.length≤9223372036854775807) :
  Calls Try.prog 9 #[.slice A l.length c,.slice A' l.length c'] w fun e w'=>e=.returned (.bool true)∧Below w.heap.size w w':=
 (law_sameBytes_q l A A' c c' S S' w hl hl' hn).mono fun e w' ⟨he,m,hw⟩=>⟨he,by rw [hw];exact bdrewN (bself w) m⟩
/-! ### What a call answers: a list, or a fault -/
def exL {α:Type}:Except Int (List α)→List α
 | .ok l=>l
 | .error _=>[]
def exC {β:Type}:Except Int β→Int
 | .ok _=>0
 | .error c=>c
def BytesRes (r:Except Int (List UInt8)) (w:World) (e:Ending) (w':World):Prop:=
 ∃ A c,e=.returned (.tuple #[.slice A (exL r).length c,.int .i64 (exC r)])∧Own w' w.heap.size 5 1 A (exL r).length c ((exL r).map u8v)∧Below w.heap.size w w'
theorem BytesRes.no {r:Except Int (List UInt8)} {c:Int} (h:r=.error c) {w w':World} (hb:Below w.heap.size w w'):BytesRes r w (.returned (.tuple #[.slice none 0 0,.int .i64 c])) w':=by
 subst h
 exact ⟨none,0,rfl,Own.nil _ _ _ _,hb⟩
theorem BytesRes.yes {r:Except Int (List UInt8)} {l:List UInt8} (h:r=.ok l) {w w':World} {A:Option Addr} {n c:Nat} (ho:Own w' w.heap.size 5 1 A n c (l.map u8v)) (hb:Below w.heap.size w w'):BytesRes r w (.returned (.tuple #[.slice A n c,.int .i64 0])) w':=by
 subst h
 have hn:=ho.u8.1
 subst hn
 exact ⟨A,c,rfl,ho,hb⟩
end Go.Proofs.Ytdldfllllgogoaa
namespace Go.Proofs.Ytdldfllllgogoaa
open Go.RowKit
section
variable {P:Program} (w:World)
theorem wp_run {ops:Array Oper} {rest:List Oper} {o:Oper} {a:Act} {Q:Exit→Act→World→Prop} (hgd:o.guard=none) (s x:Operand) (t1 t2:TypeId)
  (ho:o.op=.call { callee:=.builtin .append,args:=#[s,x],argTypes:=#[t1,t2] }) {v1 v2 v:Value} {w':World} (hs:a.eval s=v1) (hx:a.eval x=v2)
  (hr:(Builtin.append_ #[t1,t2] o.type #[v1,v2]).run P w=.ok v w') (h:wpList P ops Q rest (a.put o.dst v) w'):wpList P ops Q (o :: rest) a w:=
 wpList_plain hgd fun K hK=>by
  unfold Oper.wp execOp
  simp only [ho,resolve,invoke,builtin,Sem.run_bind,Sem.run_pure,Result.andThen_ok,List.map_toArray,List.map_cons,List.map_nil,hs,hx,hr]
  exact hK _ _ h
theorem step_app {ops:Array Oper} {o:Oper} {a:Act} {K:Act→World→Prop} {Q:Exit→Act→World→Prop} {E:Prop} (hgd:o.guard=none) (s x:Operand) (t:TypeId)
  (ho:o.op=.call { callee:=.builtin .append,args:=#[s,x],argTypes:=#[t,t] }) {e:TypeId} {size bytes:Nat} (hT:ElemT P t e size bytes) (base:Nat) (A:Option Addr) (n c:Nat) (xs:List Value) (hs:a.eval s=.slice A n c) (hown:Own w base e size A n c xs)
  (B:Option Addr) (m d:Nat) (news:List Value) (hx:a.eval x=.slice B m d) (hl:news.length=m * size) (hnews:Cells w B news) (h1:∀ u ∈ news,u.oneCell'=true) (hroom:(n+m) * bytes≤140737488355328) (h63:n+m≤maxLen) (hbase:base≤w.heap.size)
  (h:∀ A' c' w',Own w' base e size A' (n+m) c' (xs ++ news)→Grew w w' A A'→K (a.put o.dst (.slice A' (n+m) c')) w') :
  if Region.wanted o (yielded ops a.tmps)=true then Oper.wp P o a w K Q else E:=by
 have hw:Region.wanted o (yielded ops a.tmps)=true:=by simp [Region.wanted,hgd]
 rw [if_pos hw]
 obtain ⟨A',c',w',hr,h2,h3⟩:=run_app (P:=P) (ty:=o.type) w hT base A n c xs hown B m d news hl hnews h1 hroom h63 hbase
 unfold Oper.wp execOp
 simp only [ho,resolve,invoke,builtin,Sem.run_bind,Sem.run_pure,Result.andThen_ok,List.map_toArray,List.map_cons,List.map_nil,hs,hx,hr]
 exact h A' c' w' h2 h3
end
theorem Grew.ne {w w':World} {A A':Option Addr} (h:Grew w w' A A') {b:Nat} (hA:∀ k,blkOf A=some k→k≠b) (hb:b<w.heap.size):∀ k,blkOf A'=some k→k≠b:=by
 intro k hk
 rcases h.blk with e | ⟨g,hg,e⟩
 ·rw [e] at hk
  exact hA k hk
 ·rw [hk] at e
  cases e
  omega
theorem Cells.len_of_none {w:World} {xs:List Value} (h:Cells w none xs):xs=[]:=by
 rcases h with h | ⟨b,o,h,_⟩
 ·exact h
 ·cases h
/-! ### A cut of a slice: its address under one name -/
def cutA (A:Option Addr) (c f size:Nat):Option Addr:=if c=f then A else A.map (·.add (f * size))
theorem addr_add (b o n:Nat):(⟨b,o,none⟩:Addr).add n=⟨b,o+n,none⟩:=by unfold Addr.add;split <;> simp_all
theorem SlRep.cut {α:Type} {R:Rep α} {w:World} {S:Nat→Prop} {l:List α} {A:Option Addr} {c:Nat} (h:SlRep R w S l A c) {f n:Nat} (hf:f+n≤l.length):SlRep R w S ((l.drop f).take n) (cutA A c f R.size) (c - f):=by
 have hl:((l.drop f).take n).length=n:=by rw [List.length_take,List.length_drop];omega
 obtain ⟨h1,h2,h3⟩:=h
 refine ⟨by rw [hl];omega,by omega,?_⟩
 by_cases hn:n=0
 ·subst hn
  exact .inl (by simp)
 ·rcases h3 with rfl | ⟨b,o,rfl,hb,hr⟩
  ·simp at hf;omega
  ·refine .inr ⟨b,o+f * R.size,?_,hb,fun i a hi=>?_⟩
   ·unfold cutA
    rw [if_neg (by omega),Option.map_some,addr_add]
   ·have hi':l[f+i]? = some a:=by
     rw [List.getElem?_take] at hi
     split at hi
     ·rwa [List.getElem?_drop] at hi
     ·cases hi
    obtain ⟨cs,hcs,hc⟩:=hr (f+i) a hi'
    refine ⟨cs,hcs,fun j u hu=>?_⟩
    rw [← hc j u hu]
    congr 2
    rw [Nat.add_mul]
    omega
theorem SlRep.take {α:Type} {R:Rep α} {w:World} {S:Nat→Prop} {l:List α} {A:Option Addr} {c:Nat} (h:SlRep R w S l A c) (n:Nat):SlRep R w S (l.take n) A c:=by
 obtain ⟨h1,h2,h3⟩:=h
 refine ⟨Nat.le_trans (by rw [List.length_take];exact Nat.min_le_right _ _) h1,h2,?_⟩
 rcases h3 with rfl | ⟨b,o,rfl,hb,hr⟩
 ·exact .inl (by simp)
 ·refine .inr ⟨b,o,rfl,hb,fun i a hi=>hr i a ?_⟩
  rw [List.getElem?_take] at hi
  split at hi
  ·exact hi
  ·cases hi
theorem SlRep.drop {α:Type} {R:Rep α} {w:World} {S:Nat→Prop} {l:List α} {A:Option Addr} {c:Nat} (h:SlRep R w S l A c) {f:Nat} (hf:f≤l.length):SlRep R w S (l.drop f) (cutA A c f R.size) (c - f):=by
 have:=h.cut (f:=f) (n:=l.length - f) (by omega)
 rwa [List.take_of_length_le (by rw [List.length_drop];exact Nat.le_refl _)] at this
section
variable {P:Program}
theorem run_sizeOf_ {e:TypeId} {i:TypeInfo} {size:Nat} (hi:P.info? e=some i) (hs:i.size=size) (W:World):(sizeOf e).run P W=.ok size W:=by
 simp [sizeOf,typeInfo,hi,hs]
theorem run_cut_lh {t e:TypeId} {size bytes:Nat} (hT:ElemT P t e size bytes) (A:Option Addr) (n c f m:Nat) (hc:f+m≤c) (i j:Int) (hi:i=f) (hj:j=(f:Int)+m) (W:World) :
  (Instr.slice t (.slice A n c) (some (.int .i64 i)) (some (.int .i64 j)) none).run P W=.ok (.slice (cutA A c f size) m (c - f)) W:=by
 subst hi;subst hj
 obtain ⟨inf,z,hi,hz,hsize,hby,hzs⟩:=hT.info
 have he:P.underlying t=some (.slice (P.elem t)):=by rw [hT.und,Program.elem,hT.und]
 have he2:P.elem t=e:=by rw [Program.elem,hT.und]
 rw [run_slice_lh W t A n c he .i64 .i64 f ((f:Int)+m) (by omega) (by omega) (by omega),he2]
 rw [run_sizeOf_ hi hsize W]
 simp [sliced,cutA,show ((f:Int)+m).toNat=f+m by omega]
theorem run_cut_l {t e:TypeId} {size bytes:Nat} (hT:ElemT P t e size bytes) (A:Option Addr) (n c f:Nat) (hn:f≤n) (i:Int) (hi:i=f) (W:World) :
  (Instr.slice t (.slice A n c) (some (.int .i64 i)) none none).run P W=.ok (.slice (cutA A c f size) (n - f) (c - f)) W:=by
 subst hi
 obtain ⟨inf,z,hi,hz,hsize,hby,hzs⟩:=hT.info
 have he:P.underlying t=some (.slice (P.elem t)):=by rw [hT.und,Program.elem,hT.und]
 have he2:P.elem t=e:=by rw [Program.elem,hT.und]
 rw [run_slice_l W t A n c he .i64 f (by omega) (by omega),he2]
 rw [run_sizeOf_ hi hsize W]
 simp [sliced,cutA]
theorem run_cut_h {t e:TypeId} {size bytes:Nat} (hT:ElemT P t e size bytes) (A:Option Addr) (n c m:Nat) (hc:m≤c) (j:Int) (hj:j=m) (W:World) :
  (Instr.slice t (.slice A n c) none (some (.int .i64 j)) none).run P W=.ok (.slice A m c) W:=by
 subst hj
 obtain ⟨inf,z,hi,hz,hsize,hby,hzs⟩:=hT.info
 have he:P.underlying t=some (.slice (P.elem t)):=by rw [hT.und,Program.elem,hT.und]
 have he2:P.elem t=e:=by rw [Program.elem,hT.und]
 rw [run_slice_h W t A n c he .i64 m (by omega) (by omega),he2]
 rw [run_sizeOf_ hi hsize W]
 simp only [sliced,Result.andThen_ok]
 have:∀ a:Addr,a.add 0=a:=fun a=>by unfold Addr.add;split <;> simp_all
 cases A <;> simp [this]
end
set_option maxRecDepth 100000 in
set_option maxHeartbeats 400000 in
theorem clone_u8 (n:Nat) (A:Option Addr) (c:Nat) (xs:List Value) (w:World) (hx:xs.length=n) (hc:∀ w',Below w.heap.size w w'→Cells w' A xs) (h1:∀ u ∈ xs,u.oneCell'=true) (hn:n≤140737488351232) :
  Calls Try.prog 36 #[.slice A n c] w fun e w'=>∃ A' c',e=.returned (.slice A' n c')∧Own w' w.heap.size 5 1 A' n c' xs∧Below w.heap.size w w':=by
 cases A with
 | none=>
  obtain rfl:=(hc w (bself w)).len_of_none
  obtain rfl:n=0:=by simpa using hx.symm
  have hq:=Lib.run_eql_slice_nil (P:=Try.prog) w 28 5 none 0 c 0 0 Try.underlying28
  simp only [Option.isNone] at hq
  go_enter Try.func36,Try.ntmps36
  go_wp2
  go_ret
  exact ⟨none,0,rfl,Own.nil _ _ _ _,bself w⟩
 | some a=>
  have HC:=Lib.hid hc
  have HX:=Lib.hid hx
  have H1:=Lib.hid h1
  clear hc hx h1
  have hq:=Lib.run_eql_slice_nil (P:=Try.prog) w 28 5 (some a) n c 0 0 Try.underlying28
  simp only [Option.isNone] at hq
  go_enter Try.func36,Try.ntmps36
  go_wp2_with (at_builtin;refine wp_app _ rfl _ _ _ rfl elemU8 w.heap.size _ 0 0 [] rfl (Own.lit w w.heap.size _ 1 0 [] (Nat.le_refl _) rfl (by decide)) _ n _ xs rfl (by rw [HX.out,Nat.mul_one]) (HC.out _ (balloc (bself w) _)) H1.out (by omega) (by unfold maxLen;omega) (by simp) ?_;intro A3 c3 w4 hO4 hg4;have HO4:=Lib.hid hO4;clear hO4)
  go_ret
  exact ⟨A3,c3,rfl,by simpa using HO4.out,Grew.step (balloc (bself w) _) hg4 (fun k hk=>by cases hk;exact Nat.le_refl _)⟩
end Go.Proofs.Ytdldfllllgogoaa
namespace Go.Proofs.Ytdldfllllgogoaa
open Go.RowKit
/-! Two rows that grow beside each other -/
theorem Own.kept' {w w':World} {base:Nat} {e:TypeId} {size n c:Nat} {A B B':Option Addr} {xs:List Value} (h:Own w base e size A n c xs) (hg:Grew w w' B B') (hne:∀ k,blkOf A=Option.some k→blkOf B≠Option.some k):Own w' base e size A n c xs:=
 h.kept hg.grown (by
  cases hA:blkOf A with
  | none=>exact .inl rfl
  | some k=>exact .inr (fun e=>hne k hA e.symm))
/-- the row A lies in no block of B's -/
def Two (A B:Option Addr):Prop:=∀ k,blkOf A=some k→blkOf B≠some k
theorem Two.left {w w':World} {A A' B:Option Addr} (h:Two A B) (hg:Grew w w' A A') (hB:∀ k,blkOf B=some k→k<w.heap.size):Two A' B:=fun k hk e=>by
 rcases hg.blk with e' | ⟨g,hg',e'⟩
 ·exact h k (e' ▸ hk) e
 ·rw [e'] at hk
  cases hk
  have:=hB _ e
  omega
theorem Two.symm {A B:Option Addr} (h:Two A B):Two B A:=fun k hk e=>h k e hk
theorem Two.none_left (B:Option Addr):Two none B:=fun k hk=>by cases hk
end Go.Proofs.Ytdldfllllgogoaa
namespace Go.Proofs.Ytdldfllllgogoaa
open Go.RowKit
theorem clone_rng (l:List Rng) (A:Option Addr) (c:Nat) (w:World) (hl:SlRep Rng.rep w (· < w.heap.size) l A c) (hn:l.length≤1048576) :
  Calls Try.prog 95 #[.slice A l.length c] w fun e w'=>∃ A' c',e=.returned (.slice A' l.length c')∧Own w' w.heap.size 78 2 A' l.length c' (l.flatMap Rng.cells)∧Below w.heap.size w w':=by
 have hc:∀ w',Below w.heap.size w w'→Cells w' A (l.flatMap Rng.cells):=fun w' hb=>(hl.next hb).cells_flat Rng.cells rfl (fun a cs h=>Rng.rep_iff.1 h) (fun _=>rfl) (by decide)
 have hx:(l.flatMap Rng.cells).length=l.length * 2:=flatMap_len Rng.cells 2 (fun _=>rfl) l
 have h1:∀ u ∈ l.flatMap Rng.cells,u.oneCell'=true:=Rng.one l
 clear hl
 generalize l.flatMap Rng.cells=xs at *
 generalize l.length=n at *
 cases A with
 | none=>
  obtain rfl:=(hc w (bself w)).len_of_none
  obtain rfl:n=0:=by simp at hx;omega
  have hq:=Lib.run_eql_slice_nil (P:=Try.prog) w 39 78 none 0 c 0 0 Try.underlying39
  simp only [Option.isNone] at hq
  go_enter Try.func95,Try.ntmps95
  go_wp2
  go_ret
  exact ⟨none,0,rfl,Own.nil _ _ _ _,bself w⟩
 | some a=>
  have HC:=Lib.hid hc
  have HX:=Lib.hid hx
  have H1:=Lib.hid h1
  clear hc hx h1
  have hq:=Lib.run_eql_slice_nil (P:=Try.prog) w 39 78 (some a) n c 0 0 Try.underlying39
  simp only [Option.isNone] at hq
  go_enter Try.func95,Try.ntmps95
  go_wp2_with (at_builtin;refine wp_app _ rfl _ _ _ rfl elemRng w.heap.size _ 0 0 [] rfl (Own.lit w w.heap.size _ 2 0 [] (Nat.le_refl _) rfl (by decide)) _ n _ xs rfl HX.out (HC.out _ (balloc (bself w) _)) H1.out (by omega) (by unfold maxLen;omega) (by simp) ?_;intro A3 c3 w4 hO4 hg4;have HO4:=Lib.hid hO4;clear hO4)
  go_ret
  exact ⟨A3,c3,rfl,by simpa using HO4.out,Grew.step (balloc (bself w) _) hg4 (fun k hk=>by cases hk;exact Nat.le_refl _)⟩
set_option maxRecDepth 100000 in
theorem grow_rng (n:Nat) (w:World) (hn:n≤1048576) :
  Calls Try.prog 99 #[.slice none 0 0,.int .i64 n] w fun e w'=>∃ A' c',e=.returned (.slice A' 0 c')∧Own w' w.heap.size 78 2 A' 0 c' []∧Below w.heap.size w w':=by
 by_cases h0:n=0
 ·subst h0
  go_enter Try.func99,Try.ntmps99
  go_wp2
  go_ret
  exact ⟨none,0,rfl,Own.nil _ _ _ _,bself w⟩
 ·have hp:0<n:=by omega
  clear h0
  obtain ⟨i0,z,hi,hz,hsize,hby,hzs⟩:=elemRng.info
  have hr:=Lib.run_append_grow_zeros (P:=Try.prog) w 39 3 39 78 i0 z .i64 .i64 elemRng.und Try.underlying3 hi hz none 0 0 [] (run_firstCells_none w.drew i0.size 0 0 0) n hp (by omega) (by omega) (by omega) (by rw [hby];omega) (by rw [hby];exact growslice_fits (by omega) (by omega))
  obtain ⟨G,hG⟩:∃ G,G=grownCap w (0+n) 0 78:=⟨_,rfl⟩
  have hG1:0+n≤G:=by rw [hG];exact grownCap_ge w _ _ _
  have hG2:G≤maxLen:=by rw [hG];exact grownCap_le_maxLen w _ _ _ (by unfold maxLen;omega)
  rw [← hG] at hr
  obtain ⟨cs,hcs0⟩:∃ cs,cs=(#[] ++ Builtin.zeroCells z.cells n ++ Builtin.zeroCells z.cells (G - (0+n))):=⟨_,rfl⟩
  have hcs:cs.size=G * 2:=by rw [hcs0];simp [Builtin.zeroCells,hzs];omega
  rw [show ([]:List Value).toArray = #[] from rfl,← hcs0] at hr
  clear hcs0
  have HC:=Lib.hid hcs
  have HG2:=Lib.hid hG2
  rw [Nat.zero_add] at hr hG1
  clear hcs hG hzs hi hz hsize hby
  have HR:=Lib.hid hr
  clear hr
  go_enter Try.func99,Try.ntmps99
  go_wp2_with (at_builtin;refine wp_run _ rfl _ _ _ _ rfl rfl rfl HR.out ?_)
  go_ret
  refine ⟨some ⟨w.heap.size,0,none⟩,G,by simp,?_,(by repeat (first | (with_reducible first | exact Below.refl _ _ | assumption | refine bset ?_ ?_ _ | refine balloc ?_ _ | refine Below.drew ?_ | refine bdrewN ?_ _ | refine bnext ?_ (by with_reducible assumption)) | exact Nat.le_refl _ | (simp;done) | omega | (simp;omega)))⟩
  have:=Own.new w.drew w.heap.size 78 2 0 G [] cs.toList (Nat.le_refl _) rfl (by rw [Array.length_toList,HC.out]) (Nat.zero_le _) HG2.out (by simp)
  rw [Array.toArray_toList] at this
  exact this
set_option maxRecDepth 100000 in
set_option maxHeartbeats 2000000 in
theorem concat3_rng (l1 l2 l3:List Rng) (A1 A2 A3:Option Addr) (c1 c2 c3 B:Nat) (w:World) (hB:B<w.heap.size) (hx1:w.cell? ⟨B,0,none⟩=some (.slice A1 l1.length c1)) (hx2:w.cell? ⟨B,1,none⟩=some (.slice A2 l2.length c2)) (hx3:w.cell? ⟨B,2,none⟩=some (.slice A3 l3.length c3))
  (h1:SlRep Rng.rep w (· < w.heap.size) l1 A1 c1) (h2:SlRep Rng.rep w (· < w.heap.size) l2 A2 c2) (h3:SlRep Rng.rep w (· < w.heap.size) l3 A3 c3) (hn:l1.length+l2.length+l3.length≤1048576) :
  Calls Try.prog 78 #[.slice (some ⟨B,0,none⟩) 3 3] w fun e w'=>∃ A' c',e=.returned (.slice A' (l1 ++ l2 ++ l3).length c')∧Own w' w.heap.size 78 2 A' (l1 ++ l2 ++ l3).length c' ((l1 ++ l2 ++ l3).flatMap Rng.cells)∧Below w.heap.size w w':=by
 have H1:=Lib.hid h1
 have H2:=Lib.hid h2
 have H3:=Lib.hid h3
 have CL:Hid (∀ (l:List Rng) (A:Option Addr) (c:Nat) (W:World),SlRep Rng.rep w (· < w.heap.size) l A c→Below w.heap.size w W→Cells W A (l.flatMap Rng.cells)):=Lib.hid fun l A c W hl hW=>(hl.next hW).cells_flat Rng.cells rfl (fun a cs h=>Rng.rep_iff.1 h) (fun _=>rfl) (by decide)
 clear h1 h2 h3
 go_enter Try.func78,Try.ntmps78
 go_wp2
 go_loop [3,11] (fun s i=>(i=.int .i64 0∧s=.int .i64 0)∨(i=.int .i64 1∧s=.int .i64 l1.length)∨(i=.int .i64 2∧s=.int .i64 ((l1.length:Int)+l2.length))∨(i=.int .i64 3∧s=.int .i64 ((l1.length:Int)+l2.length+l3.length))) (fun _ i=>3 - (intOf i).toNat)
 case atStart=>exact .inl ⟨rfl,rfl⟩
 case round=>
  rcases hrel with ⟨rfl,rfl⟩ | ⟨rfl,rfl⟩ | ⟨rfl,rfl⟩ | ⟨rfl,rfl⟩
  ·go_wp2
   go_round
   case rel=>exact .inr (.inl ⟨rfl,rfl⟩)
   case measure=>simp [intOf]
  ·go_wp2
   go_round
   case rel=>exact .inr (.inr (.inl ⟨rfl,rfl⟩))
   case measure=>simp [intOf]
  ·go_wp2
   go_round
   case rel=>exact .inr (.inr (.inr ⟨rfl,rfl⟩))
   case measure=>simp [intOf]
  ·have HS:Hid (((l1.length:Int)+(l2.length:Int)+(l3.length:Int))=((l1.length+l2.length+l3.length:Nat):Int)):=Lib.hid (by omega)
   have HG:=Lib.hid (grow_rng (l1.length+l2.length+l3.length) w hn)
   go_wp2_with (go_at_call 99;go_loud (rw [HS.out];refine HG.out.mono ?_;rintro e w1 ⟨A',c',rfl,ho,hb1⟩))
   have HO:=Lib.hid ho
   clear ho HG HS
   have h1B:w1.cell? ⟨B,0,none⟩=some (.slice A1 l1.length c1):=(hb1.cell (p:=⟨B,0,none⟩) hB).trans hx1
   have h2B:w1.cell? ⟨B,1,none⟩=some (.slice A2 l2.length c2):=(hb1.cell (p:=⟨B,1,none⟩) hB).trans hx2
   have h3B:w1.cell? ⟨B,2,none⟩=some (.slice A3 l3.length c3):=(hb1.cell (p:=⟨B,2,none⟩) hB).trans hx3
   have hsz:=hb1.size
   have HX1:=Lib.hid h1B
   have HX2:=Lib.hid h2B
   have HX3:=Lib.hid h3B
   clear h1B h2B h3B hx1 hx2 hx3
   go_wp2
   go_loopw [6,27] (fun out i wr=>∃ (k:Nat) (l:List Rng) (A':Option Addr) (c':Nat),k≤3∧i=.int .i64 k∧out=.slice A' l.length c'∧Hid (l=if k=0 then [] else if k=1 then l1 else if k=2 then l1 ++ l2 else l1 ++ l2 ++ l3)∧Hid (Own wr w.heap.size 78 2 A' l.length c' (l.flatMap Rng.cells))∧Below w.heap.size w wr∧Below B.succ w1 wr) (fun _ i _=>3 - (intOf i).toNat)
   case atStart=>exact ⟨0,[],A',c',by omega,rfl,rfl,Lib.hid rfl,HO,hb1,Below.refl _ _⟩
   case round=>
    obtain ⟨k,l,A2',c2',hk,rfl,rfl,HL,HO2,hB2,hB3⟩:=hrel
    rename World=>wr
    have hszr:=hB2.size
    have h1B:wr.cell? ⟨B,0,none⟩=some (.slice A1 l1.length c1):=(hB3.cell (p:=⟨B,0,none⟩) (Nat.lt_succ_self _)).trans HX1.out
    have h2B:wr.cell? ⟨B,1,none⟩=some (.slice A2 l2.length c2):=(hB3.cell (p:=⟨B,1,none⟩) (Nat.lt_succ_self _)).trans HX2.out
    have h3B:wr.cell? ⟨B,2,none⟩=some (.slice A3 l3.length c3):=(hB3.cell (p:=⟨B,2,none⟩) (Nat.lt_succ_self _)).trans HX3.out
    have hBr:B<wr.heap.size:=by omega
    by_cases k0:k=0
    ·subst k0
     obtain rfl:l=[]:=HL.out
     go_wp2_with (at_builtin;refine wp_app _ rfl _ _ _ rfl elemRng w.heap.size A2' _ c2' _ rfl HO2.out A1 l1.length c1 (l1.flatMap Rng.cells) rfl (flatMap_len Rng.cells 2 (fun _=>rfl) l1) (CL.out _ _ _ _ H1.out hB2) (Rng.one l1) (by simp;omega) (by unfold maxLen;simp;omega) (by omega) ?_;intro A3 c3 w3 hO3 hg3;have HO3:=Lib.hid hO3;clear hO3)
     go_roundw
     case rel=>exact ⟨1,l1,A3,c3,by omega,rfl,by simp,Lib.hid rfl,Lib.hid (by simpa using HO3.out),Grew.step hB2 hg3 (fun x hx=>(HO2.out.lt x hx).1),hB3.trans (hg3.below (by omega) (fun x hx=>by have:=(HO2.out.lt x hx).1;omega))⟩
     case measure=>simp [intOf]
    ·by_cases k1:k=1
     ·subst k1
      obtain rfl:l=l1:=HL.out
      go_wp2_with (at_builtin;refine wp_app _ rfl _ _ _ rfl elemRng w.heap.size A2' _ c2' _ rfl HO2.out A2 l2.length c2 (l2.flatMap Rng.cells) rfl (flatMap_len Rng.cells 2 (fun _=>rfl) l2) (CL.out _ _ _ _ H2.out hB2) (Rng.one l2) (by omega) (by unfold maxLen;omega) (by omega) ?_;intro A3 c3 w3 hO3 hg3;have HO3:=Lib.hid hO3;clear hO3)
      go_roundw
      case rel=>exact ⟨2,l ++ l2,A3,c3,by omega,rfl,by rw [List.length_append],Lib.hid rfl,Lib.hid (by rw [List.length_append,List.flatMap_append];exact HO3.out),Grew.step hB2 hg3 (fun x hx=>(HO2.out.lt x hx).1),hB3.trans (hg3.below (by omega) (fun x hx=>by have:=(HO2.out.lt x hx).1;omega))⟩
      case measure=>simp [intOf]
     ·by_cases k2:k=2
      ·subst k2
       obtain rfl:l=l1 ++ l2:=HL.out
       have HLL:Hid ((l1 ++ l2).length=l1.length+l2.length):=Lib.hid (by simp)
       go_wp2_with (at_builtin;refine wp_app _ rfl _ _ _ rfl elemRng w.heap.size A2' (l1 ++ l2).length c2' _ rfl HO2.out A3 l3.length c3 (l3.flatMap Rng.cells) rfl (flatMap_len Rng.cells 2 (fun _=>rfl) l3) (CL.out _ _ _ _ H3.out hB2) (Rng.one l3) (by rw [HLL.out];omega) (by rw [HLL.out];unfold maxLen;omega) (by omega) ?_;intro A4 c4 w3 hO3 hg3;have HO3:=Lib.hid hO3;clear hO3)
       go_roundw
       case rel=>exact ⟨3,l1 ++ l2 ++ l3,A4,c4,by omega,rfl,by simp [Nat.add_assoc],Lib.hid rfl,Lib.hid (by rw [show ((l1 ++ l2) ++ l3).length=(l1 ++ l2).length+l3.length from List.length_append,show ((l1 ++ l2) ++ l3).flatMap Rng.cells=(l1 ++ l2).flatMap Rng.cells ++ l3.flatMap Rng.cells from List.flatMap_append];exact HO3.out),Grew.step hB2 hg3 (fun x hx=>(HO2.out.lt x hx).1),hB3.trans (hg3.below (by omega) (fun x hx=>by have:=(HO2.out.lt x hx).1;omega))⟩
       case measure=>simp [intOf]
      ·obtain rfl:k=3:=by omega
       obtain rfl:l=l1 ++ l2 ++ l3:=HL.out
       clear HL
       go_wp2
       go_ret
       exact ⟨A2',c2',rfl,HO2.out,hB2⟩
end Go.Proofs.Ytdldfllllgogoaa
