/- Part of a proof (S4 S5 N0 S6 S7 S8 S9 S10 S11 S12 S15 S13 S16 S17 S14 S18 S19 S20 S21 S22 S23 S24 S25 S26 S27 Zab); no condition. -/
import Derived.IntWalk
import Derived.Below
import Derived.OpenShut
import Derived.ChangeSlices
import Derived.WideShapes
import Derived.SizedLaws
import Derived.ChangeArms
import Derived.ChangeSame
import Derived.Test.YtbmacgjajnokdaaGreatP4
set_option linter.unusedSimpArgs false
set_option linter.unusedVariables false
set_option linter.defProp false
set_option linter.unnecessarySimpa false
namespace Go.Abs.S
open Go.Abs
theorem up_same(T:Env)(i:Nat)(v:AVal):up T i v i=v:=by simp[up]
theorem up_ne(T:Env)(i j:Nat)(v:AVal)(h:j≠i):up T i v j=T j:=by
 have:Nat.beq j i=false:=by rw[beq_dec]; exact decide_eq_false h
 simp[up,this]
structure Ext(n:Nat)(H H':AHeap):Prop where
 next:H.next≤H'.next
 old:∀b,b<n→H'.get b=H.get b
theorem Ext.refl(n:Nat)(H:AHeap):Ext n H H:=⟨Nat.le_refl _,fun _ _=>rfl⟩
theorem Ext.trans{n:Nat}{H H' H'':AHeap}(h:Ext n H H')(k:Ext n H' H''):Ext n H H'':=⟨Nat.le_trans h.next k.next,fun b hb=>(k.old b hb).trans (h.old b hb)⟩
theorem Ext.less{n m:Nat}{H H':AHeap}(h:Ext n H H')(hm:m≤n):Ext m H H':=⟨h.next,fun b hb=>h.old b om⟩
theorem Ext.push{n:Nat}{H H':AHeap}(h:Ext n H H')(hn:n≤H'.next)(o:AObj):Ext n H (H'.push o):=
 ⟨Nat.le_trans h.next (by simp[AHeap.push]),fun b hb=>by rw[AHeap.get_push,if_neg om,h.old b hb]⟩
theorem Ext.set{n:Nat}{H H':AHeap}(h:Ext n H H'){b:Nat}(hn:n≤b)(o:AObj):Ext n H (H'.set b o):=
 ⟨h.next,fun c hc=>by rw[AHeap.get_set,if_neg om,h.old c hc]⟩
theorem push_next(H:AHeap)(o:AObj):(H.push o).next=H.next+1:=rfl
theorem set_next(H:AHeap)(b:Nat)(o:AObj):(H.set b o).next=H.next:=rfl
def nilS:AVal:=.slice none 0 (.known 0)
def cellP(s:AVal)(i:Nat):AVal:=match s with
 | .slice (some a) _ _=>.ptr (some ⟨a.b,a.lim,a.o+i*1⟩)
 | _=>undefA
def isE:AVal→Bool
 | .slice none 0 (.known 0)=>true
 | .val (.slice (some _) 0 0)=>true
 | _=>false
theorem isE_cases{s:AVal}(h:isE s=true):s=nilS∨∃a,s=.val (.slice (some a) 0 0):=by
 unfold isE at h
 split at h
 ·exact .inl rfl
 ·exact .inr ⟨_,rfl⟩
 ·simp at h
theorem isE_nil{s:AVal}(h:s=nilS):isE s=true:=by subst h; rfl
def Cel(n:Nat)(H:AHeap)(s:AVal)(l:List AVal):Prop:=
 (isE s=true∧l=[])∨∃a r,s=.slice (some a) l.length r∧a.b<n∧rdCells H a l.length=some l
theorem rd_congr{H H':AHeap}{a:Ad}(h:H'.get a.b=H.get a.b)(n:Nat):rdCells H' a n=rdCells H a n:=by
 unfold rdCells; rw[h]
theorem Cel.ext{n:Nat}{H H':AHeap}{s:AVal}{l:List AVal}(h:Cel n H s l)(e:Ext n H H'):Cel n H' s l:=by
 rcases h with h | ⟨a,r,h1,h2,h3⟩
 ·exact .inl h
 ·exact .inr ⟨a,r,h1,h2,by rw[rd_congr (e.old _ h2)]; exact h3⟩
theorem Cel.len{n:Nat}{H:AHeap}{s:AVal}{l:List AVal}(h:Cel n H s l):aLenK false s=some (.int .i64 l.length):=by
 rcases h with⟨h,rfl⟩ | ⟨a,r,rfl,_⟩
 ·rcases isE_cases h with rfl | ⟨a,rfl⟩ <;> rfl
 ·rfl
theorem rd_at{H:AHeap}{a:Ad}{n i:Nat}{xs:List AVal}(h:rdCells H a n=some xs)(hi:i<n):∃x,xs[i]?=some x∧rdCells H ⟨a.b,a.lim,a.o+i⟩ 1=some [x]:=by
 obtain⟨l,low,ro,_,h1,h2,h3,h4,rfl⟩:=rd_spec h
 have hlt:a.o+i<l.length:=om
 refine⟨l[a.o+i],?_,?_⟩
 ·rw[List.getElem?_take_of_lt hi,List.getElem?_drop,List.getElem?_eq_getElem hlt]
 ·unfold rdCells
  simp only[h1,Nat.ble_eq_true_of_le h2,Nat.ble_eq_true_of_le h3,Nat.ble_eq_true_of_le (show a.o+i+1≤a.lim by omega),Bool.and_self,cond_true]
  rw[List.drop_eq_getElem_cons hlt]
  rfl
theorem Cel.idx{n:Nat}{H:AHeap}{s:AVal}{l:List AVal}(h:Cel n H s l)(k:IntKind){i:Nat}(hi:i<l.length):aIdxA 1 s (.int k (i:Int))=some (cellP s i):=by
 rcases h with⟨_,rfl⟩ | ⟨a,r,rfl,_⟩
 ·simp at hi
 ·show (bif Nat.blt i l.length then _ else none)=_
  have:Nat.blt i l.length=true:=by simpa[Nat.blt_eq] using hi
  rw[this]; rfl
theorem Cel.load{n:Nat}{H:AHeap}{s:AVal}{l:List AVal}(h:Cel n H s l){i:Nat}{x:AVal}(hi:l[i]?=some x):oLoad false 1 H (cellP s i)=some x:=by
 have hlt:=(List.getElem?_eq_some_iff.1 hi).1
 rcases h with⟨_,rfl⟩ | ⟨a,r,rfl,_,h3⟩
 ·simp at hi
 ·obtain⟨y,h4,h5⟩:=rd_at h3 hlt
  rw[hi]at h4
  simp only[sJ]at h4
  subst h4
  simp only[oLoad,cellP,Nat.mul_one,h5,cond_false]
def Own(n:Nat)(H:AHeap)(s:AVal)(l:List AVal):Prop:=
 ∃b r low,s=.slice (some ⟨b,l.length,0⟩) l.length r∧n≤b∧b<H.next∧H.get b=some (.cells l low false)∧low≤l.length
def App(n:Nat)(H:AHeap)(s:AVal)(l:List AVal):Prop:=
 (s=nilS∧l=[])∨∃b low,s=.slice (some ⟨b,l.length,0⟩) l.length (.open_ 1)∧n≤b∧b<H.next∧H.get b=some (.cells l low false)∧low≤l.length
theorem App.nil(n:Nat)(H:AHeap):App n H nilS []:=.inl ⟨rfl,rfl⟩
theorem rd_whole{H:AHeap}{b low:Nat}{l:List AVal}{ro:Bool}(h:H.get b=some (.cells l low ro))(hl:low≤l.length):rdCells H ⟨b,l.length,0⟩ l.length=some l:=by
 unfold rdCells
 simp only[h,Nat.ble_eq_true_of_le hl,Nat.ble_eq_true_of_le rL,Nat.zero_add,Bool.and_self,cond_true,List.drop_zero,List.take_length]
theorem App.cel{n:Nat}{H:AHeap}{s:AVal}{l:List AVal}(h:App n H s l):Cel H.next H s l:=by
 rcases h with h | ⟨b,low,h1,h2,h3,h4,h5⟩
 ·exact .inl ⟨isE_nil h.1,h.2⟩
 ·exact .inr ⟨_,_,h1,h3,rd_whole h4 h5⟩
theorem App.ext{n:Nat}{H H':AHeap}{s:AVal}{l:List AVal}(h:App n H s l)(e:Ext H.next H H'):App n H' s l:=by
 rcases h with h | ⟨b,low,h1,h2,h3,h4,h5⟩
 ·exact .inl h
 ·exact .inr ⟨b,low,h1,h2,Nat.lt_of_lt_of_le h3 e.next,by rw[e.old b h3]; exact h4,h5⟩
theorem cells_one{x:AVal}(h:x.one=true):x.cells=[x]:=by cases x <;> first | rfl | (simp[AVal.one]at h)
def oneS(H:AHeap):AVal:=.slice (some ⟨H.next,1,0⟩) 1 (.known 1)
theorem build1(z:AVal)(H:AHeap){x:AVal}(h:x.one=true):aBuildSl 1 [z] H [(0,1,x)]=some (oneS H,H.push (.cells [x] 0 false)):=by
 simp only[aBuildSl,rep,List.append_nil,aFill,cells_one h]
 rfl
theorem src1(H:AHeap)(x:AVal):aSrc 1 (H.push (.cells [x] 0 false)) (oneS H)=some (1,[x]):=by
 have:=rd_whole (H:=H.push (.cells [x] 0 false)) (b:=H.next) (l:=[x]) (low:=0) (ro:=false) (by rw[AHeap.get_push,if_pos rfl]) (by simp)
 simp only[List.length_cons,List.length_nil,Nat.zero_add]at this
 simp only[aSrc,oneS,Nat.mul_one,this]
theorem App.push{n:Nat}{H:AHeap}{s:AVal}{l:List AVal}(h:App n H s l)(hn:n≤H.next){x:AVal}(hx:x.one=true){bytes:Nat}(hb:2*(l.length+1)*bytes≤281474976710656)(hb1:0<bytes) :
  ∃s' H',aAppend 1 bytes (H.push (.cells [x] 0 false)) s (oneS H)=some (s',H')∧App n H' s' (l++[x])∧Ext n H H':=by
 have hlen:l.length+1≤9223372036854775807:=by
  have:2*(l.length+1)≤2*(l.length+1)*bytes:=Nat.le_mul_of_pos_right _ hb1
  omega
 have c1:∀k,k=l.length→(Nat.blt 0 1&&(Nat.ble ((2*(k+1)+0)*bytes) 281474976710656&&(Nat.ble (k+1) 9223372036854775807&&(Nat.beq [x].length (1*1)&&[x].all AVal.one))))=true:=by
  intro k hk
  subst hk
  simp only[Nat.add_zero,Nat.ble_eq_true_of_le hb,Nat.ble_eq_true_of_le hlen,List.all_cons,List.all_nil,hx]
  rfl
 rcases h with⟨rfl,rfl⟩ | ⟨b,low,rfl,h2,h3,h4,h5⟩
 ·refine⟨.slice (some ⟨H.next+1,1,0⟩) 1 (.open_ 1),(H.push (.cells [x] 0 false)).push (.cells [x] 0 false),?_,.inr ⟨H.next+1,0,rfl,om,Nat.lt_succ_self _,?_,Nat.zero_le _⟩,((Ext.refl n H).push hn _).push (by rw[push_next]; omega) _⟩
  ·simp only[aAppend,src1,nilS]
   rw[show Nat.beq 1 0=false from rfl,cond_false,c1 0 rfl,cond_true]
   rfl
  ·rw[AHeap.get_push]; exact if_pos rfl
 ·have hg:(H.push (.cells [x] 0 false)).get b=some (.cells l low false):=by rw[AHeap.get_push,if_neg om]; exact h4
  have hgrow:growCells (H.push (.cells [x] 0 false)) ⟨b,l.length,0⟩ l.length [x]=some ((H.push (.cells [x] 0 false)).set b (.cells (l++[x]) low false)):=by
   unfold growCells
   simp only[hg,Nat.ble_eq_true_of_le h5,Nat.ble_eq_true_of_le rL,Nat.ble_eq_true_of_le (Nat.zero_le _),Nat.beq_refl,List.length_cons,List.length_nil,Nat.zero_add,List.all_cons,List.all_nil,hx,Bool.and_self,cond_true,List.take_length]
  refine⟨.slice (some ⟨b,l.length+1,0⟩) (l.length+1) (.open_ 1),(H.push (.cells [x] 0 false)).set b (.cells (l++[x]) low false),?_,.inr ⟨b,low,by simp,h2,by rw[set_next,push_next]; omega,by rw[AHeap.get_set,if_pos rfl],by simp; omega⟩,((Ext.refl n H).push hn _).set h2 _⟩
  simp only[aAppend,src1]
  rw[show Nat.beq 1 0=false from rfl,cond_false,c1 l.length rfl,cond_true]
  have e1:Nat.ble (l.length+1) l.length=false:=by
   rw[ble_dec]; exact decide_eq_false om
  simp only[Nat.beq_refl,cond_true,Nat.zero_add,Nat.mul_one,e1,cond_false,hgrow,List.length_cons,List.length_nil]
theorem wr_whole{H:AHeap}{b low i:Nat}{l:List AVal}(h:H.get b=some (.cells l low false))(hl:low≤l.length)(hi:i<l.length){x:AVal}(hx:x.one=true) :
  oStore 1 H (.ptr (some ⟨b,l.length,i⟩)) x=some (H.set b (.cells (l.set i x) l.length false)):=by
 simp only[oStore,cells_one hx,List.length_cons,List.length_nil,Nat.zero_add,Nat.beq_refl,cond_true]
 unfold wrCells
 simp only[h,Nat.ble_eq_true_of_le hl,Nat.beq_refl,List.length_cons,List.length_nil,Nat.zero_add,Nat.ble_eq_true_of_le (show i+1≤l.length by omega),List.all_cons,List.all_nil,hx,Bool.and_self,cond_true]
 congr 3
 rw[List.set_eq_take_append_cons_drop,if_pos hi]
 rfl
theorem own_make{H:AHeap}{z:AVal}{bytes k n:Nat}(hn:n≤H.next)(hk:bytes*k≤281474976710656)(hk':k≤9223372036854775807) :
  ∃s,aMake bytes [z] H (.int .i64 (k:Int)) (.int .i64 (k:Int))=some (s,H.push (.cells (List.replicate k z) 0 false))∧s=.slice (some ⟨H.next,k,0⟩) k (.known k)∧Own n (H.push (.cells (List.replicate k z) 0 false)) s (List.replicate k z):=by
 have hr:rep [z] k=List.replicate k z:=by
  clear hk hk'
  induction k with
  | zero=>rfl
  | succ k ih=>simp only[rep,ih,List.replicate_succ]; rfl
 have hnat:natOf (.int .i64 (k:Int))=some k:=by
  show natOf (.int .i64 (Int.ofNat k))=some k
  simp only[natOf,Nat.ble_eq_true_of_le hk',cond_true]
 refine⟨_,?_,rfl,⟨H.next,.known k,0,by simp,hn,Nat.lt_succ_self _,by rw[AHeap.get_push]; exact if_pos rfl,Nat.zero_le _⟩⟩
 simp only[aMake,hnat,Nat.ble_eq_true_of_le rL,Nat.ble_eq_true_of_le hk,Bool.and_self,cond_true,hr,List.length_replicate]
def slR(b n:Nat)(r:Room):AVal:=.slice (some ⟨b,n,0⟩) n r
def cellR(b n i:Nat):AVal:=.ptr (some ⟨b,n,i⟩)
def Row(H:AHeap)(b:Nat)(l:List AVal):Prop:=∃low,H.get b=some (.cells l low false)∧low≤l.length
theorem row_len(b n:Nat)(r:Room):aLenK false (slR b n r)=some (.int .i64 (n:Int)):=_root_.id rfl
theorem row_idx{b n:Nat}{r:Room}(k:IntKind){i:Nat}(h:i<n):aIdxA 1 (slR b n r) (.int k (i:Int))=some (cellR b n i):=by
 show (bif Nat.blt i n then some (AVal.ptr (some ⟨b,n,0+i*1⟩)) else none)=_
 have:Nat.blt i n=true:=by simpa[Nat.blt_eq] using h
 rw[this,Nat.zero_add,Nat.mul_one]; rfl
theorem row_load{H:AHeap}{b n:Nat}{l:List AVal}(h:Row H b l)(hn:l.length=n){i:Nat}{x:AVal}(hi:l[i]?=some x):oLoad false 1 H (cellR b n i)=some x:=by
 subst hn
 obtain⟨low,h1,h2⟩:=h
 have hlt:=(List.getElem?_eq_some_iff.1 hi).1
 obtain⟨y,h4,h5⟩:=rd_at (rd_whole h1 h2) hlt
 rw[hi]at h4
 simp only[sJ]at h4
 subst h4
 simp only[Nat.zero_add]at h5
 simp only[oLoad,cellR,h5,cond_false]
theorem row_store{H:AHeap}{b n:Nat}{l:List AVal}(h:Row H b l)(hn:l.length=n){i:Nat}(hi:i<n){x:AVal}(hx:x.one=true) :
  ∃H',oStore 1 H (cellR b n i) x=some H'∧Row H' b (l.set i x)∧H'.next=H.next∧∀c,c≠b→H'.get c=H.get c:=by
 subst hn
 obtain⟨low,h1,h2⟩:=h
 exact⟨_,wr_whole h1 h2 hi hx,⟨l.length,by rw[AHeap.get_set,if_pos rfl],by simp⟩,rfl,fun c hc=>by rw[AHeap.get_set,if_neg hc]⟩
theorem Row.same{H H':AHeap}{b:Nat}{l:List AVal}(h:Row H b l)(e:H'.get b=H.get b):Row H' b l:=by
 obtain⟨low,h1,h2⟩:=h; exact⟨low,e.trans h1,h2⟩
theorem row_make{H:AHeap}{z:AVal}{bytes k:Nat}(hk:bytes*k≤281474976710656)(hk':k≤9223372036854775807) :
  aMake bytes [z] H (.int .i64 (k:Int)) (.int .i64 (k:Int))=some (slR H.next k (.known k),H.push (.cells (List.replicate k z) 0 false)):=by
 obtain⟨s,h1,h2,_⟩:=own_make (H:=H) (z:=z) rL hk hk'
 rw[h1,h2]; rfl
theorem row_push(H:AHeap)(l:List AVal):Row (H.push (.cells l 0 false)) H.next l:=⟨0,by rw[AHeap.get_push,if_pos rfl],Nat.zero_le _⟩
theorem get_push_lt{H:AHeap}{o:AObj}{c:Nat}(h:c<H.next):(H.push o).get c=H.get c:=by rw[AHeap.get_push,if_neg om]
theorem new1(H:AHeap)(x:AVal):oNew H [x]=(cellR H.next 1 0,H.push (.cells [x] 0 false)):=_root_.id rfl
theorem Row.cel{H:AHeap}{b n m:Nat}{l:List AVal}{r:Room}(h:Row H b l)(hn:l.length=n)(hb:b<m):Cel m H (slR b n r) l:=by
 subst hn
 obtain⟨low,h1,h2⟩:=h
 exact .inr ⟨_,_,rfl,hb,rd_whole h1 h2⟩
theorem row_make1{H:AHeap}{z:AVal}{bytes k:Nat}(hk:bytes*k≤281474976710656)(hk':k≤9223372036854775807) :
  ∃H',aMake bytes [z] H (.int .i64 (k:Int)) (.int .i64 (k:Int))=some (slR H.next k (.known k),H')∧Row H' H.next (List.replicate k z)∧H'.next=H.next+1∧∀c,c≠H.next→H'.get c=H.get c:=
 ⟨_,row_make hk hk',row_push _ _,rfl,fun c hc=>by rw[AHeap.get_push,if_neg hc]⟩
theorem row_new1(H:AHeap)(x:AVal):∃H',oNew H [x]=(cellR H.next 1 0,H')∧Row H' H.next [x]∧H'.next=H.next+1∧∀c,c≠H.next→H'.get c=H.get c:=
 ⟨_,new1 H x,row_push _ _,rfl,fun c hc=>by rw[AHeap.get_push,if_neg hc]⟩
end Go.Abs.S
namespace Go.Abs.S
open Go.Abs
section
variable {C:CS} {Q:Post} {T:Env} {H:AHeap} {K:Env→AHeap→Prop} {r:List AOper} {d:Option Nat}
theorem aw_skip:wp C .skip Q T H=Q .normal T H:=_root_.id rfl
def wDfr(C:CS)(b:ACode)(Q:Post)(T:Env)(H:AHeap):AVal→Prop
 | .func (.func g) [] l=>wp C b (inDfr fun T' H'=>C (3072+g) l H' fun _ H''=>Q .ret T' H'') T H
 | _=>False
theorem aw_dfr(y:Opd)(b:ACode):wp C (.dfr y b) Q T H=wDfr C b Q T H (sX T y):=by
 refine propext ⟨fun ⟨g,l,hg,h⟩=>by rw[hg]; exact h,fun h=>?_⟩
 unfold wDfr at h
 split at h
 ·rename_i g l hg; exact⟨g,l,hg,h⟩
 ·exact h.elim
theorem wDfr_func(b:ACode)(g:Nat)(l:List AVal):wDfr C b Q T H (.func (.func g) [] l)=wp C b (inDfr fun T' H'=>C (3072+g) l H' fun _ H''=>Q .ret T' H'') T H:=_root_.id rfl
theorem inDfr_ret(K:Env→AHeap→Prop):inDfr K .ret T H=K T H:=_root_.id rfl
theorem inDfr_normal(K:Env→AHeap→Prop):inDfr K .normal T H=K T H:=_root_.id rfl
theorem aw_reg(ops:List AOper):wp C (.reg ops) Q T H=wRegs C ops T H (Q .normal):=_root_.id rfl
theorem aw_seq(a b:ACode):wp C (.seq a b) Q T H=wp C a (inSeq Q (wp C b Q)) T H:=_root_.id rfl
open Classical in
theorem aw_cond(c:Opd)(a b:ACode):wp C (.cond c a b) Q T H=if sX T c=.bool true then wp C a Q T H else if sX T c=.bool false then wp C b Q T H else False:=by
 simp only[wp]
 by_cases h:sX T c=.bool true
 ·rw[if_pos h,h]; simp
 ·rw[if_neg h]
  by_cases h':sX T c=.bool false
  ·rw[if_pos h',h']; simp
  ·rw[if_neg h']
   simp only[eq_iff_iff,iff_false,not_exists,not_and]
   intro v hv
   cases v
   ·exact absurd hv h'
   ·exact absurd hv h
theorem aw_block(id:Nat)(c:ACode):wp C (.block id c) Q T H=wp C c (inBlk id Q) T H:=_root_.id rfl
theorem aw_exit(id:Nat):wp C (.exit id) Q T H=Q (.exit id) T H:=_root_.id rfl
theorem aw_ret:wp C .ret Q T H=Q .ret T H:=_root_.id rfl
theorem inSeq_normal:inSeq Q K .normal T H=K T H:=_root_.id rfl
theorem inSeq_exit(i:Nat):inSeq Q K (.exit i) T H=Q (.exit i) T H:=_root_.id rfl
theorem inSeq_ret:inSeq Q K .ret T H=Q .ret T H:=_root_.id rfl
theorem inBlk_exit(id i:Nat):inBlk id Q (.exit i) T H=if i=id then Q .normal T H else Q (.exit i) T H:=by
 simp only[inBlk]
 by_cases h:i=id
 ·subst h; rw[if_pos rfl,Nat.beq_refl]; rfl
 ·rw[if_neg h,show Nat.beq i id=false by rw[beq_dec]; exact decide_eq_false h]; rfl
theorem inBlk_normal(id:Nat):inBlk id Q .normal T H=Q .normal T H:=_root_.id rfl
theorem inBlk_ret(id:Nat):inBlk id Q .ret T H=Q .ret T H:=_root_.id rfl
theorem aw_loop{c:ACode}(I:Nat→Env→AHeap→Prop)(m:Nat)(h0:I m T H)(h:∀m T H,I m T H→wp C c (inSeq Q fun T' H'=>∃m',m'<m∧I m' T' H') T H):wp C (.loop c) Q T H:=⟨I,⟨m,h0⟩,h⟩
def OptK(o:Option AVal)(C:CS)(r:List AOper)(T:Env)(d:Option Nat)(H:AHeap)(K:Env→AHeap→Prop):Prop:=OptP o fun v=>wRegs C r (upO T d v) H K
def OptH(o:Option (AVal×AHeap))(C:CS)(r:List AOper)(T:Env)(d:Option Nat)(K:Env→AHeap→Prop):Prop:=OptP o fun p=>wRegs C r (upO T d p.1) p.2 K
def OptS(o:Option AHeap)(C:CS)(r:List AOper)(T:Env)(d:Option Nat)(K:Env→AHeap→Prop):Prop:=OptP o fun H'=>wRegs C r (upO T d undefA) H' K
def kont(C:CS)(r:List AOper)(T:Env)(d:Option Nat)(K:Env→AHeap→Prop):AVal→AHeap→Prop:=fun v H'=>wRegs C r (upO T d v) H' K
theorem OptK_some(v:AVal):OptK (some v) C r T d H K=wRegs C r (upO T d v) H K:=OptP_some _ _
theorem OptH_some(v:AVal)(H':AHeap):OptH (some (v,H')) C r T d K=wRegs C r (upO T d v) H' K:=OptP_some _ _
theorem OptS_some(H':AHeap):OptS (some H') C r T d K=wRegs C r (upO T d undefA) H' K:=OptP_some _ _
theorem kont_app(v:AVal):kont C r T d K v H=wRegs C r (upO T d v) H K:=_root_.id rfl
theorem ar_nil:wRegs C [] T H K=K T H:=_root_.id rfl
open Classical in
theorem ar_guard(o:AOp)(t:Nat)(b:Bool):wRegs C (⟨d,o,some (t,b)⟩::r) T H K=if T t=.bool b then wRegs C (⟨d,o,none⟩::r) T H K else wRegs C r (upO T d undefA) H K:=by
 simp only[wRegs,sG_lt T t]
 by_cases h:T t=.bool b
 ·rw[if_pos h,h]; cases b <;> rfl
 ·rw[if_neg h]
  have:sGv b (T t)=false:=by
   unfold sGv
   cases hv:T t <;> simp only[gVb]
   rename_i v
   rw[hv]at h
   cases b <;> cases v <;> simp at h ⊢
  rw[this]; rfl
theorem ar_mv(x:Opd):wRegs C (⟨d,.mv x,none⟩::r) T H K=wRegs C r (upO T d (sX T x)) H K:=_root_.id rfl
open Classical in
theorem ar_pick(c a b:Opd):wRegs C (⟨d,.pick c a b,none⟩::r) T H K=if sX T c=.bool true then wRegs C r (upO T d (sX T a)) H K else if sX T c=.bool false then wRegs C r (upO T d (sX T b)) H K else False:=by
 simp only[wRegs,sG,wOp,cond_true]
 by_cases h:sX T c=.bool true
 ·rw[if_pos h,h]; simp
 ·rw[if_neg h]
  by_cases h':sX T c=.bool false
  ·rw[if_pos h',h']; simp
  ·rw[if_neg h']
   simp only[eq_iff_iff,iff_false,not_exists,not_and]
   intro v hv
   cases v
   ·exact absurd hv h'
   ·exact absurd hv h
theorem ar_new(z:List AVal):wRegs C (⟨d,.new z,none⟩::r) T H K=wRegs C r (upO T d (oNew H z).1) (oNew H z).2 K:=_root_.id rfl
theorem ar_box(x:Opd):wRegs C (⟨d,.box x,none⟩::r) T H K=wRegs C r (upO T d (oNew H (sX T x).cells).1) (oNew H (sX T x).cells).2 K:=_root_.id rfl
theorem ar_build(z:List AVal)(ps:List (Nat×Nat×Opd)):wRegs C (⟨d,.build z ps,none⟩::r) T H K=OptK (aBuild z (sXP T ps)) C r T d H K:=_root_.id rfl
theorem ar_buildSl(n:Nat)(z:List AVal)(ps:List (Nat×Nat×Opd)):wRegs C (⟨d,.buildSl n z ps,none⟩::r) T H K=OptH (aBuildSl n z H (sXP T ps)) C r T d K:=_root_.id rfl
theorem ar_load(a:Bool)(n:Nat)(x:Opd):wRegs C (⟨d,.load a n x,none⟩::r) T H K=OptK (oLoad a n H (sX T x)) C r T d H K:=_root_.id rfl
theorem ar_store(n:Nat)(a x:Opd):wRegs C (⟨d,.store n a x,none⟩::r) T H K=OptS (oStore n H (sX T a) (sX T x)) C r T d K:=_root_.id rfl
theorem ar_nilChk(x:Opd):wRegs C (⟨d,.nilChk x,none⟩::r) T H K=OptK (aNilChk (sX T x)) C r T d H K:=_root_.id rfl
theorem ar_bin(op:BinOp)(x y:Opd):wRegs C (⟨d,.bin op x y,none⟩::r) T H K=OptK (aBin op (sX T x) (sX T y)) C r T d H K:=_root_.id rfl
theorem ar_un(op:UnOp)(x:Opd):wRegs C (⟨d,.un op x,none⟩::r) T H K=OptK (aUn op (sX T x)) C r T d H K:=_root_.id rfl
theorem ar_conv(k:IntKind)(x:Opd):wRegs C (⟨d,.conv k x,none⟩::r) T H K=OptK (aConv k (sX T x)) C r T d H K:=_root_.id rfl
theorem ar_convSB(x:Opd):wRegs C (⟨d,.convSB x,none⟩::r) T H K=OptH (aSB H (sX T x)) C r T d K:=_root_.id rfl
theorem ar_convBS(x:Opd):wRegs C (⟨d,.convBS x,none⟩::r) T H K=OptK (aBS H (sX T x)) C r T d H K:=_root_.id rfl
theorem ar_mkFunc(fn:Fn)(a b:List Opd):wRegs C (⟨d,.mkFunc fn a b,none⟩::r) T H K=wRegs C r (upO T d (.func fn (sXs T a) (sXs T b))) H K:=_root_.id rfl
theorem ar_mkIface(t:TypeId)(x:Opd):wRegs C (⟨d,.mkIface t x,none⟩::r) T H K=wRegs C r (upO T d (.iface t (sX T x))) H K:=_root_.id rfl
theorem ar_mkSlice(b:Nat)(z:List AVal)(l c:Opd):wRegs C (⟨d,.mkSlice b z l c,none⟩::r) T H K=OptH (aMake b z H (sX T l) (sX T c)) C r T d K:=_root_.id rfl
theorem ar_sl(n:Nat)(x:Opd)(lo hi mx:Option Opd):wRegs C (⟨d,.sl n x lo hi mx,none⟩::r) T H K=OptK (aSl n (sX T x) (sXO T lo) (sXO T hi) (sXO T mx)) C r T d H K:=_root_.id rfl
theorem ar_slStr(x:Opd)(lo hi:Option Opd):wRegs C (⟨d,.slStr x lo hi,none⟩::r) T H K=OptK (aSlStr (sX T x) (sXO T lo) (sXO T hi)) C r T d H K:=_root_.id rfl
theorem ar_fieldA(o:Nat)(x:Opd):wRegs C (⟨d,.fieldA o x,none⟩::r) T H K=OptK (aField o (sX T x)) C r T d H K:=_root_.id rfl
theorem ar_field(a:Bool)(n o:Nat)(x:Opd):wRegs C (⟨d,.field a n o x,none⟩::r) T H K=OptK (aFieldV a n o (sX T x)) C r T d H K:=_root_.id rfl
theorem ar_idxA(n:Nat)(x i:Opd):wRegs C (⟨d,.idxA n x i,none⟩::r) T H K=OptK (aIdxA n (sX T x) (sX T i)) C r T d H K:=_root_.id rfl
theorem ar_idxArr(m n:Nat)(x i:Opd):wRegs C (⟨d,.idxArr m n x i,none⟩::r) T H K=OptK (aIdxArr m n (sX T x) (sX T i)) C r T d H K:=_root_.id rfl
theorem ar_idx(m n:Nat)(a:Bool)(x i:Opd):wRegs C (⟨d,.idx m n a x i,none⟩::r) T H K=OptK (aIdx m n a (sX T x) (sX T i)) C r T d H K:=_root_.id rfl
theorem ar_idxS(x i:Opd):wRegs C (⟨d,.idxS x i,none⟩::r) T H K=OptK (aIdxS (sX T x) (sX T i)) C r T d H K:=_root_.id rfl
theorem ar_extract(i:Nat)(x:Opd):wRegs C (⟨d,.extract i x,none⟩::r) T H K=OptK (aExtract i (sX T x)) C r T d H K:=_root_.id rfl
theorem ar_append(n b:Nat)(s x:Opd):wRegs C (⟨d,.append n b s x,none⟩::r) T H K=OptH (aAppend n b H (sX T s) (sX T x)) C r T d K:=_root_.id rfl
theorem ar_len(s:Bool)(x:Opd):wRegs C (⟨d,.len s x,none⟩::r) T H K=OptK (aLenK s (sX T x)) C r T d H K:=_root_.id rfl
theorem ar_call(f:FuncId)(args:List Opd):wRegs C (⟨d,.call f args,none⟩::r) T H K=C f (sXs T args) H (kont C r T d K):=_root_.id rfl
def callvP(C:CS)(f:AVal)(args:List AVal)(H:AHeap)(K:AVal→AHeap→Prop):Prop:=∃g a b,f=.func (.func g) a b∧Nat.blt g BIG=true∧C g (a++args++b) H K
theorem callvP_func(g:Nat)(a b args:List AVal)(K:AVal→AHeap→Prop)(hg:g<1024):callvP C (.func (.func g) a b) args H K=C g (a++args++b) H K:=by
 simp only[callvP,AVal.func.injEq,Fn.func.injEq]
 apply propext
 constructor
 ·rintro ⟨g,a,b,⟨rfl,rfl,rfl⟩,_,h⟩; exact h
 ·intro h; exact⟨_,_,_,⟨rfl,rfl,rfl⟩,Nat.ble_eq_true_of_le hg,h⟩
theorem ar_callv(f:Opd)(args:List Opd):wRegs C (⟨d,.callv f args,none⟩::r) T H K=callvP C (sX T f) (sXs T args) H (kont C r T d K):=_root_.id rfl
theorem ar_pf(f:PF)(xs:List Opd):wRegs C (⟨d,.pf f xs,none⟩::r) T H K=OptK (aPf f (sXs T xs)) C r T d H K:=_root_.id rfl
theorem ar_hf(f:HF)(xs:List Opd):wRegs C (⟨d,.hf f xs,none⟩::r) T H K=OptH (aHf f H (sXs T xs)) C r T d K:=_root_.id rfl
theorem ar_slA(m n:Nat)(x:Opd)(lo hi mx:Option Opd):wRegs C (⟨d,.slA m n x lo hi mx,none⟩::r) T H K=OptK (aSlArr m n (sX T x) (sXO T lo) (sXO T hi) (sXO T mx)) C r T d H K:=_root_.id rfl
theorem upO_some(i:Nat)(v:AVal):upO T (some i) v=up T i v:=_root_.id rfl
theorem upO_none(v:AVal):upO T none v=T:=_root_.id rfl
theorem sX_t(i:Nat):sX T (.t i)=T i:=_root_.id rfl
theorem sX_c(v:AVal):sX T (.c v)=v:=_root_.id rfl
theorem sX_f(i:Nat):sX T (.f i)=.func (.func i) [] []:=_root_.id rfl
theorem fin_ret(res:List ARes)(K:AVal→AHeap→Prop):fin res K .ret T H=OptP (wRes T H res) fun l=>K (aresV l) H:=_root_.id rfl
theorem fin_t(i:Nat)(K:AVal→AHeap→Prop):fin [.t i] K .ret T H=K (T i) H:=by
 simp only[fin,wRes,OptP_some]; rfl
theorem fin_t2(i j:Nat)(K:AVal→AHeap→Prop):fin [.t i,.t j] K .ret T H=K (.tuple [T i,T j]) H:=by
 simp only[fin,wRes,OptP_some]; rfl
theorem fin_t3(i j k:Nat)(K:AVal→AHeap→Prop):fin [.t i,.t j,.t k] K .ret T H=K (.tuple [T i,T j,T k]) H:=by
 simp only[fin,wRes,OptP_some]; rfl
def CMono(C:CS):Prop:=∀f a H (K K':AVal→AHeap→Prop),(∀v H,K v H→K' v H)→C f a H K→C f a H K'
theorem calls_mono(P:Program)(N:ANat):CMono (ACalls P N):=fun _ _ _ _ _ h hc=>hc.mono h
theorem wOp_mono(hC:CMono C){K K':AVal→AHeap→Prop}(h:∀v H,K v H→K' v H){o:AOp}(hw:wOp C T H K o):wOp C T H K' o:=by
 cases o
 case call f args=>exact hC _ _ _ _ _ h hw
 case callv f args=>obtain⟨g,a,b,h1,h0,h2⟩:=hw; exact⟨g,a,b,h1,h0,hC _ _ _ _ _ h h2⟩
 case pick c a b=>obtain⟨v,h1,h2⟩:=hw; exact⟨v,h1,h _ _ h2⟩
 case bad=>exact hw
 all_goals first
  | exact h _ _ hw
  | exact OptP.mono hw fun v hv=>h _ _ hv
theorem wTr_regs(hC:CMono C):∀(l:List AOper) {T:Env} {H:AHeap} {K:List (AVal×AHeap)→Env→AHeap→Prop} {K':Env→AHeap→Prop},(∀ss T H,K' T H→K ss T H)→wRegs C l T H K'→wTr C l T H K:=by
 intro l
 induction l with
 | nil=>intro T H K K' h hw; exact h _ _ _ hw
 | cons o l ih=>
  intro T H K K' h hw
  simp only[wRegs,wTr]at hw ⊢
  cases hg:sG T o.guard with
  | false=>rw[hg]at hw; exact ih (fun ss T H=>h _ T H) hw
  | true=>
   rw[hg]at hw
   simp only[cond_true]at hw ⊢
   exact wOp_mono hC (fun v H' hw=>ih (fun ss T H=>h _ T H) hw) hw
def allNil:List (List Nat)→Bool
 | []=>true
 | []::r=>allNil r
 | _::_=>false
theorem ck_nil{hs:List AHeap}:∀(l:List AOper) (ps:List (List Nat)) (ss:List (AVal×AHeap)) (T:Env),allNil ps=true→wCk hs l ps ss T
 | [],_,_,_,_=>trivial
 | o::l,[],_,_,_=>trivial
 | o::l,[]::ps,[],_,_=>trivial
 | o::l,[]::ps,(v,Hv)::ss,T,h=>⟨fun p hp=>by simp at hp,ck_nil l ps ss _ h⟩
 | o::l,(q::p)::ps,_,_,h=>by simp[allNil]at h
def noNew:List AOper→Bool
 | []=>true
 | o::r=>match newOf o.op with
  | some _=>false
  | none=>noNew r
theorem claims_noNew:∀(l:List AOper),noNew l=true→∀(b:Nat) (H:AHeap),claims b l=l∧reserves H l=H
 | [],_,b,H=>⟨rfl,rfl⟩
 | o::r,h,b,H=>by
  cases hz:newOf o.op with
  | some p=>simp[noNew,hz]at h
  | none=>
   simp only[noNew,hz]at h
   exact⟨by simp only[claims,hz,(claims_noNew r h b H).1],by simp only[reserves,hz,(claims_noNew r h b H).2]⟩
theorem wTr_mono(hC:CMono C):∀(l:List AOper) {T:Env} {H:AHeap} {K K':List (AVal×AHeap)→Env→AHeap→Prop},(∀ss T H,K ss T H→K' ss T H)→wTr C l T H K→wTr C l T H K':=by
 intro l
 induction l with
 | nil=>intro T H K K' h hw; exact h _ _ _ hw
 | cons o l ih=>
  intro T H K K' h hw
  simp only[wTr]at hw ⊢
  cases hg:sG T o.guard with
  | false=>rw[hg]at hw; exact ih (fun ss T H=>h _ T H) hw
  | true=>
   rw[hg]at hw
   simp only[cond_true]at hw ⊢
   exact wOp_mono hC (fun v H' hw=>ih (fun ss T H=>h _ T H) hw) hw
theorem wRegs_mono(hC:CMono C):∀(l:List AOper) {T:Env} {H:AHeap} {K K':Env→AHeap→Prop},(∀T H,K T H→K' T H)→wRegs C l T H K→wRegs C l T H K':=by
 intro l
 induction l with
 | nil=>intro T H K K' h hw; exact h _ _ hw
 | cons o l ih=>
  intro T H K K' h hw
  simp only[wRegs]at hw ⊢
  cases hg:sG T o.guard with
  | false=>rw[hg]at hw; exact ih h hw
  | true=>
   rw[hg]at hw
   simp only[cond_true]at hw ⊢
   exact wOp_mono hC (fun v H' hw=>ih h hw) hw
theorem inSeq_mono{Q Q':Post}{K K':Env→AHeap→Prop}(h:∀e T H,Q e T H→Q' e T H)(hk:∀T H,K T H→K' T H)(e:AEx)(T:Env)(H:AHeap)(hq:inSeq Q K e T H):inSeq Q' K' e T H:=by
 cases e with
 | normal=>exact hk _ _ hq
 | exit i=>exact h _ _ _ hq
 | ret=>exact h _ _ _ hq
theorem wp_mono'(hC:CMono C):∀(c:ACode) {Q Q':Post} {T:Env} {H:AHeap},(∀e T H,Q e T H→Q' e T H)→wp C c Q T H→wp C c Q' T H:=by
 intro c
 induction c with
 | skip=>intro Q Q' T H h hw; exact h _ _ _ hw
 | reg l=>intro Q Q' T H h hw; exact wRegs_mono hC l (h .normal) hw
 | draw l chk=>intro Q Q' T H h hw; exact wTr_mono hC _ (fun ss T' H' hk=>⟨hk.1,h _ _ _ hk.2⟩) hw
 | seq a b iha ihb=>intro Q Q' T H h hw; exact iha (inSeq_mono h fun T H hk=>ihb h hk) hw
 | cond c a b iha ihb=>
  intro Q Q' T H h hw
  obtain⟨v,h1,h2⟩:=hw
  refine⟨v,h1,?_⟩
  cases v with
  | true=>exact iha h h2
  | false=>exact ihb h h2
 | block id c ih=>
  intro Q Q' T H h hw
  refine ih (fun e T H hk=>?_) hw
  cases e with
  | exit j=>
   simp only[inBlk]at hk ⊢
   cases hb:Nat.beq j id with
   | true=>rw[hb]at hk; exact h _ _ _ hk
   | false=>rw[hb]at hk; exact h _ _ _ hk
  | normal=>exact h _ _ _ hk
  | ret=>exact h _ _ _ hk
 | loop c ih=>
  intro Q Q' T H h hw
  obtain⟨I,hm,hI⟩:=hw
  exact⟨I,hm,fun m T H hi=>ih (inSeq_mono h fun _ _ hk=>hk) (hI m T H hi)⟩
 | exit id=>intro Q Q' T H h hw; exact h _ _ _ hw
 | ret=>intro Q Q' T H h hw; exact h _ _ _ hw
 | dfr y b ih=>
  intro Q Q' T H h hw
  obtain⟨g,l,hg,hw⟩:=hw
  refine⟨g,l,hg,ih (fun e T H hk=>?_) hw⟩
  cases e with
  | exit i=>exact hk
  | normal=>exact hC _ _ _ _ _ (fun _ _ q=>h _ _ _ q) hk
  | ret=>exact hC _ _ _ _ _ (fun _ _ q=>h _ _ _ q) hk
def norm:ACode→ACode
 | .draw l chk=>bif allNil chk&&noNew l then .reg l else .draw l chk
 | .seq a b=>.seq (norm a) (norm b)
 | .cond c a b=>.cond c (norm a) (norm b)
 | .block id c=>.block id (norm c)
 | .loop c=>.loop (norm c)
 | .dfr y b=>.dfr y (norm b)
 | c=>c
theorem wp_norm(hC:CMono C):∀(c:ACode) {Q:Post} {T:Env} {H:AHeap},wp C (norm c) Q T H→wp C c Q T H:=by
 intro c
 induction c with
 | skip=>intro Q T H hw; exact hw
 | reg l=>intro Q T H hw; exact hw
 | draw l chk=>
  intro Q T H hw
  simp only[norm]at hw
  cases hb:allNil chk&&noNew l with
  | false=>rw[hb]at hw; exact hw
  | true=>
   rw[hb]at hw
   simp only[Bool.and_eq_true]at hb
   simp only[wp,wDraw,(claims_noNew l hb.2 H.next H).1,(claims_noNew l hb.2 H.next H).2]
   exact wTr_regs hC l (K:=fun ss T' H'=>wCk (H::ss.map (·.2)) l chk ss T∧Q .normal T' H') (fun ss T' H' hk=>⟨ck_nil l chk ss T hb.1,hk⟩) hw
 | seq a b iha ihb=>intro Q T H hw; exact wp_mono' hC a (inSeq_mono (fun _ _ _ h=>h) fun T H hk=>ihb hk) (iha hw)
 | cond c a b iha ihb=>
  intro Q T H hw
  obtain⟨v,h1,h2⟩:=hw
  refine⟨v,h1,?_⟩
  cases v with
  | true=>exact iha h2
  | false=>exact ihb h2
 | block id c ih=>intro Q T H hw; exact ih hw
 | loop c ih=>
  intro Q T H hw
  obtain⟨I,hm,hI⟩:=hw
  exact⟨I,hm,fun m T H hi=>ih (hI m T H hi)⟩
 | exit id=>intro Q T H hw; exact hw
 | ret=>intro Q T H hw; exact hw
 | dfr y b ih=>
  intro Q T H hw
  obtain⟨g,l,hg,hw⟩:=hw
  exact⟨g,l,hg,ih hw⟩
def cN(P:Program)(f:FuncId):Option AFn:=match eFn P f with
 | some c=>some ⟨c.nt,norm c.body,c.res⟩
 | none=>none
theorem acalls_ofN{P:Program}{N:ANat}{f:FuncId}{c:AFn}{args:List AVal}{H:AHeap}{K:AVal→AHeap→Prop}(hn:N.is f=false)(hc:cN P f=some c)(hl:Nat.ble args.length c.nt=true)(h:wp (ACalls P N) c.body (fin c.res K) (argE args) H):ACalls P N f args H K:=by
 unfold cN at hc
 cases hf:eFn P f with
 | none=>rw[hf]at hc; simp at hc
 | some c'=>
  rw[hf]at hc
  simp only[sJ]at hc
  subst hc
  exact acalls_of hn hf hl (wp_norm (calls_mono P N) _ h)
theorem aw_drawC{l:List AOper}{chk:List (List Nat)}(h2:noNew l=true)(h:wTr C l T H fun ss T' H'=>wCk (H::ss.map (·.2)) l chk ss T∧Q .normal T' H'):wp C (.draw l chk) Q T H:=by
 simp only[wp,wDraw,(claims_noNew l h2 H.next H).1,(claims_noNew l h2 H.next H).2]
 exact h
end
theorem argE_0(a:AVal)(r:List AVal):argE (a::r) 0=a:=_root_.id rfl
theorem argE_1(a b:AVal)(r:List AVal):argE (a::b::r) 1=b:=_root_.id rfl
theorem argE_2(a b c:AVal)(r:List AVal):argE (a::b::c::r) 2=c:=_root_.id rfl
theorem argE_3(a b c d:AVal)(r:List AVal):argE (a::b::c::d::r) 3=d:=_root_.id rfl
theorem argE_4(a b c d e:AVal)(r:List AVal):argE (a::b::c::d::e::r) 4=e:=_root_.id rfl
theorem bin_lss(k:IntKind)(a b:Int):aBin .lss (.int k a) (.int k b)=some (.bool (decide (a<b))):=by
 simp[aBin,isShift,aIntF_eq,aInt]
theorem bin_leq(k:IntKind)(a b:Int):aBin .leq (.int k a) (.int k b)=some (.bool (decide (a≤b))):=by
 simp[aBin,isShift,aIntF_eq,aInt]
theorem bin_gtr(k:IntKind)(a b:Int):aBin .gtr (.int k a) (.int k b)=some (.bool (decide (b<a))):=by
 simp[aBin,isShift,aIntF_eq,aInt]
theorem bin_geq(k:IntKind)(a b:Int):aBin .geq (.int k a) (.int k b)=some (.bool (decide (b≤a))):=by
 simp[aBin,isShift,aIntF_eq,aInt]
theorem bin_eql(k:IntKind)(a b:Int):aBin .eql (.int k a) (.int k b)=some (.bool (decide (a=b))):=by
 simp only[aBin,isShift,aIntF_eq,aInt,cond_false,if_true]
 by_cases h:a=b <;> simp[h]
theorem bin_neq(k:IntKind)(a b:Int):aBin .neq (.int k a) (.int k b)=some (.bool (!decide (a=b))):=by
 simp only[aBin,isShift,aIntF_eq,aInt,cond_false,if_true]
 by_cases h:a=b <;> simp[h,bne]
theorem bin_add(k:IntKind)(a b:Int):aBin .add (.int k a) (.int k b)=some (.int k (k.wrap (a+b))):=by
 simp[aBin,isShift,aIntF_eq,aInt]
theorem bin_sub(k:IntKind)(a b:Int):aBin .sub (.int k a) (.int k b)=some (.int k (k.wrap (a-b))):=by
 simp[aBin,isShift,aIntF_eq,aInt]
theorem bin_mul(k:IntKind)(a b:Int):aBin .mul (.int k a) (.int k b)=some (.int k (k.wrap (a*b))):=by
 simp[aBin,isShift,aIntF_eq,aInt]
theorem bin_rem(k:IntKind)(a b:Int)(h:b≠0):aBin .rem (.int k a) (.int k b)=some (.int k (a.tmod b)):=by
 simp[aBin,isShift,aIntF_eq,aInt,h]
theorem bin_remN(a b:Nat)(h:0<b):aBin .rem (.int .i64 (a:Int)) (.int .i64 (b:Int))=some (.int .i64 ((a % b:Nat):Int)):=by
 rw[bin_rem _ _ _ om]; rfl
theorem wrapN(a b:Nat)(h:a+b≤9223372036854775807):IntKind.i64.wrap ((a:Int)+(b:Int))=((a+b:Nat):Int):=by
 rw[IntKind.wrap_i64]; omega
theorem wrap1(a:Nat)(h:a+1≤9223372036854775807):IntKind.i64.wrap ((a:Int)+1)=((a+1:Nat):Int):=by
 rw[IntKind.wrap_i64]; omega
theorem isSome_of_lt{α:Type}{l:List α}{i:Nat}(h:i<l.length):∃x,l[i]?=some x:=⟨_,List.getElem?_eq_getElem h⟩
def ints(l:List Int):List AVal:=l.map fun n=>.int .i64 n
theorem ints_len(l:List Int):(ints l).length=l.length:=by simp[ints]
theorem ints_get{l:List Int}{i:Nat}{n:Int}(h:l[i]?=some n):(ints l)[i]?=some (.int .i64 n):=by simp[ints,h]
theorem ints_set(l:List Int)(i:Nat)(n:Int):ints (l.set i n)=(ints l).set i (.int .i64 n):=by simp[ints]
theorem wrap64{a:Int}(h1:-9223372036854775808≤a)(h2:a≤9223372036854775807):IntKind.i64.wrap a=a:=by
 rw[IntKind.wrap_i64]; omega
end Go.Abs.S
namespace Go.Abs
section
variable {P:Program} {Prot:Gh} {w0:World} {ρ:Pl} {H:AHeap} {w:World}
end
end Go.Abs
namespace Go.Abs.S
open Go.Abs
section
variable {C:CS} {T:Env} {H:AHeap} {r:List AOper} {d:Option Nat}
abbrev KT:=List (AVal×AHeap)→Env→AHeap→Prop
variable {K:KT}
def consK(v:AVal)(H:AHeap)(K:KT):KT:=fun ss=>K ((v,H)::ss)
theorem consK_app(v:AVal)(H':AHeap)(ss:List (AVal×AHeap)):consK v H' K ss T H=K ((v,H')::ss) T H:=_root_.id rfl
def OptKT(o:Option AVal)(C:CS)(r:List AOper)(T:Env)(d:Option Nat)(H:AHeap)(K:KT):Prop:=OptP o fun v=>wTr C r (upO T d v) H (consK v H K)
def OptHT(o:Option (AVal×AHeap))(C:CS)(r:List AOper)(T:Env)(d:Option Nat)(K:KT):Prop:=OptP o fun p=>wTr C r (upO T d p.1) p.2 (consK p.1 p.2 K)
def OptST(o:Option AHeap)(C:CS)(r:List AOper)(T:Env)(d:Option Nat)(K:KT):Prop:=OptP o fun H'=>wTr C r (upO T d undefA) H' (consK undefA H' K)
def kontT(C:CS)(r:List AOper)(T:Env)(d:Option Nat)(K:KT):AVal→AHeap→Prop:=fun v H'=>wTr C r (upO T d v) H' (consK v H' K)
theorem OptKT_some(v:AVal):OptKT (some v) C r T d H K=wTr C r (upO T d v) H (consK v H K):=OptP_some _ _
theorem OptHT_some(v:AVal)(H':AHeap):OptHT (some (v,H')) C r T d K=wTr C r (upO T d v) H' (consK v H' K):=OptP_some _ _
theorem OptST_some(H':AHeap):OptST (some H') C r T d K=wTr C r (upO T d undefA) H' (consK undefA H' K):=OptP_some _ _
theorem kontT_app(v:AVal):kontT C r T d K v H=wTr C r (upO T d v) H (consK v H K):=_root_.id rfl
theorem tr_nil:wTr C [] T H K=K [] T H:=_root_.id rfl
open Classical in
theorem tr_guard(o:AOp)(t:Nat)(b:Bool):wTr C (⟨d,o,some (t,b)⟩::r) T H K=if T t=.bool b then wTr C (⟨d,o,none⟩::r) T H K else wTr C r (upO T d undefA) H (consK undefA H K):=by
 simp only[wTr,sG_lt T t]
 by_cases h:T t=.bool b
 ·rw[if_pos h,h]; cases b <;> rfl
 ·rw[if_neg h]
  have:sGv b (T t)=false:=by
   unfold sGv
   cases hv:T t <;> simp only[gVb]
   rename_i v
   rw[hv]at h
   cases b <;> cases v <;> simp at h ⊢
  rw[this]; rfl
open Classical in
theorem tr_pick(c a b:Opd):wTr C (⟨d,.pick c a b,none⟩::r) T H K=if sX T c=.bool true then wTr C r (upO T d (sX T a)) H (consK (sX T a) H K) else if sX T c=.bool false then wTr C r (upO T d (sX T b)) H (consK (sX T b) H K) else False:=by
 simp only[wTr,sG,wOp,cond_true]
 by_cases h:sX T c=.bool true
 ·rw[if_pos h,h]; simp; rfl
 ·rw[if_neg h]
  by_cases h':sX T c=.bool false
  ·rw[if_pos h',h']; simp; rfl
  ·rw[if_neg h']
   simp only[eq_iff_iff,iff_false,not_exists,not_and]
   intro v hv
   cases v
   ·exact absurd hv h'
   ·exact absurd hv h
theorem tr_mv(x:Opd):wTr C (⟨d,.mv x,none⟩::r) T H K=wTr C r (upO T d (sX T x)) H (consK (sX T x) H K):=_root_.id rfl
theorem tr_new(z:List AVal):wTr C (⟨d,.new z,none⟩::r) T H K=wTr C r (upO T d (oNew H z).1) (oNew H z).2 (consK (oNew H z).1 (oNew H z).2 K):=_root_.id rfl
theorem tr_box(x:Opd):wTr C (⟨d,.box x,none⟩::r) T H K=wTr C r (upO T d (oNew H (sX T x).cells).1) (oNew H (sX T x).cells).2 (consK (oNew H (sX T x).cells).1 (oNew H (sX T x).cells).2 K):=_root_.id rfl
theorem tr_build(z:List AVal)(ps:List (Nat×Nat×Opd)):wTr C (⟨d,.build z ps,none⟩::r) T H K=OptKT (aBuild z (sXP T ps)) C r T d H K:=_root_.id rfl
theorem tr_buildSl(n:Nat)(z:List AVal)(ps:List (Nat×Nat×Opd)):wTr C (⟨d,.buildSl n z ps,none⟩::r) T H K=OptHT (aBuildSl n z H (sXP T ps)) C r T d K:=_root_.id rfl
theorem tr_load(a:Bool)(n:Nat)(x:Opd):wTr C (⟨d,.load a n x,none⟩::r) T H K=OptKT (oLoad a n H (sX T x)) C r T d H K:=_root_.id rfl
theorem tr_store(n:Nat)(a x:Opd):wTr C (⟨d,.store n a x,none⟩::r) T H K=OptST (oStore n H (sX T a) (sX T x)) C r T d K:=_root_.id rfl
theorem tr_nilChk(x:Opd):wTr C (⟨d,.nilChk x,none⟩::r) T H K=OptKT (aNilChk (sX T x)) C r T d H K:=_root_.id rfl
theorem tr_bin(op:BinOp)(x y:Opd):wTr C (⟨d,.bin op x y,none⟩::r) T H K=OptKT (aBin op (sX T x) (sX T y)) C r T d H K:=_root_.id rfl
theorem tr_un(op:UnOp)(x:Opd):wTr C (⟨d,.un op x,none⟩::r) T H K=OptKT (aUn op (sX T x)) C r T d H K:=_root_.id rfl
theorem tr_conv(k:IntKind)(x:Opd):wTr C (⟨d,.conv k x,none⟩::r) T H K=OptKT (aConv k (sX T x)) C r T d H K:=_root_.id rfl
theorem tr_convSB(x:Opd):wTr C (⟨d,.convSB x,none⟩::r) T H K=OptHT (aSB H (sX T x)) C r T d K:=_root_.id rfl
theorem tr_convBS(x:Opd):wTr C (⟨d,.convBS x,none⟩::r) T H K=OptKT (aBS H (sX T x)) C r T d H K:=_root_.id rfl
theorem tr_mkFunc(fn:Fn)(a b:List Opd):wTr C (⟨d,.mkFunc fn a b,none⟩::r) T H K=wTr C r (upO T d (.func fn (sXs T a) (sXs T b))) H (consK (.func fn (sXs T a) (sXs T b)) H K):=_root_.id rfl
theorem tr_mkIface(t:TypeId)(x:Opd):wTr C (⟨d,.mkIface t x,none⟩::r) T H K=wTr C r (upO T d (.iface t (sX T x))) H (consK (.iface t (sX T x)) H K):=_root_.id rfl
theorem tr_mkSlice(b:Nat)(z:List AVal)(l c:Opd):wTr C (⟨d,.mkSlice b z l c,none⟩::r) T H K=OptHT (aMake b z H (sX T l) (sX T c)) C r T d K:=_root_.id rfl
theorem tr_sl(n:Nat)(x:Opd)(lo hi mx:Option Opd):wTr C (⟨d,.sl n x lo hi mx,none⟩::r) T H K=OptKT (aSl n (sX T x) (sXO T lo) (sXO T hi) (sXO T mx)) C r T d H K:=_root_.id rfl
theorem tr_slStr(x:Opd)(lo hi:Option Opd):wTr C (⟨d,.slStr x lo hi,none⟩::r) T H K=OptKT (aSlStr (sX T x) (sXO T lo) (sXO T hi)) C r T d H K:=_root_.id rfl
theorem tr_fieldA(o:Nat)(x:Opd):wTr C (⟨d,.fieldA o x,none⟩::r) T H K=OptKT (aField o (sX T x)) C r T d H K:=_root_.id rfl
theorem tr_field(a:Bool)(n o:Nat)(x:Opd):wTr C (⟨d,.field a n o x,none⟩::r) T H K=OptKT (aFieldV a n o (sX T x)) C r T d H K:=_root_.id rfl
theorem tr_idxA(n:Nat)(x i:Opd):wTr C (⟨d,.idxA n x i,none⟩::r) T H K=OptKT (aIdxA n (sX T x) (sX T i)) C r T d H K:=_root_.id rfl
theorem tr_idxArr(m n:Nat)(x i:Opd):wTr C (⟨d,.idxArr m n x i,none⟩::r) T H K=OptKT (aIdxArr m n (sX T x) (sX T i)) C r T d H K:=_root_.id rfl
theorem tr_idx(m n:Nat)(a:Bool)(x i:Opd):wTr C (⟨d,.idx m n a x i,none⟩::r) T H K=OptKT (aIdx m n a (sX T x) (sX T i)) C r T d H K:=_root_.id rfl
theorem tr_idxS(x i:Opd):wTr C (⟨d,.idxS x i,none⟩::r) T H K=OptKT (aIdxS (sX T x) (sX T i)) C r T d H K:=_root_.id rfl
theorem tr_extract(i:Nat)(x:Opd):wTr C (⟨d,.extract i x,none⟩::r) T H K=OptKT (aExtract i (sX T x)) C r T d H K:=_root_.id rfl
theorem tr_append(n b:Nat)(s x:Opd):wTr C (⟨d,.append n b s x,none⟩::r) T H K=OptHT (aAppend n b H (sX T s) (sX T x)) C r T d K:=_root_.id rfl
theorem tr_len(s:Bool)(x:Opd):wTr C (⟨d,.len s x,none⟩::r) T H K=OptKT (aLenK s (sX T x)) C r T d H K:=_root_.id rfl
theorem tr_call(f:FuncId)(args:List Opd):wTr C (⟨d,.call f args,none⟩::r) T H K=C f (sXs T args) H (kontT C r T d K):=_root_.id rfl
theorem tr_callv(f:Opd)(args:List Opd):wTr C (⟨d,.callv f args,none⟩::r) T H K=callvP C (sX T f) (sXs T args) H (kontT C r T d K):=_root_.id rfl
theorem tr_pf(f:PF)(xs:List Opd):wTr C (⟨d,.pf f xs,none⟩::r) T H K=OptKT (aPf f (sXs T xs)) C r T d H K:=_root_.id rfl
theorem tr_hf(f:HF)(xs:List Opd):wTr C (⟨d,.hf f xs,none⟩::r) T H K=OptHT (aHf f H (sXs T xs)) C r T d K:=_root_.id rfl
theorem tr_slA(m n:Nat)(x:Opd)(lo hi mx:Option Opd):wTr C (⟨d,.slA m n x lo hi mx,none⟩::r) T H K=OptKT (aSlArr m n (sX T x) (sXO T lo) (sXO T hi) (sXO T mx)) C r T d H K:=_root_.id rfl
theorem ck_nil'(hs:List AHeap)(o:AOper)(l:List AOper)(ps:List (List Nat))(v:AVal)(Hv:AHeap)(ss:List (AVal×AHeap)):wCk hs (o::l) ([]::ps) ((v,Hv)::ss) T=wCk hs l ps ss (upO T o.dst v):=by
 simp[wCk]
def ckP(hs:List AHeap)(ps:List Nat)(T:Env)(o:AOper)(v:AVal):Prop:=∀p∈ps,∃Hp,hs[p]?=some Hp∧(sG T o.guard=true→∃u,wLd T Hp o.op=some u∧aeq u v=true)
theorem ck_cons(hs:List AHeap)(o:AOper)(l:List AOper)(p:Nat)(q:List Nat)(ps:List (List Nat))(v:AVal)(Hv:AHeap)(ss:List (AVal×AHeap)):wCk hs (o::l) ((p::q)::ps) ((v,Hv)::ss) T=(ckP hs (p::q) T o v∧wCk hs l ps ss (upO T o.dst v)):=by
 simp[wCk,ckP]
theorem ck_end(hs:List AHeap)(ps:List (List Nat))(ss:List (AVal×AHeap)):wCk hs [] ps ss T=True:=by
 cases ps <;> simp[wCk]
theorem ckP_nil(hs:List AHeap)(o:AOper)(v:AVal):ckP hs [] T o v=True:=by simp[ckP]
theorem ckP_load(hs:List AHeap)(p:Nat)(q:List Nat)(a:Bool)(n:Nat)(x:Opd)(g:Option (Nat×Bool))(v:AVal):ckP hs (p::q) T ⟨d,.load a n x,g⟩ v=((∃Hp,hs[p]?=some Hp∧(sG T g=true→∃u,oLoad a n Hp (sX T x)=some u∧aeq u v=true))∧ckP hs q T ⟨d,.load a n x,g⟩ v):=by
 simp[ckP,wLd]
theorem aeq_int(k:IntKind)(a:Int):aeq (.int k a) (.int k a)=true:=by simp[aeq,eqF_eq]
end
end Go.Abs.S
namespace Go.Abs.S
open Go.Abs
def ArgS(n:Nat)(H:AHeap)(s:AVal)(l:List AVal):Prop:=
 (s=nilS∧l=[])∨∃a cap,s=.slice (some a) l.length (.known cap)∧l.length≤cap∧a.b<n∧rdCells H a l.length=some l
theorem ArgS.cel{n:Nat}{H:AHeap}{s:AVal}{l:List AVal}(h:ArgS n H s l):Cel n H s l:=by
 rcases h with h | ⟨a,c,h1,h2,h3,h4⟩
 ·exact .inl ⟨isE_nil h.1,h.2⟩
 ·exact .inr ⟨a,_,h1,h3,h4⟩
theorem rd_pre{H:AHeap}{a:Ad}{n k:Nat}{xs:List AVal}(h:rdCells H a n=some xs)(hk:k≤n):rdCells H a k=some (xs.take k):=by
 obtain⟨l,low,ro,_,h1,h2,h3,h4,rfl⟩:=rd_spec h
 unfold rdCells
 simp only[h1,Nat.ble_eq_true_of_le h2,Nat.ble_eq_true_of_le h3,Nat.ble_eq_true_of_le (show a.o+k≤a.lim by omega),Bool.and_self,cond_true]
 rw[List.take_take,Nat.min_eq_left hk]
theorem row_newL(H:AHeap)(l:List AVal){n:Nat}(hn:l.length=n):∃H',oNew H l=(cellR H.next n 0,H')∧Row H' H.next l∧H'.next=H.next+1∧∀c,c≠H.next→H'.get c=H.get c:=by
 subst hn
 exact⟨_,rfl,row_push _ _,rfl,fun c hc=>by rw[AHeap.get_push,if_neg hc]⟩
theorem cells_agg(l:List AVal):(AVal.agg l).cells=l:=_root_.id rfl
theorem ext_0(x:AVal)(r:List AVal):aExtract 0 (.tuple (x::r))=some x:=_root_.id rfl
theorem ext_1(x y:AVal)(r:List AVal):aExtract 1 (.tuple (x::y::r))=some y:=_root_.id rfl
theorem ext_2(x y z:AVal)(r:List AVal):aExtract 2 (.tuple (x::y::z::r))=some z:=_root_.id rfl
theorem arr_idx{b n i:Nat}(h:i<n)(k:IntKind):aIdxArr n 1 (cellR b n 0) (.int k (i:Int))=some (cellR b n i):=by
 show (bif Nat.blt i n then some (AVal.ptr (some ⟨b,n,0+i*1⟩)) else none)=_
 have:Nat.blt i n=true:=by simpa[Nat.blt_eq] using h
 rw[this,Nat.zero_add,Nat.mul_one]; rfl
theorem Ext.of_new{H H':AHeap}{b:Nat}(hn:H'.next=H.next+1)(h:∀c,c≠b→H'.get c=H.get c){n:Nat}(hb:n≤b):Ext n H H':=⟨om,fun c hc=>h c om⟩
theorem rd_world{w:World}{c n off len:Nat}(hr:rowOf w c=some n)(hb:off+len≤n){l:List AVal}(hl:l.length=len)
  (h:∀i,i<len→∃v,w.cell? ⟨c,off+i,none⟩=some v∧l[i]?=some (absW w v)):rdCells (heapW w) ⟨c,n,off⟩ len=some l:=by
 obtain⟨C,e,fz,h1,h2,h3⟩:=objW_some hr
 unfold rdCells
 rw[heapW_get,h3]
 simp only[List.length_map,Array.length_toList,h2,Nat.ble_eq_true_of_le (Nat.zero_le _),Nat.ble_eq_true_of_le rL,Nat.ble_eq_true_of_le hb,Bool.and_self,cond_true,sJ]
 apply List.ext_getElem?
 intro i
 by_cases hi:i<len
 ·obtain⟨v,q1,q2⟩:=h i hi
  rw[q2,List.getElem?_take_of_lt hi,List.getElem?_drop,List.getElem?_map,Array.getElem?_toList]
  rw[cell?_of h1]at q1
  rw[q1]; rfl
 ·rw[List.getElem?_eq_none (by simp; omega),List.getElem?_eq_none om]
end Go.Abs.S
namespace Go.Abs.S
open Go.Abs Go.WideShapes Go.ChangeShapes
theorem rowAt_off{p:Program}{fits:TypeId→Bool}{d:Nat}{e:TypeId}{count off n:Nat}(h:rowAt p fits d e count off n=true):off≤count*p.cellsOf e:=by
 cases d with
 | zero=>simp[rowAt]at h
 | succ d=>
  unfold rowAt at h
  simp only at h
  split at h
  ·simp at h
  ·rename_i hs
   have hdiv:=Nat.div_add_mod off (p.cellsOf e)
   have hmod:=Nat.mod_lt off (Nat.pos_of_ne_zero hs)
   have key:off / p.cellsOf e≤count→(off % p.cellsOf e=0∨off / p.cellsOf e<count)→off≤count*p.cellsOf e:=by
    intro h1 h2
    rcases h2 with h2 | h2
    ·have:=Nat.mul_le_mul_right (p.cellsOf e) h1
     rw[Nat.mul_comm]at hdiv
     omega
    ·have:=Nat.mul_le_mul_right (p.cellsOf e) (Nat.succ_le_of_lt h2)
     rw[Nat.succ_mul]at this
     rw[Nat.mul_comm]at hdiv
     omega
   simp only[Bool.or_eq_true,Bool.and_eq_true,decide_eq_true_eq,beq_iff_eq]at h
   rcases h with⟨⟨h1,h2⟩,_⟩ | ⟨h1,_⟩
   ·exact key om (.inl h1)
   ·exact key om (.inr h1)
theorem liesAt_off{p:Program}:∀{d:Nat} {e:TypeId} {count off:Nat} {u:TypeId} {n:Nat},liesAt p d e count off u n=true→off≤count*p.cellsOf e:=by
 intro d
 induction d with
 | zero=>intro e count off u n h; simp[liesAt]at h
 | succ d ih=>
  intro e count off u n h
  unfold liesAt at h
  simp only[Bool.or_eq_true]at h
  rcases h with h | h
  ·exact rowAt_off h
  ·split at h
   ·exact ih h
   ·simp at h
theorem okWide_room{P:Program}{w:World}{r:Reach}{base:Nat}{t e:TypeId}{a:Addr}{len cap:Nat}(ht:P.underlying t=some (.slice e))(h:Value.okWide P w r base t (.slice (some a) len cap)) :
  a.spot=none∧len≤cap∧∃n,rowOf w a.block=some n∧a.off≤n:=by
 simp only[Value.okWide,ht,Cell.okWide,Cell.ok]at h
 obtain⟨h1,_,_,h2,row,cells,h3,h4⟩:=h
 refine⟨h2,h1,cells,?_,Nat.le_trans (liesAt_off h4) (Nat.div_mul_le_self _ _)⟩
 unfold World.shape? at h3
 unfold rowOf
 split at h3
 ·rename_i c el fz hc
  simp only[sJ,pJ]at h3
  rw[hc]
  simp only[h3.2]
 ·simp at h3
theorem cells_slice(v:Value){a:Option Addr}{len cap:Nat}(h:v=.slice a len cap):v.cells.toList=[.slice a len cap]:=by subst h; rfl
variable {H:Type} {enc:TypeId×Value→H}
theorem arg_ints{P:Program}{W:World}{base:Nat}{t e:TypeId}{v:Value}{d:DataW H}{p:List MemPlace}(ht:P.underlying t=some (.slice e))(he:P.underlying e=some (.int .i64))(hc:P.cellsOf e=1)
  (hok:Value.okWide P W .any base t v) (h:DataW.Trod enc P W 0 (fun _=>true) true t v d p) :
  ∃l:List Int,ArgS (heapW W).next (heapW W) (absW W v) (ints l)∧((d=.nil∧l=[])∨∃el sp,d=.slice el sp∧el.length=l.length):=by
 obtain⟨oa,len,cap,rfl⟩:=okWide_slice ht hok
 obtain⟨fuel,hf⟩:=h
 rw[cells_slice _ rfl]at hf
 rcases open_ints ht he hc hf with⟨h1,h2⟩ | ⟨a,len',cap',zs,h1,_,h3,h4,h5,h6,h7,_⟩
 ·simp only[List.cons.injEq,Value.slice.injEq,and_true]at h1
  obtain⟨rfl,rfl,rfl⟩:=h1
  simp only[pJ]at h2
  exact⟨[],.inl ⟨by simp[absW,nilS],rfl⟩,.inl ⟨h2.1,rfl⟩⟩
 ·simp only[List.cons.injEq,Value.slice.injEq,and_true]at h1
  obtain⟨rfl,rfl,rfl⟩:=h1
  simp only[if_true]at h5
  obtain⟨q1,q2,n,q3,q4⟩:=okWide_room ht hok
  obtain⟨c,off,spot⟩:=a
  simp only at q1 q3 q4
  subst q1
  simp only[pJ]at h6
  have hlt:(zs.take len).length=len:=by simp; omega
  have hcell:∀i,i<len→W.cell? ⟨c,off+i,none⟩=some (.int .i64 (zs.getD i 0)):=fun i hi=>by
   have:=h7 i om
   rwa [add_none]at this
  have hb:off+len≤n:=by
   by_cases h0:len=0
   ·omega
   ·obtain⟨C,e',fz,g1,g2,_⟩:=objW_some q3
    have:=hcell (len-1) om
    rw[cell?_of g1]at this
    have:=(Array.getElem?_eq_some_iff.1 this).1
    omega
  refine⟨zs.take len,.inr ⟨⟨c,n,off⟩,cap,?_,by rw[ints_len,hlt]; exact q2,?_,?_⟩,.inr ⟨_,_,h6.1,by simp[lits]⟩⟩
  ·rw[ints_len,hlt]
   simp only[absW,q2,if_true,q3,q4]
  ·obtain⟨C,e',fz,g1,_,_⟩:=objW_some q3
   exact (Array.getElem?_eq_some_iff.1 g1).1
  ·rw[ints_len,hlt]
   refine rd_world q3 hb (by rw[ints_len,hlt]) fun i hi=>⟨_,hcell i hi,?_⟩
   simp only[absW]
   refine ints_get ?_
   rw[List.getElem?_take_of_lt hi]
   have hz:i<zs.length:=om
   rw[List.getElem?_eq_getElem hz]
   simp[List.getD,hz]
theorem arg_sized{P:Program}{ts:List TypeId}{ds:List (DataW H)}(h:(DataW.weightsEach P ts ds).all (·≤reachBytes)=true){j:Nat}{t e:TypeId}{d:DataW H}{l:List Int}(ht:ts[j]?=some t)(hd:ds[j]?=some d)(hu:P.underlying t=some (.slice e))
  (hb:P.bytesOf e=8) (hl:(d=.nil∧l=[])∨∃el sp,d=.slice el sp∧el.length=l.length):l.length*8≤140737488351232:=by
 rcases hl with⟨_,rfl⟩ | ⟨el,sp,rfl,hl⟩
 ·simp
 ·have:=sized_slice h ht hd hu
  rw[hb]at this
  have e:reachBytes=140737488351232:=by decide
  omega
end Go.Abs.S
namespace Go.Abs.S
open Go.Abs
theorem Cel.src{n:Nat}{H:AHeap}{s:AVal}{l:List AVal}(h:Cel n H s l):aSrc 1 H s=some (l.length,l):=by
 rcases h with⟨h,rfl⟩ | ⟨a,r,rfl,_,h⟩
 ·rcases isE_cases h with rfl | ⟨a,rfl⟩ <;> rfl
 ·simp only[aSrc,Nat.mul_one,h]
theorem aw_cut{C:CS}{c:ACode}{id:Nat}{Q:Post}{T:Env}{H:AHeap}(F:Env→AHeap→Prop)(hC:CMono C)(h:wp C c (inBlk id (inSeq Q F)) T H)(k:∀T H,F T H→Q .normal T H):wp C c (inBlk id Q) T H:=by
 refine wp_mono' hC c (fun e T H hq=>?_) h
 cases e with
 | normal=>exact k _ _ hq
 | ret=>exact hq
 | exit j=>
  simp only[inBlk]at hq ⊢
  cases hb:Nat.beq j id with
  | true=>rw[hb]at hq; exact k _ _ hq
  | false=>rw[hb]at hq; exact hq
end Go.Abs.S
namespace Go.Abs.S
open Go.Abs
theorem str_len(s:List UInt8):aLenK true (.str s)=some (.int .i64 (s.length:Int)):=_root_.id rfl
theorem str_idx{s:List UInt8}{i:Nat}{b:UInt8}(h:s[i]?=some b)(k:IntKind):aIdxS (.str s) (.int k (i:Int))=some (.int .u8 (b.toNat:Int)):=by
 show (match (s[i]?:Option UInt8) with | some b=>some (AVal.int .u8 b.toNat) | none=>none)=_
 rw[h]
theorem str_eql(x y:List UInt8):aBin .eql (.str x) (.str y)=some (.bool (decide (x=y))):=by
 simp only[aBin,aStr]
 by_cases h:x=y <;> simp[h]
theorem str_neq(x y:List UInt8):aBin .neq (.str x) (.str y)=some (.bool (!decide (x=y))):=by
 simp only[aBin,aStr]
 by_cases h:x=y <;> simp[h]
theorem conv_in(k k':IntKind)(n:Int):aConv k (.int k' n)=some (.int k (k.wrap n)):=by
 simp only[aConv,wrF_eq]
theorem un_not(b:Bool):aUn .not (.bool b)=some (.bool (!b)):=_root_.id rfl
theorem bin_quo(k:IntKind)(a b:Int)(h:b≠0):aBin .quo (.int k a) (.int k b)=some (.int k (k.wrap (a.tdiv b))):=by
 simp[aBin,isShift,aIntF_eq,aInt,h]
theorem bin_shl(k k':IntKind)(a:Int)(b:Nat):aBin .shl (.int k a) (.int k' (b:Int))=some (.int k (k.wrap (a*2 ^ (min b k.bits)))):=by
 simp only[aBin,isShift,cond_true,aShiftF_eq,aShift]
 rw[if_neg om]; rfl
theorem bin_shr(k k':IntKind)(a:Int)(b:Nat):aBin .shr (.int k a) (.int k' (b:Int))=some (.int k (a.fdiv (2 ^ (min b k.bits)))):=by
 simp only[aBin,isShift,cond_true,aShiftF_eq,aShift]
 rw[if_neg om]; rfl
theorem undef_bool(b:Bool):(undefA=AVal.bool b)=False:=by simp[undefA]
theorem wrapU8{a:Int}(h1:0≤a)(h2:a≤255):IntKind.u8.wrap a=a:=IntWalk.u8_in _ ⟨h1,h2⟩
end Go.Abs.S
namespace Go.Abs.S
open Go.Abs
theorem ofInt_nat(n m:Nat):(BitVec.ofInt m (n:Int)).toNat=n % 2 ^ m:=by
 rw[BitVec.toNat_ofInt]
 omega
theorem wrapI{a:Nat}(h:a<2 ^ 63):IntKind.i64.wrap (a:Int)=a:=by
 rw[IntKind.wrap_i64]; omega
theorem bin_shlN{k':IntKind}{a b:Nat}(hb:b≤63)(h:a*2 ^ b<2 ^ 63):aBin .shl (.int .i64 (a:Int)) (.int k' (b:Int))=some (.int .i64 ((a*2 ^ b:Nat):Int)):=by
 rw[bin_shl]
 have e:min b IntKind.i64.bits=b:=by simp only[IntKind.bits]; omega
 rw[e]
 have e2:(a:Int)*2 ^ b=((a*2 ^ b:Nat):Int):=by simp
 rw[e2,wrapI h]
theorem or_low(n a:Nat){b:Nat}(h:b<2 ^ n):a*2 ^ n ||| b=a*2 ^ n+b:=by
 rw[Nat.mul_comm,Nat.two_pow_add_eq_or_of_lt h]
theorem pf_min(a b:Int):aPf (.mm false) [.int .i64 a,.int .i64 b]=some (.int .i64 (if b<a then b else a)):=by
 simp only[aPf,aMMs,aMM,aMM1,ltF_eq,cond_false]
 by_cases h:b<a <;> simp[h]
def u8s(l:List Nat):List AVal:=l.map fun n:Nat=>.int .u8 (n:Int)
theorem u8s_len(l:List Nat):(u8s l).length=l.length:=by simp[u8s]
theorem u8s_get{l:List Nat}{i:Nat}{n:Nat}(h:l[i]?=some n):(u8s l)[i]?=some (.int .u8 (n:Int)):=by simp[u8s,h]
theorem u8s_set(l:List Nat)(i n:Nat):u8s (l.set i n)=(u8s l).set i (.int .u8 (n:Int)):=by simp[u8s]
end Go.Abs.S
namespace Go.Abs.S
open Go.Abs
theorem wrapU32{a:Int}(h1:0≤a)(h2:a<4294967296):IntKind.u32.wrap a=a:=by
 rw[IntKind.wrap_u32]; omega
theorem wrapU64'{a:Int}(h1:0≤a)(h2:a<18446744073709551616):IntKind.u64.wrap a=a:=by
 rw[IntKind.wrap_u64]; omega
theorem quoU32{a:Nat}(b:Nat)(h:0<b)(ha:a<4294967296):aBin .quo (.int .u32 (a:Int)) (.int .u32 (b:Int))=some (.int .u32 ((a / b:Nat):Int)):=by
 rw[bin_quo _ _ _ om]
 have:(a:Int).tdiv b=((a / b:Nat):Int):=rfl
 have h2:=Nat.div_le_self a b
 rw[this,wrapU32 (Int.natCast_nonneg _) (by generalize a / b=q at *; omega)]
theorem remU32{a:Nat}(b:Nat)(h:0<b):aBin .rem (.int .u32 (a:Int)) (.int .u32 (b:Int))=some (.int .u32 ((a % b:Nat):Int)):=by
 rw[bin_rem _ _ _ om]; rfl
theorem quoU64{a:Nat}(b:Nat)(h:0<b)(ha:a<18446744073709551616):aBin .quo (.int .u64 (a:Int)) (.int .u64 (b:Int))=some (.int .u64 ((a / b:Nat):Int)):=by
 rw[bin_quo _ _ _ om]
 have:(a:Int).tdiv b=((a / b:Nat):Int):=rfl
 have h2:=Nat.div_le_self a b
 rw[this,wrapU64' (Int.natCast_nonneg _) (by generalize a / b=q at *; omega)]
theorem remU64{a:Nat}(b:Nat)(h:0<b):aBin .rem (.int .u64 (a:Int)) (.int .u64 (b:Int))=some (.int .u64 ((a % b:Nat):Int)):=by
 rw[bin_rem _ _ _ om]; rfl
theorem shrN(k k':IntKind)(a:Nat){b:Nat}(hb:b≤k.bits):aBin .shr (.int k (a:Int)) (.int k' (b:Int))=some (.int k ((a / 2 ^ b:Nat):Int)):=by
 rw[bin_shr,Nat.min_eq_left hb]
 congr 2
 have:((2:Int) ^ b)=((2 ^ b:Nat):Int):=by simp
 rw[this,Int.fdiv_eq_ediv_of_nonneg _ (Int.natCast_nonneg _)]
 rfl
theorem bin_andU64{a b:Nat}(ha:a<2 ^ 64)(hb:b<2 ^ 64):aBin .and (.int .u64 (a:Int)) (.int .u64 (b:Int))=some (.int .u64 ((a &&& b:Nat):Int)):=by
 have e:(BitVec.ofInt IntKind.u64.bits (a:Int) &&& BitVec.ofInt IntKind.u64.bits (b:Int)).toNat=a &&& b:=by
  rw[BitVec.toNat_and,ofInt_nat,ofInt_nat]
  have h1:a % 2 ^ IntKind.u64.bits=a:=Nat.mod_eq_of_lt (by simp only[IntKind.bits]; omega)
  have h2:b % 2 ^ IntKind.u64.bits=b:=Nat.mod_eq_of_lt (by simp only[IntKind.bits]; omega)
  rw[h1,h2]
 simp only[aBin,isShift,cond_false,if_true,aIntF_eq,aInt,e]
 have h3:=Nat.and_lt_two_pow a hb
 rw[wrapU64' om om]
def byts(s:List UInt8):List AVal:=s.map fun b=>.int .u8 (b.toNat:Int)
theorem byts_len(s:List UInt8):(byts s).length=s.length:=by simp[byts]
theorem byts_append(s t:List UInt8):byts (s++t)=byts s++byts t:=by simp[byts]
theorem byts_one(s:List UInt8):(byts s).all AVal.one=true:=by simp[byts,AVal.one]
theorem byts_get{s:List UInt8}{i:Nat}{b:UInt8}(h:s[i]?=some b):(byts s)[i]?=some (.int .u8 (b.toNat:Int)):=by simp[byts,h]
theorem bytesOf_byts:∀s:List UInt8,bytesOf (byts s)=some s
 | []=>rfl
 | b::s=>by
  have h:=bytesOf_byts s
  show (match bytesOf (byts s) with | some l=>some (UInt8.ofNat (Int.toNat (b.toNat:Int))::l) | none=>none)=_
  rw[h]
  simp
theorem src_str(H:AHeap)(s:List UInt8):aSrc 1 H (.str s)=some (s.length,byts s):=_root_.id rfl
theorem row_storeN{H:AHeap}{b n:Nat}{l:List AVal}(h:Row H b l)(hn:l.length=n){xs:List AVal}(hx:xs.length=n)(ho:xs.all AVal.one=true) :
  ∃H',oStore n H (cellR b n 0) (.agg xs)=some H'∧Row H' b xs∧H'.next=H.next∧∀c,c≠b→H'.get c=H.get c:=by
 subst hn
 obtain⟨low,h1,h2⟩:=h
 refine⟨H.set b (.cells xs l.length false),?_,⟨l.length,by rw[AHeap.get_set,if_pos rfl],om⟩,rfl,fun c hc=>by rw[AHeap.get_set,if_neg hc]⟩
 simp only[oStore,cellR,cells_agg,hx,Nat.beq_refl,cond_true]
 unfold wrCells
 simp only[h1,hx,Nat.ble_eq_true_of_le h2,Nat.beq_refl,Nat.zero_add,Nat.ble_eq_true_of_le rL,ho,Bool.and_self,cond_true,List.take_zero,List.nil_append,List.drop_length,List.append_nil]
theorem row_loadN{H:AHeap}{b n:Nat}{l:List AVal}(h:Row H b l)(hn:l.length=n):oLoad true n H (cellR b n 0)=some (.agg l):=by
 subst hn
 obtain⟨low,h1,h2⟩:=h
 simp only[oLoad,cellR,rd_whole h1 h2,cond_true]
theorem fld0(b n o:Nat):aField o (cellR b n 0)=some (cellR b n o):=by
 simp only[aField,cellR,Nat.zero_add]
theorem fin_c1{T:Env}{H:AHeap}(g:Bool)(n i:Nat)(K:AVal→AHeap→Prop){v:AVal}(h:oLoad g n H (T i)=some v)(hk:K v H):fin [.cell g n i] K .ret T H:=by
 simp only[fin,wRes,h,OptP_some]; exact hk
theorem fin_n0{T:Env}{H:AHeap}(K:AVal→AHeap→Prop):fin [] K .normal T H=K (.tuple []) H:=by
 simp only[fin,wRes,OptP_some]; rfl
end Go.Abs.S
namespace Go.Abs.S
open Go.Abs
theorem bs_cel{n:Nat}{H:AHeap}{s:AVal}{t:List UInt8}(h:Cel n H s (byts t)):aBS H s=some (.str t):=by
 rcases h with⟨h,h2⟩ | ⟨a,r,rfl,_,h3⟩
 ·have ht:t=[]:=by simpa[byts] using h2
  subst ht
  rcases isE_cases h with rfl | ⟨a,rfl⟩ <;> rfl
 ·simp only[aBS,h3,bytesOf_byts]
end Go.Abs.S
namespace Go.Abs.S
open Go.Abs Go.WideShapes Go.ChangeShapes
variable {H:Type} {enc:TypeId×Value→H}
end Go.Abs.S
namespace Go.Abs.S
open Go.Abs Go.WideShapes Go.ChangeShapes
variable {H:Type} {enc:TypeId×Value→H}
theorem cells_at{w:World}{b:Nat}{c off:Nat}{n:Nat}{cs:List Value}(h:w.cells? b ⟨c,off,none⟩ n=some cs):cs.length=n∧∀i,i<n→w.cell? ⟨c,off+i,none⟩=cs[i]?:=by
 unfold World.cells? at h
 split at h
 ·have key:∀(l:List Nat) (cs:List Value),l.mapM (fun i=>w.cell? ((⟨c,off,none⟩:Addr).add i))=some cs→cs.length=l.length∧∀(i j:Nat),l[i]?=some j→w.cell? ((⟨c,off,none⟩:Addr).add j)=cs[i]?:=by
   intro l
   induction l with
   | nil=>intro cs h; simp at h; subst h; simp
   | cons x l ih=>
    intro cs h
    simp only[List.mapM_cons]at h
    cases hx:w.cell? ((⟨c,off,none⟩:Addr).add x) with
    | none=>rw[hx]at h; simp at h
    | some v=>
     rw[hx]at h
     cases hr:l.mapM (fun i=>w.cell? ((⟨c,off,none⟩:Addr).add i)) with
     | none=>rw[hr]at h; simp at h
     | some vs=>
      rw[hr]at h
      simp at h
      subst h
      obtain⟨h1,h2⟩:=ih vs hr
      refine⟨by simp[h1],fun i j hj=>?_⟩
      cases i with
      | zero=>simp at hj; subst hj; simpa using hx
      | succ i=>simpa using h2 i j (by simpa using hj)
  obtain⟨h1,h2⟩:=key _ _ h
  refine⟨by simpa using h1,fun i hi=>?_⟩
  have:=h2 i i (by simp[hi])
  rwa [add_none]at this
 ·simp at h
end Go.Abs.S
namespace Go.Abs.S
open Go.Abs Go.WideShapes Go.ChangeShapes
variable {H:Type} {enc:TypeId×Value→H}
end Go.Abs.S
namespace Go.Abs.S
open Go.Abs
def AppN(m n:Nat)(H:AHeap)(s:AVal)(L:List AVal)(k:Nat):Prop:=
 (s=nilS∧L=[]∧k=0)∨∃b low,s=.slice (some ⟨b,L.length,0⟩) k (.open_ m)∧L.length=m*k∧n≤b∧b<H.next∧H.get b=some (.cells L low false)∧low≤L.length∧0<k
theorem AppN.nil(m n:Nat)(H:AHeap):AppN m n H nilS [] 0:=.inl ⟨rfl,rfl,rfl⟩
theorem AppN.ext{m n k:Nat}{H H':AHeap}{s:AVal}{L:List AVal}(h:AppN m n H s L k)(e:Ext H.next H H'):AppN m n H' s L k:=by
 rcases h with h | ⟨b,low,h1,h2,h3,h4,h5,h6⟩
 ·exact .inl h
 ·exact .inr ⟨b,low,h1,h2,h3,Nat.lt_of_lt_of_le h4 e.next,(e.old b h4).trans h5,h6⟩
theorem AppN.len{m n k:Nat}{H:AHeap}{s:AVal}{L:List AVal}(h:AppN m n H s L k):aLenK false s=some (.int .i64 (k:Int)):=by
 rcases h with⟨rfl,_,rfl⟩ | ⟨b,low,rfl,_⟩ <;> rfl
theorem AppN.blk{m n k:Nat}{H:AHeap}{s:AVal}{L:List AVal}(h:AppN m n H s L k):∀a j r,s=.slice (some a) j r→a.b<H.next:=by
 intro a j r he
 rcases h with⟨rfl,_⟩ | ⟨b,low,rfl,_,_,h4,_⟩
 ·simp[nilS]at he
 ·simp only[AVal.slice.injEq,sJ]at he
  rw[← he.1]; exact h4
def oneM(H:AHeap)(m:Nat):AVal:=.slice (some ⟨H.next,m,0⟩) 1 (.known 1)
theorem buildM{m:Nat}{z xs:List AVal}(H:AHeap)(hz:z.length=m)(hx:xs.length=m):aBuildSl 1 z H [(0,m,.agg xs)]=some (oneM H m,H.push (.cells xs 0 false)):=by
 subst hz
 have hb:Nat.beq xs.length z.length=true:=by rw[hx]; exact Nat.beq_refl _
 simp only[aBuildSl,rep,List.append_nil,aFill,cells_agg,hx,Nat.beq_refl,Nat.zero_add,Nat.ble_eq_true_of_le rL,Bool.and_self,cond_true,splice,List.take_zero,List.nil_append,List.drop_length,List.append_nil,oneM]
theorem srcM{m:Nat}{xs:List AVal}(H:AHeap)(hx:xs.length=m):aSrc m (H.push (.cells xs 0 false)) (oneM H m)=some (1,xs):=by
 subst hx
 have:=rd_whole (H:=H.push (.cells xs 0 false)) (b:=H.next) (l:=xs) (low:=0) (ro:=false) (by rw[AHeap.get_push,if_pos rfl]) (Nat.zero_le _)
 simp only[aSrc,oneM,Nat.one_mul,this]
theorem AppN.push{m n k:Nat}{H:AHeap}{s:AVal}{L:List AVal}(h:AppN m n H s L k)(hn:n≤H.next){xs:List AVal}(hx:xs.length=m)(ho:xs.all AVal.one=true)(hm:0<m){bytes:Nat}(hb:2*(k+1)*bytes≤281474976710656)(hb1:0<bytes) :
  ∃s' H',aAppend m bytes (H.push (.cells xs 0 false)) s (oneM H m)=some (s',H')∧AppN m n H' s' (L++xs) (k+1)∧Ext n H H'∧∀c,c<H.next→(∀a j r,s=.slice (some a) j r→c≠a.b)→H'.get c=H.get c:=by
 have hlen:k+1≤9223372036854775807:=by
  have:2*(k+1)≤2*(k+1)*bytes:=Nat.le_mul_of_pos_right _ hb1
  omega
 have hlt:Nat.blt 0 m=true:=by simpa[Nat.blt_eq] using hm
 have c1:∀j,j=k→(Nat.blt 0 m&&(Nat.ble ((2*(j+1)+0)*bytes) 281474976710656&&(Nat.ble (j+1) 9223372036854775807&&(Nat.beq xs.length (1*m)&&xs.all AVal.one))))=true:=by
  intro j hj
  subst hj
  simp only[Nat.add_zero,Nat.ble_eq_true_of_le hb,Nat.ble_eq_true_of_le hlen,hx,Nat.one_mul,Nat.beq_refl,ho,hlt,Bool.and_self]
 rcases h with⟨rfl,rfl,rfl⟩ | ⟨b,low,rfl,h2,h3,h4,h5,h6,h7⟩
 ·refine⟨.slice (some ⟨H.next+1,m,0⟩) 1 (.open_ m),(H.push (.cells xs 0 false)).push (.cells xs 0 false),?_,.inr ⟨H.next+1,0,by simp[hx],by simp[hx],om,Nat.lt_succ_self _,?_,Nat.zero_le _,om⟩,((Ext.refl n H).push hn _).push (by rw[push_next]; omega) _,fun c hc _=>by rw[AHeap.get_push,if_neg (by rw[push_next]; omega),get_push_lt hc]⟩
  ·simp only[aAppend,srcM H hx,nilS]
   rw[show Nat.beq 1 0=false from rfl,cond_false,c1 0 rfl,cond_true,hx]
   rfl
  ·rw[AHeap.get_push]; exact if_pos rfl
 ·have hg:(H.push (.cells xs 0 false)).get b=some (.cells L low false):=by rw[AHeap.get_push,if_neg om]; exact h5
  have hgrow:growCells (H.push (.cells xs 0 false)) ⟨b,L.length,0⟩ L.length xs=some ((H.push (.cells xs 0 false)).set b (.cells (L++xs) low false)):=by
   unfold growCells
   simp only[hg,Nat.ble_eq_true_of_le h6,Nat.ble_eq_true_of_le rL,Nat.ble_eq_true_of_le (Nat.zero_le _),Nat.ble_eq_true_of_le (show L.length+1≤L.length+xs.length by omega),Nat.beq_refl,ho,Bool.and_self,cond_true,List.take_length]
  refine⟨.slice (some ⟨b,L.length+m,0⟩) (k+1) (.open_ m),(H.push (.cells xs 0 false)).set b (.cells (L++xs) low false),?_,.inr ⟨b,low,by simp[hx],by rw[lA,h2,hx,Nat.mul_add,Nat.mul_one],h3,by rw[set_next,push_next]; omega,by rw[AHeap.get_set,if_pos rfl],by simp; omega,om⟩,((Ext.refl n H).push hn _).set h3 _,fun c hc hd=>by rw[AHeap.get_set,if_neg (hd _ _ _ rfl),get_push_lt hc]⟩
  have e0:0+k*m=L.length:=by rw[h2,Nat.mul_comm]; omega
  have e1:Nat.ble (0+(k+1)*m) L.length=false:=by
   rw[ble_dec]; refine decide_eq_false ?_
   rw[Nat.add_mul,Nat.one_mul]; omega
  simp only[aAppend,srcM H hx]
  rw[show Nat.beq 1 0=false from rfl,cond_false,c1 k rfl,cond_true]
  simp only[Nat.beq_refl,cond_true,e1,cond_false,e0,hgrow,hx]
theorem idxM{b lim k m:Nat}(K:IntKind){i:Nat}(h:i<k):aIdxA m (.slice (some ⟨b,lim,0⟩) k (.open_ m)) (.int K (i:Int))=some (cellR b lim (i*m)):=by
 show (bif Nat.blt i k then some (AVal.ptr (some ⟨b,lim,0+i*m⟩)) else none)=_
 have:Nat.blt i k=true:=by simpa[Nat.blt_eq] using h
 rw[this,Nat.zero_add]; rfl
end Go.Abs.S
namespace Go.Abs.S
open Go.Abs
def Blk(v:AVal)(P:Nat→Prop):Prop:=∀a m r,v=.slice (some a) m r→P a.b
theorem Blk.mono{v:AVal}{P Q:Nat→Prop}(h:Blk v P)(k:∀b,P b→Q b):Blk v Q:=fun a m r e=>k _ (h a m r e)
theorem isE_blk{s:AVal}(h:isE s=true)(P:Nat→Prop):Blk s P:=by
 rcases isE_cases h with rfl | ⟨a,rfl⟩ <;> (intro a m r e; simp[nilS]at e)
theorem isE_one{s:AVal}(h:isE s=true):s.one=true:=by
 rcases isE_cases h with rfl | ⟨a,rfl⟩ <;> rfl
theorem blk_nil(P:Nat→Prop):Blk nilS P:=by intro a m r h; simp[nilS]at h
theorem blk_some{a:Ad}{m:Nat}{r:Room}{P:Nat→Prop}(h:P a.b):Blk (.slice (some a) m r) P:=by
 intro a' m' r' e
 simp only[AVal.slice.injEq,sJ]at e
 rw[← e.1]; exact h
theorem Blk.and{v:AVal}{P Q:Nat→Prop}(h:Blk v P)(k:Blk v Q):Blk v fun b=>P b∧Q b:=fun a m r e=>⟨h a m r e,k a m r e⟩
theorem rd_row{H:AHeap}{b n:Nat}{l:List AVal}(h:Row H b l)(hn:l.length=n){i k:Nat}(hik:i+k≤n):rdCells H ⟨b,n,i⟩ k=some ((l.drop i).take k):=by
 subst hn
 obtain⟨low,h1,h2⟩:=h
 unfold rdCells
 simp only[h1,Nat.ble_eq_true_of_le h2,Nat.ble_eq_true_of_le rL,Nat.ble_eq_true_of_le hik,Bool.and_self,cond_true]
theorem row_loadK{H:AHeap}{b n:Nat}{l:List AVal}(h:Row H b l)(hn:l.length=n){i k:Nat}(hik:i+k≤n):oLoad true k H (cellR b n i)=some (.agg ((l.drop i).take k)):=by
 simp only[oLoad,cellR,rd_row h hn hik,cond_true]
theorem row_storeK{H:AHeap}{b n:Nat}{l:List AVal}(h:Row H b l)(hn:l.length=n){i k:Nat}(hik:i+k≤n){xs:List AVal}(hx:xs.length=k)(ho:xs.all AVal.one=true) :
  ∃H',oStore k H (cellR b n i) (.agg xs)=some H'∧Row H' b (l.take i++(xs++l.drop (i+k)))∧H'.next=H.next∧∀c,c≠b→H'.get c=H.get c:=by
 subst hn hx
 obtain⟨low,h1,h2⟩:=h
 refine⟨H.set b (.cells (l.take i++(xs++l.drop (i+xs.length))) l.length false),?_,⟨l.length,by rw[AHeap.get_set,if_pos rfl],by simp; omega⟩,rfl,fun c hc=>by rw[AHeap.get_set,if_neg hc]⟩
 simp only[oStore,cellR,cells_agg,Nat.beq_refl,cond_true]
 unfold wrCells
 simp only[h1,Nat.ble_eq_true_of_le h2,Nat.beq_refl,Nat.ble_eq_true_of_le hik,ho,Bool.and_self,cond_true]
theorem fldA(b n i o:Nat):aField o (cellR b n i)=some (cellR b n (i+o)):=_root_.id rfl
theorem nil_cell(b n i:Nat):aNilChk (cellR b n i)=some (cellR b n i):=_root_.id rfl
theorem eq_ptr(b n i j:Nat):aPf (.eqv false .ptr) [cellR b n i,cellR b n j]=some (.bool (Nat.beq i j)):=by
 show (match (bif Nat.beq b b&&Nat.beq n n then some (Nat.beq i j) else none) with | some c=>some (AVal.bool (bif false then !c else c)) | none=>none)=_
 simp only[Nat.beq_refl,Bool.and_self,cond_true,cond_false]
theorem eq_ptr_nil(b n i:Nat):aPf (.eqv false .ptr) [cellR b n i,.ptr none]=some (.bool false):=_root_.id rfl
theorem AppN.blk'{m n k:Nat}{H:AHeap}{s:AVal}{L:List AVal}(h:AppN m n H s L k):Blk s (·<H.next):=fun a j r e=>h.blk a j r e
theorem AppN.same{m n k:Nat}{H H':AHeap}{s:AVal}{L:List AVal}(h:AppN m n H s L k)(hn:H.next≤H'.next)(e:Blk s fun b=>H'.get b=H.get b):AppN m n H' s L k:=by
 rcases h with h | ⟨b,low,rfl,h2,h3,h4,h5,h6,h7⟩
 ·exact .inl h
 ·exact .inr ⟨b,low,rfl,h2,h3,om,(e _ _ _ rfl).trans h5,h6,h7⟩
theorem AppN.one{m n k:Nat}{H:AHeap}{s:AVal}{L:List AVal}(h:AppN m n H s L k):s.one=true:=by
 rcases h with⟨rfl,_⟩ | ⟨b,low,rfl,_⟩ <;> rfl
theorem AppN.pushB{m k:Nat}{H:AHeap}{s:AVal}{L:List AVal}(h:AppN m 0 H s L k){xs:List AVal}(hx:xs.length=m)(ho:xs.all AVal.one=true)(hm:0<m){bytes:Nat}(hb:2*(k+1)*bytes≤281474976710656)(hb1:0<bytes) :
  ∃s' H',aAppend m bytes (H.push (.cells xs 0 false)) s (oneM H m)=some (s',H')∧AppN m 0 H' s' (L++xs) (k+1)∧H.next≤H'.next∧(∀P,Blk s P→Blk s' fun b=>P b∨H.next≤b)∧∀c,c<H.next→Blk s (c≠·)→H'.get c=H.get c:=by
 rcases h with⟨rfl,rfl,rfl⟩ | ⟨b,low,rfl,h2,h3,h4,h5,h6,h7⟩
 ·obtain⟨s',H',h1,h2,h3,h4⟩:=(AppN.nil m H.next H).push rL hx ho hm hb hb1
  refine⟨s',H',h1,?_,h3.next,fun P _=>?_,fun c hc _=>h3.old c hc⟩
  ·rcases h2 with h2 | ⟨b,low,e1,e2,e3,e4,e5,e6,e7⟩
   ·exact .inl h2
   ·exact .inr ⟨b,low,e1,e2,Nat.zero_le _,e4,e5,e6,e7⟩
  ·rcases h2 with⟨_,_,h2⟩ | ⟨b,low,rfl,e2,e3,e4,e5,e6,e7⟩
   ·omega
   ·exact blk_some (.inr e3)
 ·have h0:AppN m 0 H (.slice (some ⟨b,L.length,0⟩) k (.open_ m)) L k:=.inr ⟨b,low,rfl,h2,h3,h4,h5,h6,h7⟩
  have hb':AppN m b H (.slice (some ⟨b,L.length,0⟩) k (.open_ m)) L k:=.inr ⟨b,low,rfl,h2,Nat.le_refl _,h4,h5,h6,h7⟩
  have hlen:k+1≤9223372036854775807:=by
   have:2*(k+1)≤2*(k+1)*bytes:=Nat.le_mul_of_pos_right _ hb1
   omega
  have hlt:Nat.blt 0 m=true:=by simpa[Nat.blt_eq] using hm
  have c1:(Nat.blt 0 m&&(Nat.ble ((2*(k+1)+0)*bytes) 281474976710656&&(Nat.ble (k+1) 9223372036854775807&&(Nat.beq xs.length (1*m)&&xs.all AVal.one))))=true:=by
   simp only[Nat.add_zero,Nat.ble_eq_true_of_le hb,Nat.ble_eq_true_of_le hlen,hx,Nat.one_mul,Nat.beq_refl,ho,hlt,Bool.and_self]
  have hg:(H.push (.cells xs 0 false)).get b=some (.cells L low false):=by rw[AHeap.get_push,if_neg om]; exact h5
  have hgrow:growCells (H.push (.cells xs 0 false)) ⟨b,L.length,0⟩ L.length xs=some ((H.push (.cells xs 0 false)).set b (.cells (L++xs) low false)):=by
   unfold growCells
   simp only[hg,Nat.ble_eq_true_of_le h6,Nat.ble_eq_true_of_le rL,Nat.ble_eq_true_of_le (Nat.zero_le _),Nat.ble_eq_true_of_le (show L.length+1≤L.length+xs.length by omega),Nat.beq_refl,ho,Bool.and_self,cond_true,List.take_length]
  have e0:0+k*m=L.length:=by rw[h2,Nat.mul_comm]; omega
  have e1:Nat.ble (0+(k+1)*m) L.length=false:=by
   rw[ble_dec]; refine decide_eq_false ?_
   rw[Nat.add_mul,Nat.one_mul]; omega
  refine⟨.slice (some ⟨b,L.length+m,0⟩) (k+1) (.open_ m),(H.push (.cells xs 0 false)).set b (.cells (L++xs) low false),?_,.inr ⟨b,low,by simp[hx],by rw[lA,h2,hx,Nat.mul_add,Nat.mul_one],Nat.zero_le _,by rw[set_next,push_next]; omega,by rw[AHeap.get_set,if_pos rfl],by simp; omega,om⟩,by rw[set_next,push_next]; omega,fun P hP=>(have hP2:P b:=hP _ _ _ rfl; blk_some (.inl hP2)),fun c hc hd=>by rw[AHeap.get_set,if_neg (hd _ _ _ rfl),get_push_lt hc]⟩
  simp only[aAppend,srcM H hx]
  rw[show Nat.beq 1 0=false from rfl,cond_false,c1,cond_true]
  simp only[Nat.beq_refl,cond_true,e1,cond_false,e0,hgrow,hx]
end Go.Abs.S
namespace Go.Abs.S
open Go.Abs
end Go.Abs.S
namespace Go.Abs.S
open Go.Abs
def hold(c:ACode):ACode:=c
theorem hold_eq(c:ACode):hold c=c:=_root_.id rfl
theorem aeq_open(a:Ad)(n m:Nat):aeq (.slice (some a) n (.open_ m)) (.slice (some a) n (.open_ m))=true:=by simp[aeq]
theorem aeq_nilS:aeq nilS nilS=true:=rfl
end Go.Abs.S
namespace Go.Abs.S
open Go.Abs
theorem sW:type_of% (And.intro (And.intro (And.intro (And.intro (And.intro (And.intro (And.intro (@pf_min) (@undef_bool)) (And.intro (@str_len) (@str_eql))) (And.intro (And.intro (@str_neq) (@conv_in)) (@un_not))) (And.intro (And.intro (And.intro (@eq_self.{1}) (@decide_true)) (@decide_false)) (And.intro (And.intro (@Bool.not_true) (@Bool.not_false)) (@argE_0)))) (And.intro (And.intro (And.intro (And.intro (@argE_1) (@argE_2)) (And.intro (@argE_3) (@argE_4))) (And.intro (And.intro (And.intro (@aw_skip) (And.intro (And.intro (@aw_dfr) (@wDfr_func)) (And.intro (@inDfr_ret) (@inDfr_normal)))) (@aw_reg)) (@aw_seq))) (And.intro (And.intro (And.intro (@aw_cond) (@aw_exit)) (@aw_ret)) (And.intro (And.intro (@inSeq_normal) (@inSeq_exit)) (@inSeq_ret))))) (And.intro (And.intro (And.intro (And.intro (And.intro (@inBlk_exit) (@inBlk_normal)) (And.intro (@inBlk_ret) (@OptK_some))) (And.intro (And.intro (@OptH_some) (@OptS_some)) (@kont_app))) (And.intro (And.intro (And.intro (@ar_nil) (@ar_guard)) (@ar_mv)) (And.intro (And.intro (@ar_pick) (@ar_new)) (@ar_box)))) (And.intro (And.intro (And.intro (And.intro (@ar_build) (@ar_buildSl)) (@ar_load)) (And.intro (And.intro (@ar_store) (@ar_nilChk)) (@ar_bin))) (And.intro (And.intro (And.intro (@ar_un) (@ar_conv)) (@ar_convSB)) (And.intro (And.intro (@ar_convBS) (@ar_mkFunc)) (@ar_mkIface)))))) (And.intro (And.intro (And.intro (And.intro (And.intro (And.intro (@ar_mkSlice) (@ar_sl)) (And.intro (@ar_slStr) (@ar_fieldA))) (And.intro (And.intro (@ar_field) (@ar_idxA)) (@ar_idxArr))) (And.intro (And.intro (And.intro (@ar_idx) (@ar_idxS)) (@ar_extract)) (And.intro (And.intro (@ar_append) (@ar_len)) (@ar_call)))) (And.intro (And.intro (And.intro (And.intro (@ar_callv) (@callvP_func)) (@ar_pf)) (And.intro (And.intro (@ar_hf) (@ar_slA)) (@upO_some))) (And.intro (And.intro (And.intro (@upO_none) (@sX_t)) (@sX_c)) (And.intro (And.intro (@sX_f) (@fin_t)) (@fin_t2))))) (And.intro (And.intro (And.intro (And.intro (And.intro (@fin_t3) (@up_same)) (And.intro (@up_ne) (@ne_eq.{1}))) (And.intro (And.intro (@not_false_eq_true) (@AVal.bool.injEq)) (@decide_eq_true_eq))) (And.intro (And.intro (And.intro (@decide_eq_false_iff_not) (@Int.ofNat_eq_natCast)) (@Int.cast_ofNat_Int)) (And.intro (And.intro (@bin_lss) (@bin_leq)) (@bin_gtr)))) (And.intro (And.intro (And.intro (And.intro (@bin_geq) (@bin_eql)) (@bin_neq)) (And.intro (And.intro (@bin_add) (@bin_sub)) (@bin_mul))) (And.intro (And.intro (And.intro (@Bool.not_eq_true') (@Bool.not_eq_false')) (@Bool.true_eq_false)) (And.intro (And.intro (@Bool.false_eq_true) (@if_true.{1})) (@if_false.{1}))))))):=And.intro (And.intro (And.intro (And.intro (And.intro (And.intro (And.intro (@pf_min) (@undef_bool)) (And.intro (@str_len) (@str_eql))) (And.intro (And.intro (@str_neq) (@conv_in)) (@un_not))) (And.intro (And.intro (And.intro (@eq_self.{1}) (@decide_true)) (@decide_false)) (And.intro (And.intro (@Bool.not_true) (@Bool.not_false)) (@argE_0)))) (And.intro (And.intro (And.intro (And.intro (@argE_1) (@argE_2)) (And.intro (@argE_3) (@argE_4))) (And.intro (And.intro (And.intro (@aw_skip) (And.intro (And.intro (@aw_dfr) (@wDfr_func)) (And.intro (@inDfr_ret) (@inDfr_normal)))) (@aw_reg)) (@aw_seq))) (And.intro (And.intro (And.intro (@aw_cond) (@aw_exit)) (@aw_ret)) (And.intro (And.intro (@inSeq_normal) (@inSeq_exit)) (@inSeq_ret))))) (And.intro (And.intro (And.intro (And.intro (And.intro (@inBlk_exit) (@inBlk_normal)) (And.intro (@inBlk_ret) (@OptK_some))) (And.intro (And.intro (@OptH_some) (@OptS_some)) (@kont_app))) (And.intro (And.intro (And.intro (@ar_nil) (@ar_guard)) (@ar_mv)) (And.intro (And.intro (@ar_pick) (@ar_new)) (@ar_box)))) (And.intro (And.intro (And.intro (And.intro (@ar_build) (@ar_buildSl)) (@ar_load)) (And.intro (And.intro (@ar_store) (@ar_nilChk)) (@ar_bin))) (And.intro (And.intro (And.intro (@ar_un) (@ar_conv)) (@ar_convSB)) (And.intro (And.intro (@ar_convBS) (@ar_mkFunc)) (@ar_mkIface)))))) (And.intro (And.intro (And.intro (And.intro (And.intro (And.intro (@ar_mkSlice) (@ar_sl)) (And.intro (@ar_slStr) (@ar_fieldA))) (And.intro (And.intro (@ar_field) (@ar_idxA)) (@ar_idxArr))) (And.intro (And.intro (And.intro (@ar_idx) (@ar_idxS)) (@ar_extract)) (And.intro (And.intro (@ar_append) (@ar_len)) (@ar_call)))) (And.intro (And.intro (And.intro (And.intro (@ar_callv) (@callvP_func)) (@ar_pf)) (And.intro (And.intro (@ar_hf) (@ar_slA)) (@upO_some))) (And.intro (And.intro (And.intro (@upO_none) (@sX_t)) (@sX_c)) (And.intro (And.intro (@sX_f) (@fin_t)) (@fin_t2))))) (And.intro (And.intro (And.intro (And.intro (And.intro (@fin_t3) (@up_same)) (And.intro (@up_ne) (@ne_eq.{1}))) (And.intro (And.intro (@not_false_eq_true) (@AVal.bool.injEq)) (@decide_eq_true_eq))) (And.intro (And.intro (And.intro (@decide_eq_false_iff_not) (@Int.ofNat_eq_natCast)) (@Int.cast_ofNat_Int)) (And.intro (And.intro (@bin_lss) (@bin_leq)) (@bin_gtr)))) (And.intro (And.intro (And.intro (And.intro (@bin_geq) (@bin_eql)) (@bin_neq)) (And.intro (And.intro (@bin_add) (@bin_sub)) (@bin_mul))) (And.intro (And.intro (And.intro (@Bool.not_eq_true') (@Bool.not_eq_false')) (@Bool.true_eq_false)) (And.intro (And.intro (@Bool.false_eq_true) (@if_true.{1})) (@if_false.{1}))))))
theorem sL:type_of% (And.intro (And.intro (@List.nil_append.{0}) (@List.cons_append.{0})) (@List.append_nil.{0})):=And.intro (And.intro (@List.nil_append.{0}) (@List.cons_append.{0})) (@List.append_nil.{0})
theorem sR:type_of% (And.intro (And.intro (And.intro (And.intro (And.intro (And.intro (@consK_app) (@OptKT_some)) (@OptHT_some)) (And.intro (@OptST_some) (@kontT_app))) (And.intro (And.intro (And.intro (@tr_nil) (@tr_guard)) (@tr_pick)) (And.intro (@tr_mv) (@tr_new)))) (And.intro (And.intro (And.intro (And.intro (@tr_box) (@tr_build)) (@tr_buildSl)) (And.intro (@tr_load) (@tr_store))) (And.intro (And.intro (And.intro (@tr_nilChk) (@tr_bin)) (@tr_un)) (And.intro (@tr_conv) (@tr_convSB))))) (And.intro (And.intro (And.intro (And.intro (And.intro (@tr_convBS) (@tr_mkFunc)) (@tr_mkIface)) (And.intro (@tr_mkSlice) (@tr_sl))) (And.intro (And.intro (And.intro (@tr_slStr) (@tr_fieldA)) (@tr_field)) (And.intro (@tr_idxA) (@tr_idxArr)))) (And.intro (And.intro (And.intro (And.intro (@tr_idx) (@tr_idxS)) (@tr_extract)) (And.intro (@tr_append) (@tr_len))) (And.intro (And.intro (And.intro (@tr_call) (@tr_callv)) (@tr_pf)) (And.intro (@tr_hf) (@tr_slA)))))):=And.intro (And.intro (And.intro (And.intro (And.intro (And.intro (@consK_app) (@OptKT_some)) (@OptHT_some)) (And.intro (@OptST_some) (@kontT_app))) (And.intro (And.intro (And.intro (@tr_nil) (@tr_guard)) (@tr_pick)) (And.intro (@tr_mv) (@tr_new)))) (And.intro (And.intro (And.intro (And.intro (@tr_box) (@tr_build)) (@tr_buildSl)) (And.intro (@tr_load) (@tr_store))) (And.intro (And.intro (And.intro (@tr_nilChk) (@tr_bin)) (@tr_un)) (And.intro (@tr_conv) (@tr_convSB))))) (And.intro (And.intro (And.intro (And.intro (And.intro (@tr_convBS) (@tr_mkFunc)) (@tr_mkIface)) (And.intro (@tr_mkSlice) (@tr_sl))) (And.intro (And.intro (And.intro (@tr_slStr) (@tr_fieldA)) (@tr_field)) (And.intro (@tr_idxA) (@tr_idxArr)))) (And.intro (And.intro (And.intro (And.intro (@tr_idx) (@tr_idxS)) (@tr_extract)) (And.intro (@tr_append) (@tr_len))) (And.intro (And.intro (And.intro (@tr_call) (@tr_callv)) (@tr_pf)) (And.intro (@tr_hf) (@tr_slA)))))
theorem sXs_n(T:Env):sXs T []=[]:=_root_.id rfl
theorem sXs_c(T:Env)(x:Opd)(r:List Opd):sXs T (x::r)=sX T x::sXs T r:=_root_.id rfl
theorem sXO_n(T:Env):sXO T none=none:=_root_.id rfl
theorem sXO_s(T:Env)(x:Opd):sXO T (some x)=some (sX T x):=_root_.id rfl
theorem sXP_n(T:Env):sXP T []=[]:=_root_.id rfl
theorem sXP_c(T:Env)(o n:Nat)(x:Opd)(r:List (Nat×Nat×Opd)):sXP T ((o,n,x)::r)=(o,n,sX T x)::sXP T r:=_root_.id rfl
theorem sA:type_of% (And.intro sW (And.intro sL (And.intro @aw_block (And.intro @sXs_n (And.intro @sXs_c (And.intro @sXO_n (And.intro @sXO_s (And.intro @sXP_n @sXP_c)))))))):=And.intro sW (And.intro sL (And.intro @aw_block (And.intro @sXs_n (And.intro @sXs_c (And.intro @sXO_n (And.intro @sXO_s (And.intro @sXP_n @sXP_c)))))))
end Go.Abs.S
namespace Go.Abs.S
open Go.Abs
theorem wrap_u(k:IntKind)(hk:k=.u8∨k=.u16∨k=.u32∨k=.u64){a:Nat}(h:a<2 ^ k.bits):k.wrap (a:Int)=a:=by
 rcases hk with rfl | rfl | rfl | rfl
 ·rw[IntKind.wrap_u8]; simp only[IntKind.bits]at h; omega
 ·rw[IntKind.wrap_u16]; simp only[IntKind.bits]at h; omega
 ·rw[IntKind.wrap_u32]; simp only[IntKind.bits]at h; omega
 ·rw[IntKind.wrap_u64]; simp only[IntKind.bits]at h; omega
theorem wrap_um(k:IntKind)(hk:k=.u8∨k=.u16∨k=.u32∨k=.u64)(a:Nat):k.wrap (a:Int)=((a % 2 ^ k.bits:Nat):Int):=by
 rcases hk with rfl | rfl | rfl | rfl
 ·rw[IntKind.wrap_u8]; simp only[IntKind.bits]; omega
 ·rw[IntKind.wrap_u16]; simp only[IntKind.bits]; omega
 ·rw[IntKind.wrap_u32]; simp only[IntKind.bits]; omega
 ·rw[IntKind.wrap_u64]; simp only[IntKind.bits]; omega
theorem bin_orU(k:IntKind)(hk:k=.u8∨k=.u16∨k=.u32∨k=.u64){a b:Nat}(ha:a<2 ^ k.bits)(hb:b<2 ^ k.bits):aBin .or (.int k (a:Int)) (.int k (b:Int))=some (.int k ((a ||| b:Nat):Int)):=by
 have e:(BitVec.ofInt k.bits (a:Int) ||| BitVec.ofInt k.bits (b:Int)).toNat=a ||| b:=by
  rw[BitVec.toNat_or,ofInt_nat,ofInt_nat,Nat.mod_eq_of_lt ha,Nat.mod_eq_of_lt hb]
 simp only[aBin,isShift,cond_false,if_true,aIntF_eq,aInt,e]
 rw[wrap_u k hk (Nat.or_lt_two_pow ha hb)]
theorem bin_andU(k:IntKind)(hk:k=.u8∨k=.u16∨k=.u32∨k=.u64){a b:Nat}(ha:a<2 ^ k.bits)(hb:b<2 ^ k.bits):aBin .and (.int k (a:Int)) (.int k (b:Int))=some (.int k ((a &&& b:Nat):Int)):=by
 have e:(BitVec.ofInt k.bits (a:Int) &&& BitVec.ofInt k.bits (b:Int)).toNat=a &&& b:=by
  rw[BitVec.toNat_and,ofInt_nat,ofInt_nat,Nat.mod_eq_of_lt ha,Nat.mod_eq_of_lt hb]
 simp only[aBin,isShift,cond_false,if_true,aIntF_eq,aInt,e]
 rw[wrap_u k hk (Nat.and_lt_two_pow _ hb)]
theorem bin_xorU(k:IntKind)(hk:k=.u8∨k=.u16∨k=.u32∨k=.u64){a b:Nat}(ha:a<2 ^ k.bits)(hb:b<2 ^ k.bits):aBin .xor (.int k (a:Int)) (.int k (b:Int))=some (.int k ((a ^^^ b:Nat):Int)):=by
 have e:(BitVec.ofInt k.bits (a:Int) ^^^ BitVec.ofInt k.bits (b:Int)).toNat=a ^^^ b:=by
  rw[BitVec.toNat_xor,ofInt_nat,ofInt_nat,Nat.mod_eq_of_lt ha,Nat.mod_eq_of_lt hb]
 simp only[aBin,isShift,cond_false,if_true,aIntF_eq,aInt,e]
 rw[wrap_u k hk (Nat.xor_lt_two_pow ha hb)]
theorem bin_shlU(k k':IntKind)(hk:k=.u8∨k=.u16∨k=.u32∨k=.u64)(a:Nat){b:Nat}(hb:b≤k.bits):aBin .shl (.int k (a:Int)) (.int k' (b:Int))=some (.int k ((a*2 ^ b % 2 ^ k.bits:Nat):Int)):=by
 rw[bin_shl,Nat.min_eq_left hb]
 have e2:(a:Int)*2 ^ b=((a*2 ^ b:Nat):Int):=by simp
 rw[e2,wrap_um k hk]
theorem u8s_append(a b:List Nat):u8s (a++b)=u8s a++u8s b:=by simp[u8s]
theorem u8s_one(l:List Nat):(u8s l).all AVal.one=true:=by simp[u8s,AVal.one]
theorem u8s_byts{l:List Nat}(h:∀x∈l,x<256):u8s l=byts (l.map UInt8.ofNat):=by
 induction l with
 | nil=>rfl
 | cons x r ih=>
  have h1:=h x (by simp)
  have h2:=ih fun y hy=>h y (by simp[hy])
  simp only[u8s,byts,List.map_cons,List.map_map]at h2 ⊢
  rw[h2]
  congr 2
  simp only[UInt8.toNat_ofNat']
  omega
theorem AppN.many{m k j:Nat}{H:AHeap}{s x:AVal}{L xs:List AVal}(h:AppN m 0 H s L k)(hs:aSrc m H x=some (j,xs))(hx:xs.length=m*j)(ho:xs.all AVal.one=true)(hm:0<m){bytes:Nat}(hb:2*(k+j)*bytes≤281474976710656)(hb1:0<bytes) :
  ∃s' H',aAppend m bytes H s x=some (s',H')∧AppN m 0 H' s' (L++xs) (k+j)∧H.next≤H'.next∧(∀P,Blk s P→Blk s' fun b=>P b∨H.next≤b)∧∀c,c<H.next→Blk s (c≠·)→H'.get c=H.get c:=by
 by_cases hj:j=0
 ·subst hj
  have hxs:xs=[]:=List.length_eq_zero_iff.1 om
  subst hxs
  rw[List.append_nil,Nat.add_zero]
  refine⟨s,H,?_,h,Nat.le_refl _,fun P hP=>hP.mono fun b hb=>.inl hb,fun _ _ _=>rfl⟩
  simp only[aAppend,hs,show Nat.beq 0 0=true from rfl,cond_true]
  rcases h with⟨rfl,_⟩ | ⟨b,low,rfl,_⟩ <;> rfl
 have hxl:0<xs.length:=by rw[hx]; exact Nat.mul_pos hm om
 have hlen:k+j≤9223372036854775807:=by
  have:2*(k+j)≤2*(k+j)*bytes:=Nat.le_mul_of_pos_right _ hb1
  omega
 have hlt:Nat.blt 0 m=true:=by simpa[Nat.blt_eq] using hm
 have e0:Nat.beq j 0=false:=by rw[beq_dec]; exact decide_eq_false hj
 have c1:∀q,q=k→(Nat.blt 0 m&&(Nat.ble ((2*(q+j)+0)*bytes) 281474976710656&&(Nat.ble (q+j) 9223372036854775807&&(Nat.beq xs.length (j*m)&&xs.all AVal.one))))=true:=by
  intro q hq
  subst hq
  simp only[Nat.add_zero,Nat.ble_eq_true_of_le hb,Nat.ble_eq_true_of_le hlen,hx,Nat.mul_comm m j,Nat.beq_refl,ho,hlt,Bool.and_self]
 rcases h with⟨rfl,rfl,rfl⟩ | ⟨b,low,rfl,h2,h3,h4,h5,h6,h7⟩
 ·refine⟨.slice (some ⟨H.next,xs.length,0⟩) j (.open_ m),H.push (.cells xs 0 false),?_,.inr ⟨H.next,0,by simp,by simp[hx],Nat.zero_le _,Nat.lt_succ_self _,by rw[AHeap.get_push]; exact if_pos rfl,Nat.zero_le _,om⟩,by simp[AHeap.push],fun P _=>blk_some (.inr rL),fun c hc _=>get_push_lt hc⟩
  simp only[aAppend,hs,e0,cond_false,nilS]
  rw[c1 0 rfl,cond_true]
 ·have hgrow:growCells H ⟨b,L.length,0⟩ L.length xs=some (H.set b (.cells (L++xs) low false)):=by
   unfold growCells
   simp only[h5,Nat.ble_eq_true_of_le h6,Nat.ble_eq_true_of_le rL,Nat.ble_eq_true_of_le (Nat.zero_le _),Nat.ble_eq_true_of_le (show L.length+1≤L.length+xs.length by omega),Nat.beq_refl,ho,Bool.and_self,cond_true,List.take_length]
  have e1:0+k*m=L.length:=by rw[h2,Nat.mul_comm]; omega
  have e2:Nat.ble (0+(k+j)*m) L.length=false:=by
   rw[ble_dec]; refine decide_eq_false ?_
   rw[Nat.add_mul,h2,Nat.mul_comm k m]
   have:0<j*m:=Nat.mul_pos om hm
   omega
  refine⟨.slice (some ⟨b,L.length+xs.length,0⟩) (k+j) (.open_ m),H.set b (.cells (L++xs) low false),?_,.inr ⟨b,low,by simp,by rw[lA,h2,hx,Nat.mul_add],Nat.zero_le _,by rw[set_next]; exact h4,by rw[AHeap.get_set,if_pos rfl],by simp; omega,om⟩,Nat.le_refl _,fun P hP=>(have hP2:P b:=hP _ _ _ rfl; blk_some (.inl hP2)),fun c hc hd=>by rw[AHeap.get_set,if_neg (hd _ _ _ rfl)]⟩
  simp only[aAppend,hs,e0,cond_false,c1 k rfl,cond_true,Nat.beq_refl,e1,e2,hgrow]
theorem AppN.cel1{H:AHeap}{s:AVal}{L:List AVal}{k n:Nat}(h:AppN 1 0 H s L k)(hb:Blk s (·<n)):Cel n H s L:=by
 rcases h with⟨rfl,rfl,_⟩ | ⟨b,low,rfl,h2,_,h4,h5,h6,_⟩
 ·exact .inl ⟨rfl,rfl⟩
 ·have e:k=L.length:=om
  exact .inr ⟨⟨b,L.length,0⟩,.open_ 1,by rw[e],hb _ _ _ rfl,rd_whole h5 h6⟩
theorem AppN.write{H:AHeap}{s:AVal}{L:List AVal}{k:Nat}(h:AppN 1 0 H s L k){i:Nat}(hi:i<k){x:AVal}(hx:x.one=true) :
  ∃a H',aIdxA 1 s (.int .i64 (i:Int))=some a∧(∀y,L[i]?=some y→oLoad false 1 H a=some y)∧oStore 1 H a x=some H'∧AppN 1 0 H' s (L.set i x) k∧H'.next=H.next∧∀c,Blk s (c≠·)→H'.get c=H.get c:=by
 rcases h with⟨_,_,h⟩ | ⟨b,low,rfl,h2,h3,h4,h5,h6,h7⟩
 ·omega
 ·have hR:Row H b L:=⟨low,h5,h6⟩
  have hL:L.length=k:=om
  obtain⟨H',m1,⟨low',r1,r2⟩,k1,o1⟩:=row_store hR hL hi hx
  refine⟨cellR b k i,H',?_,fun y hy=>row_load hR hL hy,m1,.inr ⟨b,low',by simp,by simp[h2],Nat.zero_le _,om,r1,r2,h7⟩,k1,fun c hc=>o1 c (hc _ _ _ rfl)⟩
  rw[hL]
  exact row_idx (r:=.open_ 1) .i64 hi
def upT(τ:Nat→Nat)(H H':AHeap)(k:Nat):Nat→Nat:=fun c=>if c<H.next then τ c else if c<H'.next then k else 0
theorem upT_old{τ:Nat→Nat}{H H':AHeap}{k c:Nat}(h:c<H.next):upT τ H H' k c=τ c:=if_pos h
theorem upT_new{τ:Nat→Nat}{H H':AHeap}{k c:Nat}(h:H.next≤c)(h':c<H'.next):upT τ H H' k c=k:=by
 unfold upT; rw[if_neg om,if_pos h']
theorem upT_z{τ:Nat→Nat}{H H':AHeap}{k c:Nat}(hn:H.next≤H'.next)(h:H'.next≤c):upT τ H H' k c=0:=by
 unfold upT; rw[if_neg om,if_neg om]
def FrS(S:Nat→Prop)(τ:Nat→Nat)(H:AHeap)(τ':Nat→Nat)(H':AHeap):Prop:=H.next≤H'.next∧∀c,c<H.next→τ' c=τ c∧(¬S (τ c)→H'.get c=H.get c)
theorem FrS.refl(S:Nat→Prop)(τ:Nat→Nat)(H:AHeap):FrS S τ H τ H:=⟨Nat.le_refl _,fun _ _=>⟨rfl,fun _=>rfl⟩⟩
theorem FrS.trans{S:Nat→Prop}{τ τ' τ'':Nat→Nat}{H H' H'':AHeap}(h:FrS S τ H τ' H')(k:FrS S τ' H' τ'' H''):FrS S τ H τ'' H'':=
 ⟨Nat.le_trans h.1 k.1,fun c hc=>by
  obtain⟨e1,e2⟩:=h.2 c hc
  obtain⟨e3,e4⟩:=k.2 c (Nat.lt_of_lt_of_le hc h.1)
  exact⟨e3.trans e1,fun hs=>(e4 (by rw[e1]; exact hs)).trans (e2 hs)⟩⟩
theorem FrS.wide{S S':Nat→Prop}{τ τ':Nat→Nat}{H H':AHeap}(h:FrS S τ H τ' H')(hs:∀k,S k→S' k):FrS S' τ H τ' H':=
 ⟨h.1,fun c hc=>⟨(h.2 c hc).1,fun hn=>(h.2 c hc).2 fun q=>hn (hs _ q)⟩⟩
theorem FrS.of_ext{S:Nat→Prop}{τ:Nat→Nat}{H H':AHeap}(e:Ext H.next H H'):FrS S τ H τ H':=⟨e.next,fun c hc=>⟨rfl,fun _=>e.old c hc⟩⟩
end Go.Abs.S
namespace Go.Abs.S
open Go.Abs
def cutP:List Nat→ACode→ACode
 | [],c=>hold c
 | 0::p,.seq a b=>.seq (cutP p a) b
 | 1::p,.seq a b=>.seq a (cutP p b)
 | 2::p,.block i c=>.block i (cutP p c)
 | 3::p,.loop c=>.loop (cutP p c)
 | 4::p,.cond x a b=>.cond x (cutP p a) b
 | 5::p,.cond x a b=>.cond x a (cutP p b)
 | _,c=>c
def restP:List Nat→ACode→ACode
 | [],c=>c
 | 0::p,.seq a _=>restP p a
 | 1::p,.seq _ b=>restP p b
 | 2::p,.block _ c=>restP p c
 | 3::p,.loop c=>restP p c
 | 4::p,.cond _ a _=>restP p a
 | 5::p,.cond _ _ b=>restP p b
 | _,c=>c
theorem cutP_eq(p:List Nat):∀c:ACode,cutP p c=c:=by
 induction p with
 | nil=>intro c; rfl
 | cons k p ih=>
  intro c
  unfold cutP
  split <;> first | rfl | (rename_i h; injection h with _ hp; subst hp; rw[ih])
theorem cutP_nil(c:ACode):cutP [] c=hold c:=_root_.id rfl
theorem cutP_0(p:List Nat)(a b:ACode):cutP (0::p) (.seq a b)=.seq (cutP p a) b:=_root_.id rfl
theorem cutP_1(p:List Nat)(a b:ACode):cutP (1::p) (.seq a b)=.seq a (cutP p b):=_root_.id rfl
theorem cutP_2(p:List Nat)(i:Nat)(c:ACode):cutP (2::p) (.block i c)=.block i (cutP p c):=_root_.id rfl
theorem cutP_3(p:List Nat)(c:ACode):cutP (3::p) (.loop c)=.loop (cutP p c):=_root_.id rfl
theorem cutP_4(p:List Nat)(x:Opd)(a b:ACode):cutP (4::p) (.cond x a b)=.cond x (cutP p a) b:=_root_.id rfl
theorem cutP_5(p:List Nat)(x:Opd)(a b:ACode):cutP (5::p) (.cond x a b)=.cond x a (cutP p b):=_root_.id rfl
theorem wp_cutP{C:CS}{c:ACode}{Q:Post}{T:Env}{H:AHeap}(p:List Nat)(h:wp C (cutP p c) Q T H):wp C c Q T H:=by rwa [cutP_eq]at h
theorem sC:type_of% (And.intro @cutP_nil (And.intro @cutP_0 (And.intro @cutP_1 (And.intro @cutP_2 (And.intro @cutP_3 (And.intro @cutP_4 @cutP_5)))))):=And.intro @cutP_nil (And.intro @cutP_0 (And.intro @cutP_1 (And.intro @cutP_2 (And.intro @cutP_3 (And.intro @cutP_4 @cutP_5)))))
end Go.Abs.S
namespace Go.Abs.S
open Go.Abs
theorem bnd_lh{len c lo hi:Nat}(h1:lo≤hi)(h2:hi≤c):aBnd len c (some (.int .i64 (lo:Int))) (some (.int .i64 (hi:Int))) none=some (lo,hi,none):=by
 show (match bdO (some (AVal.int .i64 (Int.ofNat hi))) c len with | some h=>(match bdO (some (AVal.int .i64 (Int.ofNat lo))) h 0 with | some l=>some (l,h,none) | none=>none) | none=>none)=_
 simp only[bdO,bd,Nat.ble_eq_true_of_le h2,Nat.ble_eq_true_of_le h1,cond_true]
theorem bnd_l{len c lo:Nat}(h1:lo≤len):aBnd len c (some (.int .i64 (lo:Int))) none none=some (lo,len,none):=by
 show (match bdO none c len with | some h=>(match bdO (some (AVal.int .i64 (Int.ofNat lo))) h 0 with | some l=>some (l,h,none) | none=>none) | none=>none)=_
 simp only[bdO,bd,Nat.ble_eq_true_of_le h1,cond_true]
theorem bnd_3{len c w:Nat}(h:w≤c):aBnd len c none (some (.int .i64 (w:Int))) (some (.int .i64 (w:Int)))=some (0,w,some w):=by
 show (match bd (AVal.int .i64 (Int.ofNat w)) c with | some m=>(match bd (AVal.int .i64 (Int.ofNat w)) m with | some h=>(match bdO none h 0 with | some l=>some (l,h,some m) | none=>none) | none=>none) | none=>none)=_
 simp only[bdO,bd,Nat.ble_eq_true_of_le h,Nat.ble_eq_true_of_le (Nat.le_refl w),cond_true]
theorem AppN.slice{H:AHeap}{s:AVal}{L:List AVal}{k:Nat}(h:AppN 1 0 H s L k){lo hi:Nat}(h1:lo≤hi)(h2:hi≤k) :
  ∃s',aSl 1 s (some (.int .i64 (lo:Int))) (some (.int .i64 (hi:Int))) none=some s'∧Cel H.next H s' ((L.drop lo).take (hi-lo))∧∀P,Blk s P→Blk s' P:=by
 rcases h with⟨rfl,rfl,rfl⟩ | ⟨b,low,rfl,h3,h4,h5,h6,h7,h8⟩
 ·obtain rfl:hi=0:=om
  obtain rfl:lo=0:=om
  exact⟨nilS,rfl,.inl ⟨rfl,rfl⟩,fun P h=>h⟩
 ·have hR:Row H b L:=⟨low,h6,h7⟩
  have hl:((L.drop lo).take (hi-lo)).length=hi-lo:=by simp; omega
  refine⟨.slice (some ⟨b,L.length,lo⟩) (hi-lo) (.open_ 1),?_,.inr ⟨_,_,by rw[hl],h5,by rw[hl]; exact rd_row hR rfl om⟩,fun P hP=>(have q:P b:=hP _ _ _ rfl; blk_some q)⟩
  simp only[aSl,Nat.beq_refl,cond_true,Nat.sub_zero,Nat.div_one,bnd_lh h1 (show hi≤L.length by omega),Nat.zero_add,Nat.mul_one,Nat.ble_eq_true_of_le (show hi≤L.length by omega)]
theorem AppN.from_{H:AHeap}{s:AVal}{L:List AVal}{k:Nat}(h:AppN 1 0 H s L k){lo:Nat}(h1:lo≤k) :
  ∃s',aSl 1 s (some (.int .i64 (lo:Int))) none none=some s'∧Cel H.next H s' (L.drop lo)∧∀P,Blk s P→Blk s' P:=by
 rcases h with⟨rfl,rfl,rfl⟩ | ⟨b,low,rfl,h3,h4,h5,h6,h7,h8⟩
 ·obtain rfl:lo=0:=om
  exact⟨nilS,rfl,.inl ⟨rfl,rfl⟩,fun P h=>h⟩
 ·have hR:Row H b L:=⟨low,h6,h7⟩
  have hl:(L.drop lo).length=k-lo:=by simp; omega
  have hr:=rd_row hR rfl (i:=lo) (k:=k-lo) om
  rw[List.take_of_length_le om]at hr
  refine⟨.slice (some ⟨b,L.length,lo⟩) (k-lo) (.open_ 1),?_,.inr ⟨_,_,by rw[hl],h5,by rw[hl]; exact hr⟩,fun P hP=>(have q:P b:=hP _ _ _ rfl; blk_some q)⟩
  simp only[aSl,Nat.beq_refl,cond_true,Nat.sub_zero,Nat.div_one,bnd_l h1,Nat.zero_add,Nat.mul_one,Nat.ble_eq_true_of_le (show k≤L.length by omega)]
theorem AppN.take3{H:AHeap}{s:AVal}{L:List AVal}{k:Nat}(h:AppN 1 0 H s L k){w:Nat}(h1:w≤k)(h0:0<w) :
  ∃s',aSl 1 s none (some (.int .i64 (w:Int))) (some (.int .i64 (w:Int)))=some s'∧Cel H.next H s' (L.take w)∧∀P,Blk s P→Blk s' P:=by
 rcases h with⟨rfl,rfl,rfl⟩ | ⟨b,low,rfl,h3,h4,h5,h6,h7,h8⟩
 ·omega
 ·have hR:Row H b L:=⟨low,h6,h7⟩
  have hl:(L.take w).length=w:=by simp; omega
  have hr:=rd_row hR rfl (i:=0) (k:=w) om
  rw[List.drop_zero]at hr
  have e0:Nat.beq w 0=false:=by rw[beq_dec]; exact decide_eq_false om
  refine⟨.slice (some ⟨b,L.length,0⟩) w (.known w),?_,.inr ⟨_,_,by rw[hl],h5,by rw[hl]; exact hr⟩,fun P hP=>(have q:P b:=hP _ _ _ rfl; blk_some q)⟩
  simp only[aSl,Nat.beq_refl,cond_true,Nat.sub_zero,Nat.div_one,bnd_3 (show w≤L.length by omega),e0,cond_false,Nat.zero_add,Nat.mul_one,Nat.zero_mul]
end Go.Abs.S
namespace Go.Abs.S
open Go.Abs
def LinM(m:Nat)(H:AHeap)(s:AVal)(L:List AVal)(k:Nat):Prop:=
 (s=nilS∧L=[]∧k=0)∨∃b C low r,s=.slice (some ⟨b,C.length,0⟩) k r∧(r=.open_ m∨∃cap,r=.known cap∧k≤cap∧C.length=cap*m)∧H.get b=some (.cells C low false)∧low≤C.length∧C.take (k*m)=L∧L.length=k*m∧k*m≤C.length∧b<H.next
theorem LinM.len{m k:Nat}{H:AHeap}{s:AVal}{L:List AVal}(h:LinM m H s L k):aLenK false s=some (.int .i64 (k:Int)):=by
 rcases h with⟨rfl,_,rfl⟩ | ⟨b,C,low,r,rfl,_⟩ <;> rfl
theorem LinM.one{m k:Nat}{H:AHeap}{s:AVal}{L:List AVal}(h:LinM m H s L k):s.one=true:=by
 rcases h with⟨rfl,_,rfl⟩ | ⟨b,C,low,r,rfl,_⟩ <;> rfl
theorem LinM.same{m k:Nat}{H H':AHeap}{s:AVal}{L:List AVal}(h:LinM m H s L k)(hn:H.next≤H'.next)(e:Blk s fun c=>H'.get c=H.get c):LinM m H' s L k:=by
 rcases h with h | ⟨b,C,low,r,rfl,h2,h3,h4,h5,h6,h7,h8⟩
 ·exact .inl h
 ·exact .inr ⟨b,C,low,r,rfl,h2,(e _ _ _ rfl).trans h3,h4,h5,h6,h7,om⟩
theorem LinM.blk{m k:Nat}{H:AHeap}{s:AVal}{L:List AVal}(h:LinM m H s L k):Blk s (·<H.next):=by
 rcases h with⟨rfl,_⟩ | ⟨b,C,low,r,rfl,h2,h3,h4,h5,h6,h7,h8⟩
 ·exact blk_nil _
 ·exact blk_some h8
theorem LinM.built{m k:Nat}(H:AHeap){xs:List AVal}(hx:xs.length=k*m):LinM m (H.push (.cells xs 0 false)) (.slice (some ⟨H.next,xs.length,0⟩) k (.known k)) xs k:=
 .inr ⟨H.next,xs,0,.known k,rfl,.inr ⟨k,rfl,Nat.le_refl _,hx⟩,by rw[AHeap.get_push]; exact if_pos rfl,Nat.zero_le _,by rw[← hx,List.take_length],hx,om,Nat.lt_succ_self _⟩
theorem LinM.many{m k j:Nat}{H:AHeap}{s x:AVal}{L xs:List AVal}(h:LinM m H s L k)(hs:aSrc m H x=some (j,xs))(hx:xs.length=j*m)(ho:xs.all AVal.one=true)(hm:0<m){bytes:Nat}(hb:2*(k+j)*bytes≤281474976710656)(hb1:0<bytes) :
  ∃s' H',aAppend m bytes H s x=some (s',H')∧LinM m H' s' (L++xs) (k+j)∧H.next≤H'.next∧(∀P,Blk s P→Blk s' fun b=>P b∨H.next≤b)∧∀c,c<H.next→Blk s (c≠·)→H'.get c=H.get c:=by
 by_cases hj:j=0
 ·subst hj
  have hxs:xs=[]:=List.length_eq_zero_iff.1 om
  subst hxs
  rw[List.append_nil,Nat.add_zero]
  refine⟨s,H,?_,h,Nat.le_refl _,fun P hP=>hP.mono fun b hb=>.inl hb,fun _ _ _=>rfl⟩
  simp only[aAppend,hs,show Nat.beq 0 0=true from rfl,cond_true]
  rcases h with⟨rfl,_⟩ | ⟨b,C,low,r,rfl,_⟩ <;> rfl
 have hxl:0<xs.length:=by rw[hx]; exact Nat.mul_pos om hm
 have hlen:k+j≤9223372036854775807:=by
  have:2*(k+j)≤2*(k+j)*bytes:=Nat.le_mul_of_pos_right _ hb1
  omega
 have hlt:Nat.blt 0 m=true:=by simpa[Nat.blt_eq] using hm
 have e0:Nat.beq j 0=false:=by rw[beq_dec]; exact decide_eq_false hj
 have c1:∀q,q=k→(Nat.blt 0 m&&(Nat.ble ((2*(q+j)+0)*bytes) 281474976710656&&(Nat.ble (q+j) 9223372036854775807&&(Nat.beq xs.length (j*m)&&xs.all AVal.one))))=true:=by
  intro q hq
  subst hq
  simp only[Nat.add_zero,Nat.ble_eq_true_of_le hb,Nat.ble_eq_true_of_le hlen,hx,Nat.beq_refl,ho,hlt,Bool.and_self]
 have hadd:(k+j)*m=k*m+j*m:=Nat.add_mul _ _ _
 rcases h with⟨rfl,rfl,rfl⟩ | ⟨b,C,low,r,rfl,h2,h3,h4,h5,h6,h7,h8⟩
 ·refine⟨.slice (some ⟨H.next,xs.length,0⟩) j (.open_ m),H.push (.cells xs 0 false),?_,.inr ⟨H.next,xs,0,.open_ m,by simp,.inl rfl,by rw[AHeap.get_push]; exact if_pos rfl,Nat.zero_le _,by rw[Nat.zero_add,← hx,List.take_length]; rfl,by simp[hx],by rw[Nat.zero_add]; omega,Nat.lt_succ_self _⟩,by simp[AHeap.push],fun P _=>blk_some (.inr rL),fun c hc _=>get_push_lt hc⟩
  simp only[aAppend,hs,e0,cond_false,nilS]
  rw[c1 0 rfl,cond_true]
 ·have hw:(k+j)*m≤C.length→wrCells H ⟨b,C.length,0+k*m⟩ xs=some (H.set b (.cells (C.take (k*m)++(xs++C.drop (k*m+j*m))) C.length false)):=by
   intro hle
   unfold wrCells
   simp only[h3,Nat.ble_eq_true_of_le h4,Nat.beq_refl,Nat.zero_add,hx,Nat.ble_eq_true_of_le (show k*m+j*m≤C.length by omega),ho,Bool.and_self,cond_true]
  have hl2:(k+j)*m≤C.length→(C.take (k*m)++(xs++C.drop (k*m+j*m))).length=C.length:=by
   intro hle; simp[hx]; omega
  have hL2:(k+j)*m≤C.length→(C.take (k*m)++(xs++C.drop (k*m+j*m))).take ((k+j)*m)=L++xs:=by
   intro hle
   have e:(k+j)*m=(L++xs).length:=by rw[lA,h6,hx,hadd]
   rw[h5,← List.append_assoc,e,List.take_left]
  have hLl:(L++xs).length=(k+j)*m:=by rw[lA,h6,hx,hadd]
  have hr:rdCells H ⟨b,C.length,0⟩ (k*m)=some L:=by
   have:=rd_row (H:=H) ⟨low,h3,h4⟩ rfl (i:=0) (k:=k*m) om
   rw[this,List.drop_zero,h5]
  rcases h2 with rfl | ⟨cap,rfl,hkc,hcap⟩
  ·by_cases hin:(k+j)*m≤C.length
   ·refine⟨.slice (some ⟨b,C.length,0⟩) (k+j) (.open_ m),H.set b (.cells (C.take (k*m)++(xs++C.drop (k*m+j*m))) C.length false),?_,.inr ⟨b,C.take (k*m)++(xs++C.drop (k*m+j*m)),C.length,.open_ m,by rw[hl2 hin],.inl rfl,by rw[AHeap.get_set,if_pos rfl],by rw[hl2 hin]; exact Nat.le_refl _,hL2 hin,hLl,by rw[hl2 hin]; exact hin,h8⟩,Nat.le_refl _,fun P hP=>(have q:P b:=hP _ _ _ rfl; blk_some (.inl q)),fun c hc hd=>by rw[AHeap.get_set,if_neg (hd _ _ _ rfl)]⟩
    simp only[aAppend,hs,e0,cond_false]
    rw[c1 k rfl,cond_true]
    simp only[Nat.beq_refl,cond_true,Nat.ble_eq_true_of_le (show 0+(k+j)*m≤C.length by omega),hw hin]
   ·have hgrow:growCells H ⟨b,C.length,0⟩ (0+k*m) xs=some (H.set b (.cells (C.take (0+k*m)++xs) (bif Nat.beq (0+k*m) C.length then low else 0+k*m+xs.length) false)):=by
     unfold growCells
     simp only[h3,Nat.ble_eq_true_of_le h4,Nat.beq_refl,Nat.ble_eq_true_of_le (show 0+k*m≤C.length by omega),Nat.ble_eq_true_of_le (Nat.zero_le _),Nat.ble_eq_true_of_le (show C.length+1≤0+k*m+xs.length by omega),ho,Bool.and_self,cond_true]
    have ei:Nat.ble (0+(k+j)*m) C.length=false:=by rw[ble_dec]; exact decide_eq_false om
    have eC:C.take (0+k*m)++xs=L++xs:=by rw[Nat.zero_add,h5]
    have eN:0+k*m+xs.length=(L++xs).length:=by rw[hLl,hx,hadd,Nat.zero_add]
    rw[eC]at hgrow
    refine⟨.slice (some ⟨b,0+k*m+xs.length,0⟩) (k+j) (.open_ m),H.set b (.cells (L++xs) (bif Nat.beq (0+k*m) C.length then low else 0+k*m+xs.length) false),?_,.inr ⟨b,L++xs,_,.open_ m,by rw[eN],.inl rfl,by rw[AHeap.get_set,if_pos rfl],?_,by rw[← hLl,List.take_length],hLl,om,h8⟩,Nat.le_refl _,fun P hP=>(have q:P b:=hP _ _ _ rfl; blk_some (.inl q)),fun c hc hd=>by rw[AHeap.get_set,if_neg (hd _ _ _ rfl)]⟩
    ·simp only[aAppend,hs,e0,cond_false]
     rw[c1 k rfl,cond_true]
     simp only[Nat.beq_refl,cond_true,ei,cond_false,hgrow]
    ·rw[← eN]
     cases Nat.beq (0+k*m) C.length
     ·exact Nat.le_refl _
     ·simp only[cond_true]; omega
  ·by_cases hin:k+j≤cap
   ·have hle:(k+j)*m≤C.length:=by rw[hcap]; exact Nat.mul_le_mul_right _ hin
    refine⟨.slice (some ⟨b,C.length,0⟩) (k+j) (.known cap),H.set b (.cells (C.take (k*m)++(xs++C.drop (k*m+j*m))) C.length false),?_,.inr ⟨b,C.take (k*m)++(xs++C.drop (k*m+j*m)),C.length,.known cap,by rw[hl2 hle],.inr ⟨cap,rfl,hin,by rw[hl2 hle]; exact hcap⟩,by rw[AHeap.get_set,if_pos rfl],by rw[hl2 hle]; exact Nat.le_refl _,hL2 hle,hLl,by rw[hl2 hle]; exact hle,h8⟩,Nat.le_refl _,fun P hP=>(have q:P b:=hP _ _ _ rfl; blk_some (.inl q)),fun c hc hd=>by rw[AHeap.get_set,if_neg (hd _ _ _ rfl)]⟩
    simp only[aAppend,hs,e0,cond_false]
    rw[c1 k rfl,cond_true]
    simp only[Nat.ble_eq_true_of_le hin,cond_true,hw hle]
   ·have ei:Nat.ble (k+j) cap=false:=by rw[ble_dec]; exact decide_eq_false hin
    refine⟨.slice (some ⟨H.next,(L++xs).length,0⟩) (k+j) (.open_ m),H.push (.cells (L++xs) 0 false),?_,.inr ⟨H.next,L++xs,0,.open_ m,rfl,.inl rfl,by rw[AHeap.get_push]; exact if_pos rfl,Nat.zero_le _,by rw[← hLl,List.take_length],hLl,om,Nat.lt_succ_self _⟩,by simp[AHeap.push],fun P _=>blk_some (.inr rL),fun c hc _=>get_push_lt hc⟩
    simp only[aAppend,hs,e0,cond_false]
    rw[c1 k rfl,cond_true]
    simp only[ei,cond_false,hr]
theorem LinM.add{m k j:Nat}{H:AHeap}{s:AVal}{L xs:List AVal}(h:LinM m H s L k)(hx:xs.length=j*m)(ho:xs.all AVal.one=true)(hm:0<m){bytes:Nat}(hb:2*(k+j)*bytes≤281474976710656)(hb1:0<bytes) :
  ∃s' H',aAppend m bytes (H.push (.cells xs 0 false)) s (.slice (some ⟨H.next,xs.length,0⟩) j (.known j))=some (s',H')∧LinM m H' s' (L++xs) (k+j)∧H.next≤H'.next∧(∀P,Blk s P→Blk s' fun b=>P b∨H.next≤b)∧∀c,c<H.next→Blk s (c≠·)→H'.get c=H.get c:=by
 have hs:aSrc m (H.push (.cells xs 0 false)) (.slice (some ⟨H.next,xs.length,0⟩) j (.known j))=some (j,xs):=by
  have:=rd_whole (H:=H.push (.cells xs 0 false)) (b:=H.next) (l:=xs) (low:=0) (ro:=false) (by rw[AHeap.get_push,if_pos rfl]) (Nat.zero_le _)
  simp only[aSrc,← hx,this]
 obtain⟨s',H',a1,a2,a3,a4,a5⟩:=(h.same (H':=H.push (.cells xs 0 false)) (by simp[AHeap.push]) (h.blk.mono fun b hb=>get_push_lt hb)).many hs hx ho hm hb hb1
 simp only[push_next]at a3 a5
 exact⟨s',H',a1,a2,om,fun P hP=>(a4 P hP).mono fun b hb=>hb.imp (fun q=>q) fun q=>by rw[push_next]at q; omega,fun c hc hd=>(a5 c om hd).trans (get_push_lt hc)⟩
theorem LinM.zero{m k:Nat}{H:AHeap}{s:AVal}{L:List AVal}(h:LinM m H s L k)(hm:0<m) :
  ∃s',aSl m s none (some (.int .i64 0)) none=some s'∧LinM m H s' [] 0∧∀P,Blk s P→Blk s' P:=by
 have b0:∀l c,aBnd l c none (some (.int .i64 0)) none=some (0,0,none):=by
  intro l c
  show (match bdO (some (AVal.int .i64 (Int.ofNat 0))) c l with | some h=>(match bdO none h 0 with | some l=>some (l,h,none) | none=>none) | none=>none)=_
  simp only[bdO,bd,Nat.ble_eq_true_of_le (Nat.zero_le _),cond_true]
 rcases h with⟨rfl,rfl,rfl⟩ | ⟨b,C,low,r,rfl,h2,h3,h4,h5,h6,h7,h8⟩
 ·exact⟨nilS,rfl,.inl ⟨rfl,rfl,rfl⟩,fun P h=>h⟩
 ·rcases h2 with rfl | ⟨cap,rfl,hkc,hcap⟩
  ·refine⟨.slice (some ⟨b,C.length,0⟩) 0 (.open_ m),?_,.inr ⟨b,C,low,.open_ m,rfl,.inl rfl,h3,h4,by simp,by simp,by simp,h8⟩,fun P hP=>(have q:P b:=hP _ _ _ rfl; blk_some q)⟩
   simp only[aSl,Nat.beq_refl,cond_true,b0,Nat.zero_mul,Nat.add_zero,Nat.sub_zero,Nat.ble_eq_true_of_le (Nat.zero_le _)]
  ·have hc:(bif Nat.beq cap 0 then some (AVal.slice (some ⟨b,C.length,0⟩) 0 (.known cap)) else some (AVal.slice (some ⟨b,C.length,0⟩) 0 (.known cap)))=some (AVal.slice (some ⟨b,C.length,0⟩) 0 (.known cap)):=by cases Nat.beq cap 0 <;> rfl
   refine⟨.slice (some ⟨b,C.length,0⟩) 0 (.known cap),?_,.inr ⟨b,C,low,.known cap,rfl,.inr ⟨cap,rfl,Nat.zero_le _,hcap⟩,h3,h4,by simp,by simp,by simp,h8⟩,fun P hP=>(have q:P b:=hP _ _ _ rfl; blk_some q)⟩
   simp only[aSl,b0,Option.getD_none,Nat.zero_mul,Nat.add_zero,Nat.sub_zero,hc]
theorem LinM.at{m k:Nat}{H:AHeap}{s:AVal}{L:List AVal}(h:LinM m H s L k){i:Nat}(hi:i<k):∃b lim,aIdxA m s (.int .i64 (i:Int))=some (cellR b lim (i*m))∧oLoad true m H (cellR b lim (i*m))=some (.agg ((L.drop (i*m)).take m))∧Blk s (b=·):=by
 have him:i*m+m≤k*m:=by
  have:(i+1)*m≤k*m:=Nat.mul_le_mul_right _ hi
  rwa [Nat.add_mul,Nat.one_mul]at this
 have hb:Nat.blt i k=true:=by simpa[Nat.blt_eq] using hi
 rcases h with⟨_,_,h⟩ | ⟨b,C,low,r,rfl,h2,h3,h4,h5,h6,h7,h8⟩
 ·omega
 ·refine⟨b,C.length,?_,?_,blk_some rfl⟩
  ·rcases h2 with rfl | ⟨cap,rfl,_⟩
   ·exact idxM .i64 hi
   ·show (bif Nat.blt i k then some (AVal.ptr (some ⟨b,C.length,0+i*m⟩)) else none)=_
    rw[hb,Nat.zero_add]; rfl
  ·rw[row_loadK ⟨low,h3,h4⟩ rfl om]
   congr 2
   rw[← h5,List.drop_take,List.take_take,Nat.min_eq_left om]
end Go.Abs.S
namespace Go.Abs.S
open Go.Abs
theorem aw_drawN{C:CS}{T:Env}{H:AHeap}{Q:Post}{l:List AOper}{chk:List (List Nat)}(h:wTr C (claims H.next l) T (reserves H l) fun ss T' H'=>wCk (reserves H l::ss.map (·.2)) (claims H.next l) chk ss T∧Q .normal T' H'):wp C (.draw l chk) Q T H:=h
theorem tr_claim{C:CS}{T:Env}{H:AHeap}{K:List (AVal×AHeap)→Env→AHeap→Prop}{d:Option Nat}{r:List AOper}(b:Nat)(z:List AVal)(s:Option (Nat×Nat)):wTr C (⟨d,.claim b z s,none⟩::r) T H K=OptKT (aClaim H b z s) C r T d H K:=_root_.id rfl
theorem claim_ok{H:AHeap}{b:Nat}{z:List AVal}(h:H.get b=some (.cells z 0 false))(hz:aeqs z z=true):aClaim H b z none=some (cellR b z.length 0):=by
 unfold aClaim
 simp only[h,hz,isMp,Bool.not_false,Bool.and_self,cond_true]; rfl
theorem ckP_claim{T:Env}{d:Option Nat}(hs:List AHeap)(p:Nat)(q:List Nat)(b:Nat)(z:List AVal)(s:Option (Nat×Nat))(g:Option (Nat×Bool))(v:AVal):ckP hs (p::q) T ⟨d,.claim b z s,g⟩ v=((∃Hp,hs[p]?=some Hp∧(sG T g=true→∃u,aClaim Hp b z s=some u∧aeq u v=true))∧ckP hs q T ⟨d,.claim b z s,g⟩ v):=by
 simp[ckP,wLd]
theorem aeq_cellR(b n i:Nat):aeq (cellR b n i) (cellR b n i)=true:=by simp[aeq,cellR]
end Go.Abs.S
namespace Go.Abs.S
open Go.Abs Go.WideShapes Go.ChangeShapes
variable {H:Type} {enc:TypeId×Value→H}
end Go.Abs.S
namespace Go.Abs.S
open Go.Abs
abbrev zi(n:Nat):Opd:=.c (.int .i64 (.ofNat n))
abbrev zu(n:Nat):Opd:=.c (.int .u8 (.ofNat n))
abbrev zn:Opd:=.c (.slice none 0 (.known 0))
abbrev zI(n:Nat):AVal:=.int .i64 (.ofNat n)
abbrev zU(n:Nat):AVal:=.int .u8 (.ofNat n)
abbrev zN:AVal:=.slice none 0 (.known 0)
abbrev zo(d:Nat)(p:AOp):AOper:=⟨some d,p,none⟩
abbrev zp(p:AOp):AOper:=⟨none,p,none⟩
abbrev zg(d:Nat)(p:AOp)(t:Nat)(b:Bool):AOper:=⟨some d,p,some (t,b)⟩
abbrev zm(d x:Nat):AOper:=⟨some d,.mv (.t x),none⟩
abbrev zc(d x:Nat):AOper:=⟨some d,.nilChk (.t x),none⟩
abbrev zf(d n x:Nat):AOper:=⟨some d,.fieldA n (.t x),none⟩
abbrev zl(d x:Nat):AOper:=⟨some d,.load false 1 (.t x),none⟩
abbrev zt(d n x:Nat):AOper:=⟨some d,.load true n (.t x),none⟩
abbrev ze(d n x:Nat):AOper:=⟨some d,.extract n (.t x),none⟩
abbrev zb(d:Nat)(o:BinOp)(x y:Nat):AOper:=⟨some d,.bin o (.t x) (.t y),none⟩
abbrev zk(d:Nat)(o:BinOp)(x n:Nat):AOper:=⟨some d,.bin o (.t x) (.c (.int .i64 (.ofNat n))),none⟩
abbrev zx(d f:Nat)(l:List Opd):AOper:=⟨some d,.call f l,none⟩
abbrev zh(d x:Nat):AOper:=⟨some d,.len false (.t x),none⟩
abbrev zd(d x y:Nat):AOper:=⟨some d,.idxA 1 (.t x) (.t y),none⟩
abbrev zy(d x y:Nat):AOper:=⟨some d,.append 1 1 (.t x) (.t y),none⟩
abbrev zv(d:Nat)(k:IntKind)(x:Nat):AOper:=⟨some d,.conv k (.t x),none⟩
abbrev zs(x y:Nat):AOper:=⟨none,.store 1 (.t x) (.t y),none⟩
abbrev zq(l:List AOper)(c:ACode):ACode:=.seq (.reg l) c
abbrev zr(l:List AOper)(x:Nat)(a b c:ACode):ACode:=.seq (.seq (.reg l) (.cond (.t x) a b)) c
theorem zI_eq(n:Nat):zI n=.int .i64 (n:Int):=_root_.id rfl
theorem zU_eq(n:Nat):zU n=.int .u8 (n:Int):=_root_.id rfl
theorem zN_eq:zN=.slice none 0 (.known 0):=_root_.id rfl
theorem sB:type_of% (And.intro @zI_eq (And.intro @zU_eq zN_eq)):=And.intro @zI_eq (And.intro @zU_eq zN_eq)
end Go.Abs.S
