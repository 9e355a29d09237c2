/- Part of a proof (YPH YC2 YP1 YP2 YP3 YP4 YP5 YP6 YP7); no condition. -/
import Derived.Test.YtfleblkgifoeaaaDoorProg
import Derived.KernelRfl
import Derived.Test.YtfleblkgifoeaaaDoorP7
import Derived.Test.YtfleblkgifoeaaaDoorP8
set_option linter.unusedSimpArgs false
set_option linter.unusedVariables false
set_option linter.unnecessarySimpa false
namespace Go.Proofs.Wo
open Go.Abs Go.Abs.S
def fw(P:Nat->Prop)(H:ab)(m:Nat)(v:aa)(k:Nat)(C:List aa):Prop:=
 (LM v=true/\k=0/\C=[])∨∃a r,v=.slice (some a) k r/\P a.b/\aY H a (m*k)=some C
theorem fw.mono{P Q:Nat->Prop}{H H':ab}{m k:Nat}{v:aa}{C:List aa}(h:fw P H m v k C)(q:∀b,P b->Q b/\H'.get b=H.get b):fw Q H' m v k C:=by
 rcases h with h | ⟨a,r,h1,h2,h3⟩
 ·exact .inl h
 ·exact .inr ⟨a,r,h1,(q _ h2).1,by rw[wm (q _ h2).2]; exact h3⟩
theorem fw.one{P:Nat->Prop}{H:ab}{m k:Nat}{v:aa}{C:List aa}(h:fw P H m v k C):v.one=true:=by
 rcases h with⟨h,_⟩ | ⟨a,r,rfl,_⟩
 ·exact Iw h
 ·rfl
theorem fw.len{P:Nat->Prop}{H:ab}{m k:Nat}{v:aa}{C:List aa}(h:fw P H m v k C):gh false v=some (.int .i64 (k:Int)):=by
 rcases h with⟨h,rfl,_⟩ | ⟨a,r,rfl,_⟩
 ·rcases ja h with rfl | ⟨a,rfl⟩ <;> rfl
 ·rfl
theorem fw.nil(P:Nat->Prop)(H:ab)(m:Nat):fw P H m cp 0 []:=.inl ⟨rfl,rfl,rfl⟩
theorem fw.app{P:Nat->Prop}{H:ab}{m k:Nat}{v:aa}{C:List aa}(h:eh m 0 H v C k)(hb:fx v P):fw P H m v k C:=by
 rcases h with⟨rfl,rfl,rfl⟩ | ⟨b,low,rfl,h2,h3,h4,h5,h6,h7⟩
 ·exact .nil P H m
 ·refine .inr ⟨_,_,rfl,hb _ _ _ rfl,?_⟩
  rw[<- h2]
  exact eZ h5 h6
theorem fw.row{P:Nat->Prop}{H:ab}{m k n:Nat}{b:Nat}{r:rT}{C:List aa}(h:bc H b C)(hn:C.length=n)(hk:m*k=n)(hp:P b):fw P H m (.slice (some ⟨b,n,0⟩) k r) k C:=by
 refine .inr ⟨_,_,rfl,hp,?_⟩
 obtain⟨low,h1,h2⟩:=h
 rw[hk,<- hn]
 exact eZ h1 h2
def cL(m:Nat)(v:aa)(i:Nat):aa:=match v with
 | .slice (some a) _ _=>.ptr (some ⟨a.b,a.lim,a.o+i*m⟩)
 | _=>aN
theorem fw.idx{P:Nat->Prop}{H:ab}{m k:Nat}{v:aa}{C:List aa}(h:fw P H m v k C){i:Nat}(hi:i<k):eB m v (.int .i64 (i:Int))=some (cL m v i):=by
 rcases h with⟨_,rfl,_⟩ | ⟨a,r,rfl,_⟩
 ·omega
 ·show (bif Nat.blt i k then some (aa.ptr (some ⟨a.b,a.lim,a.o+i*m⟩)) else none)=_
  rw[show Nat.blt i k=true by simpa[Nat.blt_eq] using hi]; rfl
theorem pz{H:ab}{a:Ad}{n i j:Nat}{C:List aa}(h:aY H a n=some C)(hij:i+j<=n):aY H ⟨a.b,a.lim,a.o+i⟩ j=some ((C.drop i).take j):=by
 obtain⟨l,low,ro,h1,h2,h3,h4,rfl⟩:=nf h
 unfold aY
 simp only[h1,N3 h2,N3 h3,N3 (show a.o+i+j<=a.lim by omega),Bool.and_self,cond_true]
 rw[List.drop_take,List.take_take,Nat.min_eq_left om,List.drop_drop]
theorem fw.load{P:Nat->Prop}{H:ab}{m k:Nat}{v:aa}{C:List aa}(h:fw P H m v k C){i:Nat}(hi:i<k):am true m H (cL m v i)=some (.agg ((C.drop (i*m)).take m)):=by
 rcases h with⟨_,rfl,_⟩ | ⟨a,r,rfl,_,h3⟩
 ·omega
 ·have hm:i*m+m<=m*k:=by
   have:(i+1)*m<=k*m:=Nat.mul_le_mul_right m hi
   rw[Nat.mul_comm m k]; rw[Nat.add_mul,Nat.one_mul]at this; exact this
  simp only[am,cL,pz h3 hm,cond_true]
theorem fw.aeq{P:Nat->Prop}{H:ab}{m k:Nat}{v:aa}{C:List aa}(h:fw P H m v k C):aeq v v=true:=by
 rcases h with⟨h,_⟩ | ⟨a,r,rfl,_⟩
 ·rcases ja h with rfl | ⟨a,rfl⟩
  ·exact GA
  ·simp[Go.Abs.aeq]
 ·cases r <;> simp[Go.Abs.aeq]
mutual
def XE(P:Nat->Prop)(H:ab):Ex->List aa->Prop
 | .mk k s n kids,c=>∃v C,c=[.int .u8 (k:Int),.str s,.int .i64 n,v]/\fw P H 4 v kids.length C/\oG P H kids C
def oG(P:Nat->Prop)(H:ab):List Ex->List aa->Prop
 | [],C=>C=[]
 | e::l,C=>∃c D,C=c++D/\XE P H e c/\oG P H l D
end
theorem XE.len{P:Nat->Prop}{H:ab}{e:Ex}{c:List aa}(h:XE P H e c):c.length=4:=by
 cases e; obtain⟨v,C,rfl,_⟩:=h; rfl
theorem XE.one{P:Nat->Prop}{H:ab}{e:Ex}{c:List aa}(h:XE P H e c):c.all aa.one=true:=by
 cases e; obtain⟨v,C,rfl,h2,_⟩:=h
 simp only[List.all_cons,List.all_nil,h2.one]; rfl
theorem XE.aeqs{P:Nat->Prop}{H:ab}{e:Ex}{c:List aa}(h:XE P H e c):aeqs c c=true:=by
 cases e; obtain⟨v,C,rfl,h2,_⟩:=h
 simp[Go.Abs.aeqs,lD,pH,h2.aeq]
mutual
theorem XE.mono{P Q:Nat->Prop}{H H':ab}(q:∀b,P b->Q b/\H'.get b=H.get b):∀{e:Ex} {c:List aa},XE P H e c->XE Q H' e c
 | .mk _ _ _ _,_,h=>by
  obtain⟨v,C,h1,h2,h3⟩:=h
  exact⟨v,C,h1,h2.mono q,oG.mono q h3⟩
theorem oG.mono{P Q:Nat->Prop}{H H':ab}(q:∀b,P b->Q b/\H'.get b=H.get b):∀{l:List Ex} {C:List aa},oG P H l C->oG Q H' l C
 | [],_,h=>h
 | _::_,_,h=>by
  obtain⟨c,D,h1,h2,h3⟩:=h
  exact⟨c,D,h1,XE.mono q h2,oG.mono q h3⟩
end
theorem oG.len{P:Nat->Prop}{H:ab}:∀{l:List Ex} {C:List aa},oG P H l C->C.length=4*l.length
 | [],_,h=>by rw[show _=[] from h]; rfl
 | _::l,_,⟨c,D,h1,h2,h3⟩=>by
  rw[h1,lA,h2.len,oG.len h3,N5]; omega
theorem oG.app{P:Nat->Prop}{H:ab}{l':List Ex}{C':List aa}(h':oG P H l' C'):∀{l:List Ex} {C:List aa},oG P H l C->oG P H (l++l') (C++C')
 | [],_,h=>by rw[show _=[] from h]; exact h'
 | _::l,_,⟨c,D,h1,h2,h3⟩=>⟨c,D++C',by rw[h1,Oe],h2,oG.app h' h3⟩
theorem oG.sing{P:Nat->Prop}{H:ab}{e:Ex}{c:List aa}(h:XE P H e c):oG P H [e] c:=⟨c,[],by simp,h,rfl⟩
theorem oG.at{P:Nat->Prop}{H:ab}:∀{l:List Ex} {C:List aa},oG P H l C->∀{i:Nat} {e:Ex},l[i]?=some e->XE P H e ((C.drop (i*4)).take 4)
 | [],_,_,i,e,hi=>by simp at hi
 | x::l,_,⟨c,D,h1,h2,h3⟩,i,e,hi=>by
  subst h1
  have hl:=h2.len
  cases i with
  | zero=>
   simp only[Oa,sJ]at hi
   subst hi
   rw[Nat.zero_mul,List.drop_zero,List.take_append_of_le_length om,List.take_of_length_le om]
   exact h2
  | succ i=>
   rw[Ob]at hi
   have:=oG.at h3 hi
   rw[show (i+1)*4=c.length+i*4 by omega,List.drop_append,List.drop_of_length_le om,List.nil_append,show c.length+i*4-c.length=i*4 by omega]
   exact this
mutual
def XS(P:Nat->Prop)(H:ab):St->List aa->Prop
 | .mk k s e body els line,c=>∃ce vb Cb ve Ce,c=.int .u8 (k:Int)::.str s::(ce++[vb,ve,.int .i64 line])/\XE P H e ce/\fw P H 9 vb body.length Cb/\gr P H body Cb/\fw P H 9 ve els.length Ce/\gr P H els Ce
def gr(P:Nat->Prop)(H:ab):List St->List aa->Prop
 | [],C=>C=[]
 | e::l,C=>∃c D,C=c++D/\XS P H e c/\gr P H l D
end
theorem XS.len{P:Nat->Prop}{H:ab}{e:St}{c:List aa}(h:XS P H e c):c.length=9:=by
 cases e; obtain⟨ce,vb,Cb,ve,Ce,rfl,h2,_⟩:=h
 simp[h2.len]
theorem XS.one{P:Nat->Prop}{H:ab}{e:St}{c:List aa}(h:XS P H e c):c.all aa.one=true:=by
 cases e; obtain⟨ce,vb,Cb,ve,Ce,rfl,h2,h3,_,h5,_⟩:=h
 simp only[List.all_cons,List.all_append,List.all_nil,h2.one,h3.one,h5.one]; rfl
theorem xR:∀{l m l' m':List aa},aeqs l l'=true->aeqs m m'=true->aeqs (l++m) (l'++m')=true
 | [],_,[],_,_,h=>h
 | [],_,_::_,_,h,_=>by simp[Go.Abs.aeqs]at h
 | _::_,_,[],_,h,_=>by simp[Go.Abs.aeqs]at h
 | x::l,m,y::l',m',h,h'=>by
  simp only[Go.Abs.aeqs,N4]at h
  simp only[Oj,Go.Abs.aeqs,h.1,xR h.2 h',Bool.and_self]
theorem XS.aeqs{P:Nat->Prop}{H:ab}{e:St}{c:List aa}(h:XS P H e c):aeqs c c=true:=by
 cases e; obtain⟨ce,vb,Cb,ve,Ce,rfl,h2,h3,_,h5,_⟩:=h
 simp only[Go.Abs.aeqs,lD,pH,Bool.true_and]
 exact xR h2.aeqs (by simp[Go.Abs.aeqs,h3.aeq,h5.aeq,lD])
mutual
theorem XS.mono{P Q:Nat->Prop}{H H':ab}(q:∀b,P b->Q b/\H'.get b=H.get b):∀{e:St} {c:List aa},XS P H e c->XS Q H' e c
 | .mk _ _ _ _ _ _,_,h=>by
  obtain⟨ce,vb,Cb,ve,Ce,h1,h2,h3,h4,h5,h6⟩:=h
  exact⟨ce,vb,Cb,ve,Ce,h1,h2.mono q,h3.mono q,gr.mono q h4,h5.mono q,gr.mono q h6⟩
theorem gr.mono{P Q:Nat->Prop}{H H':ab}(q:∀b,P b->Q b/\H'.get b=H.get b):∀{l:List St} {C:List aa},gr P H l C->gr Q H' l C
 | [],_,h=>h
 | _::_,_,h=>by
  obtain⟨c,D,h1,h2,h3⟩:=h
  exact⟨c,D,h1,XS.mono q h2,gr.mono q h3⟩
end
theorem gr.len{P:Nat->Prop}{H:ab}:∀{l:List St} {C:List aa},gr P H l C->C.length=9*l.length
 | [],_,h=>by rw[show _=[] from h]; rfl
 | _::l,_,⟨c,D,h1,h2,h3⟩=>by
  rw[h1,lA,h2.len,gr.len h3,N5]; omega
theorem gr.app{P:Nat->Prop}{H:ab}{l':List St}{C':List aa}(h':gr P H l' C'):∀{l:List St} {C:List aa},gr P H l C->gr P H (l++l') (C++C')
 | [],_,h=>by rw[show _=[] from h]; exact h'
 | _::l,_,⟨c,D,h1,h2,h3⟩=>⟨c,D++C',by rw[h1,Oe],h2,gr.app h' h3⟩
theorem gr.sing{P:Nat->Prop}{H:ab}{e:St}{c:List aa}(h:XS P H e c):gr P H [e] c:=⟨c,[],by simp,h,rfl⟩
theorem gr.at{P:Nat->Prop}{H:ab}:∀{l:List St} {C:List aa},gr P H l C->∀{i:Nat} {e:St},l[i]?=some e->XS P H e ((C.drop (i*9)).take 9)
 | [],_,_,i,e,hi=>by simp at hi
 | x::l,_,⟨c,D,h1,h2,h3⟩,i,e,hi=>by
  subst h1
  have hl:=h2.len
  cases i with
  | zero=>
   simp only[Oa,sJ]at hi
   subst hi
   rw[Nat.zero_mul,List.drop_zero,List.take_append_of_le_length om,List.take_of_length_le om]
   exact h2
  | succ i=>
   rw[Ob]at hi
   have:=gr.at h3 hi
   rw[show (i+1)*9=c.length+i*9 by omega,List.drop_append,List.drop_of_length_le om,List.nil_append,show c.length+i*9-c.length=i*9 by omega]
   exact this
def In(n m:Nat)(c:Nat):Prop:=n<=c/\c<m
def GE(n:Nat)(H:ab)(v:aa)(l:List Ex):Prop:=∃C,eh 4 0 H v C l.length/\fx v (In n H.next)/\oG (fun c=>In n H.next c/\fx v (c≠·)) H l C
theorem GE.nil(n:Nat)(H:ab):GE n H cp []:=⟨[],.nil _ _ _,vt _,rfl⟩
theorem GE.keep{n:Nat}{H H':ab}{v:aa}{l:List Ex}(h:GE n H v l)(hn:H.next<=H'.next)(e:∀c,In n H.next c->H'.get c=H.get c):GE n H' v l:=by
 obtain⟨C,h1,h2,h3⟩:=h
 exact⟨C,h1.same hn (h2.mono fun b hb=>e b hb),h2.mono fun b hb=>⟨hb.1,Of hb.2 hn⟩,h3.mono fun b hb=>⟨⟨⟨hb.1.1,Of hb.1.2 hn⟩,hb.2⟩,e b hb.1⟩⟩
theorem GE.sl{n:Nat}{H:ab}{v:aa}{l:List Ex}(h:GE n H v l):∃C,fw (In n H.next) H 4 v l.length C/\oG (In n H.next) H l C:=by
 obtain⟨C,h1,h2,h3⟩:=h
 exact⟨C,.app h1 h2,h3.mono fun b hb=>⟨hb.1,rfl⟩⟩
theorem GE.push{n m:Nat}{H:ab}{v:aa}{l:List Ex}(h:GE n H v l){e:Ex}{xs:List aa}(hx:XE (In m H.next) H e xs)(hm:n<=m)(hn:n<=H.next)(hv:fx v (·<m))(hl:l.length<=1000000){bytes:Nat}(hb1:0<bytes)(hb2:bytes<=1000) :
  ∃v' H',bI 4 bytes (H.push (.cells xs 0 false)) v (pm H 4)=some (v',H')/\GE n H' v' (l++[e])/\H.next<=H'.next/\∀c,c<H.next->fx v (c≠·)->H'.get c=H.get c:=by
 obtain⟨C,h1,h2,h3⟩:=h
 have hb:2*(l.length+1)*bytes<=281474976710656:=by
  have:2*(l.length+1)*bytes<=2*(1000000+1)*1000:=Nat.mul_le_mul om hb2
  omega
 obtain⟨v',H',a1,a2,a3,a4,a5⟩:=h1.pushB hx.len hx.one om hb hb1
 have k:∀c,In n H.next c->fx v (c≠·)->In n H'.next c/\fx v' (c≠·):=by
  intro c hc hd
  refine⟨⟨hc.1,Of hc.2 a3⟩,(a4 _ hd).mono fun b hb=>?_⟩
  rcases hb with hb | hb
  ·exact hb
  ·have:=hc.2; omega
 refine⟨v',H',a1,⟨C++xs,by rw[lA]; exact a2,?_,oG.app (oG.sing ?_) ?_⟩,a3,a5⟩
 ·intro a j r e
  refine⟨?_,a2.blk' a j r e⟩
  rcases (a4 _ h2) a j r e with hb | hb
  ·exact hb.1
  ·omega
 ·refine hx.mono fun b hb=>⟨?_,a5 b hb.2 ?_⟩
  ·exact k b ⟨Nat.le_trans hm hb.1,hb.2⟩ (hv.mono fun c hc=>by have:=hb.1; omega)
  ·exact hv.mono fun c hc=>by have:=hb.1; omega
 ·exact h3.mono fun b hb=>⟨k b hb.1 hb.2,a5 b hb.1.2 hb.2⟩
def GS(n:Nat)(H:ab)(v:aa)(l:List St):Prop:=∃C,eh 9 0 H v C l.length/\fx v (In n H.next)/\gr (fun c=>In n H.next c/\fx v (c≠·)) H l C
theorem GS.nil(n:Nat)(H:ab):GS n H cp []:=⟨[],.nil _ _ _,vt _,rfl⟩
theorem GS.keep{n:Nat}{H H':ab}{v:aa}{l:List St}(h:GS n H v l)(hn:H.next<=H'.next)(e:∀c,In n H.next c->H'.get c=H.get c):GS n H' v l:=by
 obtain⟨C,h1,h2,h3⟩:=h
 exact⟨C,h1.same hn (h2.mono fun b hb=>e b hb),h2.mono fun b hb=>⟨hb.1,Of hb.2 hn⟩,h3.mono fun b hb=>⟨⟨⟨hb.1.1,Of hb.1.2 hn⟩,hb.2⟩,e b hb.1⟩⟩
theorem GS.sl{n:Nat}{H:ab}{v:aa}{l:List St}(h:GS n H v l):∃C,fw (In n H.next) H 9 v l.length C/\gr (In n H.next) H l C:=by
 obtain⟨C,h1,h2,h3⟩:=h
 exact⟨C,.app h1 h2,h3.mono fun b hb=>⟨hb.1,rfl⟩⟩
theorem GS.push{n m:Nat}{H:ab}{v:aa}{l:List St}(h:GS n H v l){e:St}{xs:List aa}(hx:XS (In m H.next) H e xs)(hm:n<=m)(hn:n<=H.next)(hv:fx v (·<m))(hl:l.length<=1000000){bytes:Nat}(hb1:0<bytes)(hb2:bytes<=1000) :
  ∃v' H',bI 9 bytes (H.push (.cells xs 0 false)) v (pm H 9)=some (v',H')/\GS n H' v' (l++[e])/\H.next<=H'.next/\∀c,c<H.next->fx v (c≠·)->H'.get c=H.get c:=by
 obtain⟨C,h1,h2,h3⟩:=h
 have hb:2*(l.length+1)*bytes<=281474976710656:=by
  have:2*(l.length+1)*bytes<=2*(1000000+1)*1000:=Nat.mul_le_mul om hb2
  omega
 obtain⟨v',H',a1,a2,a3,a4,a5⟩:=h1.pushB hx.len hx.one om hb hb1
 have k:∀c,In n H.next c->fx v (c≠·)->In n H'.next c/\fx v' (c≠·):=by
  intro c hc hd
  refine⟨⟨hc.1,Of hc.2 a3⟩,(a4 _ hd).mono fun b hb=>?_⟩
  rcases hb with hb | hb
  ·exact hb
  ·have:=hc.2; omega
 refine⟨v',H',a1,⟨C++xs,by rw[lA]; exact a2,?_,gr.app (gr.sing ?_) ?_⟩,a3,a5⟩
 ·intro a j r e
  refine⟨?_,a2.blk' a j r e⟩
  rcases (a4 _ h2) a j r e with hb | hb
  ·exact hb.1
  ·omega
 ·refine hx.mono fun b hb=>⟨?_,a5 b hb.2 ?_⟩
  ·exact k b ⟨Nat.le_trans hm hb.1,hb.2⟩ (hv.mono fun c hc=>by have:=hb.1; omega)
  ·exact hv.mono fun c hc=>by have:=hb.1; omega
 ·exact h3.mono fun b hb=>⟨k b hb.1 hb.2,a5 b hb.1.2 hb.2⟩
open Go.Abs Go.Abs.S
noncomputable section
def c7:cw:=⟨73,zq [zo 2 (.mv zn),zo 3 (.new [zI 0,zI 0])] (zq [zm 12 0,zo 13 (.build [.str [],zU 0,.str [],zI 0,zI 0,zI 0,zI 0,zI 0,zI 0,zI 0,.nilFunc] [(0,1,.t 12)]),zo 14 (.box (.t 13)),zm 4 14] (zq [zm 15 4,zm 16 4,zo 17 (.mkFunc (.func 13) [.t 16] []),zo 18 (.buildSl 2 [.str []] [(0,1,.c (.str [42])),(1,1,.c (.str [47]))]),zx 19 12 [.t 15,.t 17,.c (.bool true),.t 18],zm 5 19] (zq [zm 20 4,zm 21 5,zo 22 (.buildSl 2 [.str []] [(0,1,.c (.str [43])),(1,1,.c (.str [45]))]),zx 23 12 [.t 20,.t 21,.c (.bool true),.t 22],zm 6 23] (zq [zm 24 4,zm 25 6,zo 26 (.buildSl 6 [.str []] [(0,1,.c (.str [61,61])),(1,1,.c (.str [33,61])),(2,1,.c (.str [60,61])),(3,1,.c (.str [62,61])),(4,1,.c (.str [60])),(5,1,.c (.str [62]))]),zx 27 12 [.t 24,.t 25,.c (.bool false),.t 26],zm 7 27] (zq [zm 28 4,zm 29 7,zo 30 (.buildSl 1 [.str []] [(0,1,.c (.str [38,38]))]),zx 31 12 [.t 28,.t 29,.c (.bool true),.t 30],zm 8 31] (zq [zm 32 4,zm 33 4,zm 34 8,zo 35 (.buildSl 1 [.str []] [(0,1,.c (.str [124,124]))]),zx 36 12 [.t 33,.t 34,.c (.bool true),.t 35],zc 37 32,zf 38 10 37,zs 38 36] (zr [zm 39 4,zx 40 14 [.t 39],zo 41 (.un .not (.t 40))] 41 (zq [zm 42 4,zc 43 42,zf 44 8 43,zt 45 2 44,zo 2 (.mv zn),zp (.store 2 (.t 3) (.t 45))] .ret) .skip (zq [zo 9 (.mv zn)] (.seq (.block 0 (.loop (zr [zm 46 4,zc 47 46,zf 48 1 47,zf 49 0 48,zl 50 49,zo 51 (.bin .neq (.t 50) (zu 5))] 51 .skip (.exit 0) (.block 1 (zq [zm 53 4,zx 54 15 [.t 53],zm 52 54,ze 55 0 52,ze 56 1 52,zo 10 (.new [zU 0,.str [],zU 0,.str [],zI 0,zN,zN,zN,zI 0]),zp (.store 9 (.t 10) (.t 55)),zm 11 56] (zr [zm 57 11,zo 58 (.un .not (.t 57))] 58 (zq [zm 59 4,zc 60 59,zf 61 8 60,zt 62 2 61,zo 2 (.mv zn),zp (.store 2 (.t 3) (.t 62))] .ret) .skip (.reg [zm 63 9,zt 64 9 10,zo 65 (.buildSl 1 [zU 0,.str [],zU 0,.str [],zI 0,zN,zN,zN,zI 0] [(0,9,.t 64)]),zo 66 (.append 9 136 (.t 63) (.t 65)),zm 9 66]))))))) (zr [zm 67 9,zx 68 9 [.t 67],zo 69 (.un .not (.t 68))] 69 (zq [zo 70 (.build [zI 0,zI 0] [(0,1,zi 102)]),zo 2 (.mv zn),zp (.store 2 (.t 3) (.t 70))] .ret) .skip (zq [zm 71 9,zo 72 (.build [zI 0,zI 0] []),zm 2 71,zp (.store 2 (.t 3) (.t 72))] .ret))))))))))),[.t 2,.cell true 2 3]⟩
theorem za7:cN Tryd.prog 7=some c7:=by kernel_rfl
def NQ:cw:=⟨41,.seq (.block 1000000 (zq [zo 1 (.box (.t 0)),zo 2 (.new [zU 0,.str [],zI 0,zN]),zo 3 (.mv (.c (.bool false)))] (zr [zl 7 1,zx 8 22 [.t 7],zo 9 (.un .not (.t 8))] 9 (zq [zo 10 (.build [zU 0,.str [],zI 0,zN] []),zp (.store 4 (.t 2) (.t 10)),zo 3 (.mv (.c (.bool false)))] (.exit 1000000)) .skip (zq [zo 11 (.mkFunc (.func 23) [] [.t 1]),zo 42 (.pf .dset [.t 42,.t 11])] (zr [zl 12 1,zo 13 (.buildSl 2 [.str []] [(0,1,.c (.str [45])),(1,1,.c (.str [33]))]),zx 14 21 [.t 12,.t 13],zo 15 (.un .not (.t 14))] 15 (zq [zl 16 1,zx 17 24 [.t 16],ze 18 0 17,ze 19 1 17,zp (.store 4 (.t 2) (.t 18)),zm 3 19] (.exit 1000000)) .skip (zq [zl 20 1,zc 21 20,zf 22 1 21,zf 23 1 22,zl 24 23,zm 4 24] (zr [zl 25 1,zx 26 14 [.t 25],zo 27 (.un .not (.t 26))] 27 (zq [zo 28 (.build [zU 0,.str [],zI 0,zN] []),zp (.store 4 (.t 2) (.t 28)),zo 3 (.mv (.c (.bool false)))] (.exit 1000000)) .skip (zq [zl 30 1,zx 31 13 [.t 30],zm 29 31,ze 32 0 29,ze 33 1 29,zo 5 (.new [zU 0,.str [],zI 0,zN]),zp (.store 4 (.t 5) (.t 32)),zm 6 33] (zr [zm 34 6,zo 35 (.un .not (.t 34))] 35 (zq [zo 36 (.build [zU 0,.str [],zI 0,zN] []),zp (.store 4 (.t 2) (.t 36)),zo 3 (.mv (.c (.bool false)))] (.exit 1000000)) .skip (zq [zm 37 4,zt 38 4 5,zo 39 (.buildSl 1 [zU 0,.str [],zI 0,zN] [(0,4,.t 38)]),zo 40 (.build [zU 0,.str [],zI 0,zN] [(0,1,zu 3),(1,1,.t 37),(3,1,.t 39)]),zp (.store 4 (.t 2) (.t 40)),zo 3 (.mv (.c (.bool true)))] (.exit 1000000))))))))))) (zq [zo 43 (.pf .isU [.t 42])] (.cond (.t 43) (zq [zo 43 (.pf .isU [.t 41])] (.cond (.t 43) (zq [zt 45 4 2,zm 46 3,zo 44 (.pf .tup [.t 45,.t 46])] .ret) (.reg [zp .bad]))) (zq [zo 43 (.pf .isU [.t 41])] (.cond (.t 43) (zq [zo 43 (.pf (.isF 23 1) [.t 42]),zo 45 (.pf (.capt 0) [.t 42]),zp (.call 3095 [.t 45])] (zq [zt 45 4 2,zm 46 3,zo 44 (.pf .tup [.t 45,.t 46])] .ret)) (.reg [zp .bad]))))),[.t 44]⟩
theorem Np:Lm Tryd.prog (some ⟨[],(some (23,1,false))⟩) 13=some NQ:=by kernel_rfl
def NN:cw:=⟨17,zq [zo 2 (.mv (.c (.bool false)))] (zr [zm 3 0,zc 4 3,zf 5 7 4,zl 6 5,zk 7 .geq 6 200] 7 (zq [zm 8 0,zx 9 33 [.t 8,zi 102],zm 2 9] .ret) .skip (zq [zm 10 0,zc 11 10,zf 12 7 11,zl 13 12,zk 14 .add 13 1,zc 15 10,zf 16 7 15,zs 16 14] (zq [zo 2 (.mv (.c (.bool true)))] .ret))),[.t 2]⟩
theorem Ls:cN Tryd.prog 22=some NN:=by kernel_rfl
def c33:cw:=⟨15,zq [zo 4 (.mv (.c (.bool false)))] (zq [zm 5 0,zm 6 1,zm 7 0,zc 8 7,zf 9 1 8,zf 10 3 9,zl 11 10,zo 12 (.build [zI 0,zI 0] [(0,1,.t 6),(1,1,.t 11)]),zc 13 5,zf 14 8 13,zp (.store 2 (.t 14) (.t 12))] (zq [zo 4 (.mv (.c (.bool false)))] .ret)),[.t 4]⟩
theorem M5:cN Tryd.prog 33=some c33:=by kernel_rfl
def NO:cw:=⟨20,zq [zo 4 (.mv (.c (.bool false)))] (zq [zm 5 0,zc 6 5,zf 7 1 6,zf 8 0 7,zl 9 8,zo 10 (.bin .eql (.t 9) (zu 4)),zm 11 10,zg 12 (.mv (.t 1)) 11 true,zg 13 (.mv (.t 0)) 11 true,zg 14 (.nilChk (.t 13)) 11 true,zg 15 (.fieldA 1 (.t 14)) 11 true,zg 16 (.fieldA 1 (.t 15)) 11 true,zg 17 (.load false 1 (.t 16)) 11 true,zg 18 (.call 38 [.t 12,.t 17]) 11 true,zo 19 (.pick (.t 11) (.t 18) (.c (.bool false))),zm 4 19] .ret),[.t 4]⟩
theorem Nf:cN Tryd.prog 21=some NO:=by kernel_rfl
def c38:cw:=⟨9,zq [zo 4 (.mv (.c (.bool false)))] (zq [zm 5 0,zm 6 1,zx 7 56 [.t 5,.t 6],zk 8 .geq 7 0,zm 4 8] .ret),[.t 4]⟩
theorem M0:cN Tryd.prog 38=some c38:=by kernel_rfl
def c56:cw:=⟨19,zq [zo 4 (.mv (zi 0))] (.seq (zq [zm 6 0,zh 7 6,zo 8 (.mv (zi 0))] (.block 0 (.loop (zq [zb 9 .lss 8 7] (.seq (.cond (.t 9) .skip (.exit 0)) (.seq (.block 1 (zq [zm 10 8,zm 5 10] (zq [zm 11 1,zm 12 0,zm 13 5,zd 14 12 13,zl 15 14,zb 16 .eql 11 15] (.cond (.t 16) (zq [zm 17 5,zm 4 17] .ret) .skip)))) (.reg [zk 18 .add 8 1,zm 8 18]))))))) (zq [zo 4 (.mv (.c (.int .i64 (.negSucc 0))))] .ret)),[.t 4]⟩
theorem MI:cN Tryd.prog 56=some c56:=by kernel_rfl
def c24:cw:=⟨72,zq [zo 2 (.new [zU 0,.str [],zI 0,zN]),zo 3 (.mv (.c (.bool false)))] (zq [zm 9 0,zc 10 9,zf 11 1 10,zt 12 6 11,zo 4 (.new [zU 0,.str [],zI 0,zI 0,zI 0,zI 0]),zp (.store 6 (.t 4) (.t 12))] (.seq (.block 0 (zq [zf 14 0 4,zl 15 14,zo 16 (.bin .eql (.t 15) (zu 1)),zm 13 16] (.cond (.t 13) (.seq (.draw [zf 17 2 4,zl 18 17,zo 19 (.build [zU 0,.str [],zI 0,zN] [(0,1,zu 1),(2,1,.t 18)]),zm 20 0,zx 21 14 [.t 20],zp (.store 4 (.t 2) (.t 19)),zm 3 21] [[],[5],[],[],[],[],[]]) .ret) (zq [zf 23 0 4,zl 24 23,zo 25 (.bin .eql (.t 24) (zu 2)),zm 22 25] (.cond (.t 22) (zr [zm 26 0,zx 27 14 [.t 26],zo 28 (.un .not (.t 27))] 28 (zq [zo 29 (.build [zU 0,.str [],zI 0,zN] []),zp (.store 4 (.t 2) (.t 29)),zo 3 (.mv (.c (.bool false)))] .ret) .skip (zr [zm 30 0,zo 31 (.buildSl 1 [.str []] [(0,1,.c (.str [40]))]),zx 32 21 [.t 30,.t 31],zo 33 (.un .not (.t 32))] 33 (zq [zf 34 1 4,zl 35 34,zo 36 (.build [zU 0,.str [],zI 0,zN] [(0,1,zu 2),(1,1,.t 35)]),zp (.store 4 (.t 2) (.t 36)),zo 3 (.mv (.c (.bool true)))] .ret) .skip (zq [zm 38 0,zx 39 39 [.t 38],zm 37 39,ze 40 0 37,ze 41 1 37,zm 5 40,zm 6 41] (zq [zf 42 1 4,zl 43 42,zm 44 5,zo 45 (.build [zU 0,.str [],zI 0,zN] [(0,1,zu 4),(1,1,.t 43),(3,1,.t 44)]),zm 46 6,zp (.store 4 (.t 2) (.t 45)),zm 3 46] .ret)))) (zq [zm 48 0,zo 49 (.buildSl 1 [.str []] [(0,1,.c (.str [40]))]),zx 50 21 [.t 48,.t 49],zm 47 50] (.cond (.t 47) (zr [zm 51 0,zx 52 14 [.t 51],zo 53 (.un .not (.t 52))] 53 (zq [zo 54 (.build [zU 0,.str [],zI 0,zN] []),zp (.store 4 (.t 2) (.t 54)),zo 3 (.mv (.c (.bool false)))] .ret) .skip (zq [zm 56 0,zc 57 56,zf 58 10 57,zl 59 58,zo 60 (.callv (.t 59) []),zm 55 60,ze 61 0 55,ze 62 1 55,zo 7 (.new [zU 0,.str [],zI 0,zN]),zp (.store 4 (.t 7) (.t 61)),zm 8 62] (.seq (.draw [zt 63 4 7,zm 64 8,zm 65 64,zg 66 (.mv (.t 0)) 65 true,zg 67 (.call 32 [.t 66,.c (.str [41])]) 65 true,zo 68 (.pick (.t 65) (.t 67) (.c (.bool false))),zp (.store 4 (.t 2) (.t 63)),zm 3 68] [[6],[],[],[],[],[],[],[]]) .ret))) .skip))))))) (zq [zo 69 (.build [zU 0,.str [],zI 0,zN] []),zm 70 0,zx 71 33 [.t 70,zi 101],zp (.store 4 (.t 2) (.t 69)),zm 3 71] .ret))),[.cell true 4 2,.t 3]⟩
theorem Nd:cN Tryd.prog 24=some c24:=by kernel_rfl
def c14:cw:=⟨29,zq [zo 2 (.mv (.c (.bool false)))] (.seq (.draw [zm 6 0,zc 7 6,zf 8 0 7,zl 9 8,zm 10 0,zc 11 10,zf 12 1 11,zf 13 5 12,zl 14 13,zx 15 25 [.t 9,.t 14],zm 5 15,ze 16 0 5,ze 17 1 5,zo 3 (.new [zU 0,.str [],zI 0,zI 0,zI 0,zI 0]),zo 4 (.new [zI 0,zI 0]),zp (.store 6 (.t 3) (.t 16)),zp (.store 2 (.t 4) (.t 17))] [[],[],[],[],[],[],[],[],[],[],[],[],[],[9],[9],[],[]]) (zr [zf 18 0 4,zl 19 18,zk 20 .neq 19 0] 20 (zq [zm 21 0,zt 22 2 4,zc 23 21,zf 24 8 23,zp (.store 2 (.t 24) (.t 22))] (zq [zo 2 (.mv (.c (.bool false)))] .ret)) .skip (zq [zm 25 0,zt 26 6 3,zc 27 25,zf 28 1 27,zp (.store 6 (.t 28) (.t 26))] (zq [zo 2 (.mv (.c (.bool true)))] .ret)))),[.t 2]⟩
theorem Nn:cN Tryd.prog 14=some c14:=by kernel_rfl
def c39:cw:=⟨40,zq [zo 2 (.mv zn),zo 3 (.mv (.c (.bool false)))] (zr [zm 7 0,zx 8 32 [.t 7,.c (.str [40])],zo 9 (.un .not (.t 8))] 9 (zq [zo 2 (.mv zn),zo 3 (.mv (.c (.bool false)))] .ret) .skip (zq [zo 4 (.mv zn)] (zr [zm 10 0,zo 11 (.buildSl 1 [.str []] [(0,1,.c (.str [41]))]),zx 12 21 [.t 10,.t 11]] 12 (zq [zm 13 4,zm 14 0,zx 15 14 [.t 14],zm 2 13,zm 3 15] .ret) .skip (.block 0 (.loop (.block 1 (zq [zm 17 0,zc 18 17,zf 19 10 18,zl 20 19,zo 21 (.callv (.t 20) []),zm 16 21,ze 22 0 16,ze 23 1 16,zo 5 (.new [zU 0,.str [],zI 0,zN]),zp (.store 4 (.t 5) (.t 22)),zm 6 23] (zr [zm 24 6,zo 25 (.un .not (.t 24))] 25 (zq [zo 2 (.mv zn),zo 3 (.mv (.c (.bool false)))] .ret) .skip (zq [zm 26 4,zt 27 4 5,zo 28 (.buildSl 1 [zU 0,.str [],zI 0,zN] [(0,4,.t 27)]),zo 29 (.append 4 56 (.t 26) (.t 28)),zm 4 29] (zr [zm 30 0,zo 31 (.buildSl 1 [.str []] [(0,1,.c (.str [44]))]),zx 32 21 [.t 30,.t 31],zo 33 (.un .not (.t 32))] 33 (zq [zm 34 4,zm 35 0,zx 36 32 [.t 35,.c (.str [41])],zm 2 34,zm 3 36] .ret) .skip (zq [zm 37 0,zx 38 14 [.t 37],zo 39 (.un .not (.t 38))] (.cond (.t 39) (zq [zo 2 (.mv zn),zo 3 (.mv (.c (.bool false)))] .ret) .skip)))))))))))),[.t 2,.t 3]⟩
theorem MZ:cN Tryd.prog 39=some c39:=by kernel_rfl
def c32:cw:=⟨14,zq [zo 4 (.mv (.c (.bool false)))] (zr [zm 5 0,zm 6 1,zo 7 (.buildSl 1 [.str []] [(0,1,.t 6)]),zx 8 21 [.t 5,.t 7],zo 9 (.un .not (.t 8))] 9 (zq [zm 10 0,zx 11 33 [.t 10,zi 101],zm 4 11] .ret) .skip (zq [zm 12 0,zx 13 14 [.t 12],zm 4 13] .ret)),[.t 4]⟩
theorem M6:cN Tryd.prog 32=some c32:=by kernel_rfl
def c12:cw:=⟨10,zq [zo 4 (.box (.t 0)),zo 5 (.box (.t 1)),zo 6 (.box (.t 2)),zo 7 (.box (.t 3)),zo 8 (.mv (.c .nilFunc))] (zq [zo 9 (.mkFunc (.func 20) [] [.t 5,.t 4,.t 7,.t 6]),zm 8 9] .ret),[.t 8]⟩
theorem Nq:cN Tryd.prog 12=some c12:=by kernel_rfl
def c20:cw:=⟨46,zq [zo 4 (.new [zU 0,.str [],zI 0,zN]),zo 5 (.mv (.c (.bool false)))] (zq [zl 11 0,zo 12 (.callv (.t 11) []),zm 10 12,ze 13 0 10,ze 14 1 10,zo 6 (.new [zU 0,.str [],zI 0,zN]),zp (.store 4 (.t 6) (.t 13)),zm 7 14] (.seq (.block 0 (.loop (zr [zm 15 7,zm 16 15,zg 17 (.load false 1 (.t 1)) 16 true,zg 18 (.load false 1 (.t 2)) 16 true,zg 19 (.call 21 [.t 17,.t 18]) 16 true,zo 20 (.pick (.t 16) (.t 19) (.c (.bool false)))] 20 .skip (.exit 0) (.block 1 (zq [zl 21 1,zc 22 21,zf 23 1 22,zf 24 1 23,zl 25 24,zm 8 25] (zr [zl 26 1,zx 27 14 [.t 26],zo 28 (.un .not (.t 27))] 28 (zq [zo 29 (.build [zU 0,.str [],zI 0,zN] []),zp (.store 4 (.t 4) (.t 29)),zo 5 (.mv (.c (.bool false)))] .ret) .skip (zq [zo 9 (.new [zU 0,.str [],zI 0,zN])] (zq [zl 31 0,zo 32 (.callv (.t 31) []),zm 30 32,ze 33 0 30,ze 34 1 30,zp (.store 4 (.t 9) (.t 33)),zm 7 34] (zq [zm 35 8,zt 36 4 6,zt 37 4 9,zo 38 (.buildSl 2 [zU 0,.str [],zI 0,zN] [(0,4,.t 36),(4,4,.t 37)]),zo 39 (.build [zU 0,.str [],zI 0,zN] [(0,1,zu 3),(1,1,.t 35),(3,1,.t 38)]),zp (.store 4 (.t 6) (.t 39))] (zq [zl 40 3,zo 41 (.un .not (.t 40))] (.cond (.t 41) (.exit 0) .skip))))))))))) (zr [zm 42 7,zo 43 (.un .not (.t 42))] 43 (zq [zo 44 (.build [zU 0,.str [],zI 0,zN] []),zp (.store 4 (.t 4) (.t 44)),zo 5 (.mv (.c (.bool false)))] .ret) .skip (zq [zt 45 4 6,zp (.store 4 (.t 4) (.t 45)),zo 5 (.mv (.c (.bool true)))] .ret)))),[.cell true 4 4,.t 5]⟩
theorem Ng:cN Tryd.prog 20=some c20:=by kernel_rfl
def NP:cw:=⟨90,.seq (.block 1000000 (zq [zo 1 (.box (.t 0)),zo 2 (.new [zU 0,.str [],zU 0,.str [],zI 0,zN,zN,zN,zI 0]),zo 3 (.mv (.c (.bool false)))] (zr [zl 6 1,zx 7 22 [.t 6],zo 8 (.un .not (.t 7))] 8 (zq [zo 9 (.build [zU 0,.str [],zU 0,.str [],zI 0,zN,zN,zN,zI 0] []),zp (.store 9 (.t 2) (.t 9)),zo 3 (.mv (.c (.bool false)))] (.exit 1000000)) .skip (zq [zo 10 (.mkFunc (.func 26) [] [.t 1]),zo 91 (.pf .dset [.t 91,.t 10])] (zq [zl 11 1,zc 12 11,zf 13 1 12,zf 14 3 13,zl 15 14,zo 16 (.build [zU 0,.str [],zU 0,.str [],zI 0,zN,zN,zN,zI 0] [(8,1,.t 15)]),zo 4 (.new [zU 0,.str [],zU 0,.str [],zI 0,zN,zN,zN,zI 0]),zp (.store 9 (.t 4) (.t 16))] (zq [zo 5 (.mv (.c (.bool false)))] (.seq (.block 0 (zq [zl 20 1,zx 21 27 [.t 20,.c (.str [108,101,116])],zm 19 21] (.cond (.t 19) (zq [zf 22 0 4,zp (.store 1 (.t 22) (zu 1))] (.reg [zl 23 1,zx 24 14 [.t 23],zm 25 24,zg 26 (.load false 1 (.t 1)) 25 true,zg 27 (.call 28 [.t 26,.t 4]) 25 true,zo 28 (.pick (.t 25) (.t 27) (.c (.bool false))),zm 5 28])) (zq [zl 30 1,zx 31 27 [.t 30,.c (.str [115,101,116])],zm 29 31] (.cond (.t 29) (zq [zf 32 0 4,zp (.store 1 (.t 32) (zu 2))] (.reg [zl 33 1,zx 34 14 [.t 33],zm 35 34,zg 36 (.load false 1 (.t 1)) 35 true,zg 37 (.call 28 [.t 36,.t 4]) 35 true,zo 38 (.pick (.t 35) (.t 37) (.c (.bool false))),zm 5 38])) (zq [zl 40 1,zx 41 27 [.t 40,.c (.str [105,102])],zm 39 41] (.cond (.t 39) (zq [zf 42 0 4,zp (.store 1 (.t 42) (zu 3))] (zq [zl 43 1,zx 44 14 [.t 43],zm 45 44,zg 46 (.load false 1 (.t 1)) 45 true,zg 47 (.call 29 [.t 46,.t 4]) 45 true,zo 48 (.pick (.t 45) (.t 47) (.c (.bool false))),zm 5 48] (zq [zm 49 5,zm 50 49,zg 51 (.load false 1 (.t 1)) 50 true,zg 52 (.call 27 [.t 51,.c (.str [101,108,115,101])]) 50 true,zo 53 (.pick (.t 50) (.t 52) (.c (.bool false)))] (.cond (.t 53) (.reg [zl 54 1,zx 55 14 [.t 54],zm 56 55,zg 57 (.load false 1 (.t 1)) 56 true,zg 58 (.fieldA 7 (.t 4)) 56 true,zg 59 (.call 30 [.t 57,.t 58]) 56 true,zo 60 (.pick (.t 56) (.t 59) (.c (.bool false))),zm 5 60]) .skip)))) (zq [zl 62 1,zx 63 27 [.t 62,.c (.str [119,104,105,108,101])],zm 61 63] (.cond (.t 61) (zq [zf 64 0 4,zp (.store 1 (.t 64) (zu 4))] (.reg [zl 65 1,zx 66 14 [.t 65],zm 67 66,zg 68 (.load false 1 (.t 1)) 67 true,zg 69 (.call 29 [.t 68,.t 4]) 67 true,zo 70 (.pick (.t 67) (.t 69) (.c (.bool false))),zm 5 70])) (zq [zl 72 1,zx 73 27 [.t 72,.c (.str [114,101,116,117,114,110])],zm 71 73] (.cond (.t 71) (zq [zf 74 0 4,zp (.store 1 (.t 74) (zu 5))] (.reg [zl 75 1,zx 76 14 [.t 75],zm 77 76,zg 78 (.load false 1 (.t 1)) 77 true,zg 79 (.fieldA 2 (.t 4)) 77 true,zg 80 (.call 31 [.t 78,.t 79]) 77 true,zo 81 (.pick (.t 77) (.t 80) (.c (.bool false))),zm 82 81,zg 83 (.load false 1 (.t 1)) 82 true,zg 84 (.call 32 [.t 83,.c (.str [59])]) 82 true,zo 85 (.pick (.t 82) (.t 84) (.c (.bool false))),zm 5 85])) (.reg [zl 17 1,zx 18 33 [.t 17,zi 101]])))))))))))) (zr [zm 86 5,zo 87 (.un .not (.t 86))] 87 (zq [zo 88 (.build [zU 0,.str [],zU 0,.str [],zI 0,zN,zN,zN,zI 0] []),zp (.store 9 (.t 2) (.t 88)),zo 3 (.mv (.c (.bool false)))] (.exit 1000000)) .skip (zq [zt 89 9 4,zp (.store 9 (.t 2) (.t 89)),zo 3 (.mv (.c (.bool true)))] (.exit 1000000)))))))))) (zq [zo 92 (.pf .isU [.t 91])] (.cond (.t 92) (zq [zo 92 (.pf .isU [.t 90])] (.cond (.t 92) (zq [zt 94 9 2,zm 95 3,zo 93 (.pf .tup [.t 94,.t 95])] .ret) (.reg [zp .bad]))) (zq [zo 92 (.pf .isU [.t 90])] (.cond (.t 92) (zq [zo 92 (.pf (.isF 26 1) [.t 91]),zo 94 (.pf (.capt 0) [.t 91]),zp (.call 3098 [.t 94])] (zq [zt 94 9 2,zm 95 3,zo 93 (.pf .tup [.t 94,.t 95])] .ret)) (.reg [zp .bad]))))),[.t 93]⟩
theorem Nl:Lm Tryd.prog (some ⟨[],(some (26,1,false))⟩) 15=some NP:=by kernel_rfl
def NM:cw:=⟨20,zq [zo 4 (.mv (.c (.bool false)))] (zq [zm 5 0,zc 6 5,zf 7 1 6,zf 8 0 7,zl 9 8,zo 10 (.bin .eql (.t 9) (zu 3)),zm 11 10,zg 12 (.mv (.t 0)) 11 true,zg 13 (.nilChk (.t 12)) 11 true,zg 14 (.fieldA 1 (.t 13)) 11 true,zg 15 (.fieldA 1 (.t 14)) 11 true,zg 16 (.load false 1 (.t 15)) 11 true,zg 17 (.mv (.t 1)) 11 true,zg 18 (.bin .eql (.t 16) (.t 17)) 11 true,zo 19 (.pick (.t 11) (.t 18) (.c (.bool false))),zm 4 19] .ret),[.t 4]⟩
theorem Nb:cN Tryd.prog 27=some NM:=by kernel_rfl
def NL:cw:=⟨38,zq [zo 4 (.mv (.c (.bool false)))] (zr [zm 5 0,zc 6 5,zf 7 1 6,zf 8 0 7,zl 9 8,zo 10 (.bin .neq (.t 9) (zu 2))] 10 (zq [zm 11 0,zx 12 33 [.t 11,zi 101],zm 4 12] .ret) .skip (zq [zm 13 1,zm 14 0,zc 15 14,zf 16 1 15,zf 17 1 16,zl 18 17,zc 19 13,zf 20 1 19,zs 20 18] (zq [zm 21 0,zx 22 14 [.t 21],zm 23 22,zg 24 (.mv (.t 0)) 23 true,zg 25 (.call 32 [.t 24,.c (.str [61])]) 23 true,zo 26 (.pick (.t 23) (.t 25) (.c (.bool false))),zm 27 26,zg 28 (.mv (.t 0)) 27 true,zg 29 (.mv (.t 1)) 27 true,zg 30 (.nilChk (.t 29)) 27 true,zg 31 (.fieldA 2 (.t 30)) 27 true,zg 32 (.call 31 [.t 28,.t 31]) 27 true,zo 33 (.pick (.t 27) (.t 32) (.c (.bool false))),zm 34 33,zg 35 (.mv (.t 0)) 34 true,zg 36 (.call 32 [.t 35,.c (.str [59])]) 34 true,zo 37 (.pick (.t 34) (.t 36) (.c (.bool false))),zm 4 37] .ret))),[.t 4]⟩
theorem Na:cN Tryd.prog 28=some NL:=by kernel_rfl
def c31:cw:=⟨20,zq [zo 4 (.mv (.c (.bool false)))] (zq [zm 8 0,zc 9 8,zf 10 10 9,zl 11 10,zo 12 (.callv (.t 11) []),zm 7 12,ze 13 0 7,ze 14 1 7,zo 5 (.new [zU 0,.str [],zI 0,zN]),zp (.store 4 (.t 5) (.t 13)),zm 6 14] (zr [zm 15 6] 15 (.reg [zm 16 1,zt 17 4 5,zc 18 16,zp (.store 4 (.t 18) (.t 17))]) .skip (zq [zm 19 6,zm 4 19] .ret))),[.t 4]⟩
theorem M7:cN Tryd.prog 31=some c31:=by kernel_rfl
def c29:cw:=⟨25,zq [zo 4 (.mv (.c (.bool false)))] (zq [zm 5 0,zx 6 32 [.t 5,.c (.str [40])],zm 7 6,zg 8 (.mv (.t 0)) 7 true,zg 9 (.mv (.t 1)) 7 true,zg 10 (.nilChk (.t 9)) 7 true,zg 11 (.fieldA 2 (.t 10)) 7 true,zg 12 (.call 31 [.t 8,.t 11]) 7 true,zo 13 (.pick (.t 7) (.t 12) (.c (.bool false))),zm 14 13,zg 15 (.mv (.t 0)) 14 true,zg 16 (.call 32 [.t 15,.c (.str [41])]) 14 true,zo 17 (.pick (.t 14) (.t 16) (.c (.bool false))),zm 18 17,zg 19 (.mv (.t 0)) 18 true,zg 20 (.mv (.t 1)) 18 true,zg 21 (.nilChk (.t 20)) 18 true,zg 22 (.fieldA 6 (.t 21)) 18 true,zg 23 (.call 30 [.t 19,.t 22]) 18 true,zo 24 (.pick (.t 18) (.t 23) (.c (.bool false))),zm 4 24] .ret),[.t 4]⟩
theorem M9:cN Tryd.prog 29=some c29:=by kernel_rfl
def c30:cw:=⟨32,zq [zo 4 (.mv (.c (.bool false)))] (zr [zm 7 0,zx 8 32 [.t 7,.c (.str [123])],zo 9 (.un .not (.t 8))] 9 (zq [zo 4 (.mv (.c (.bool false)))] .ret) .skip (.seq (.block 0 (.loop (zr [zm 10 0,zo 11 (.buildSl 1 [.str []] [(0,1,.c (.str [125]))]),zx 12 21 [.t 10,.t 11],zo 13 (.un .not (.t 12))] 13 .skip (.exit 0) (.block 1 (zq [zm 15 0,zx 16 15 [.t 15],zm 14 16,ze 17 0 14,ze 18 1 14,zo 5 (.new [zU 0,.str [],zU 0,.str [],zI 0,zN,zN,zN,zI 0]),zp (.store 9 (.t 5) (.t 17)),zm 6 18] (zr [zm 19 6,zo 20 (.un .not (.t 19))] 20 (zq [zo 4 (.mv (.c (.bool false)))] .ret) .skip (.seq (.draw [zm 21 1,zc 22 21,zl 23 22,zt 24 9 5,zh 25 23,zo 26 (.buildSl 1 [zU 0,.str [],zU 0,.str [],zI 0,zN,zN,zN,zI 0] [(0,9,.c (.agg [zU 0,.str [],zU 0,.str [],zI 0,zN,zN,zN,zI 0]))]),zo 27 (.append 9 136 (.t 23) (.t 26)),zo 28 (.idxA 9 (.t 27) (.t 25)),zp (.store 9 (.t 28) (.t 24)),zc 29 21,zs 29 27] [[],[],[6],[6],[],[],[],[],[],[],[]]) (.reg [zp (.pf .apart [.t 29,.t 28])])))))))) (zq [zm 30 0,zx 31 14 [.t 30],zm 4 31] .ret))),[.t 4]⟩
theorem M8:cN Tryd.prog 30=some c30:=by kernel_rfl
def JI:cw:=⟨8,.reg [zl 1 0,zc 2 1,zf 3 7 2,zl 4 3,zk 5 .sub 4 1,zc 6 1,zf 7 7 6,zs 7 5],[]⟩
theorem J1:Lm Tryd.prog none 3095=some JI:=by kernel_rfl
def JH:cw:=⟨8,.reg [zl 1 0,zc 2 1,zf 3 7 2,zl 4 3,zk 5 .sub 4 1,zc 6 1,zf 7 7 6,zs 7 5],[]⟩
theorem J0:Lm Tryd.prog none 3098=some JH:=by kernel_rfl
end
open Go.Abs Go.Abs.S
def cj(s:Bs)(w:Wd)(g x y:Int)(orv:aa):List aa:=.str s::(kM w.k w.S w.n w.line w.at_ w.en++[.int .i64 g,.int .i64 x,.int .i64 y,orv])
structure Fp(pb:Nat)(H H':ab):Prop where
 next:H.next<=H'.next
 old:∀c,c<H.next->c≠pb->H'.get c=H.get c
theorem Fp.refl(pb:Nat)(H:ab):Fp pb H H:=⟨Nat.le_refl _,fun _ _ _=>rfl⟩
theorem Fp.trans{pb:Nat}{H H' H2:ab}(a:Fp pb H H')(b:Fp pb H' H2):Fp pb H H2:=
 ⟨Nat.le_trans a.next b.next,fun c h1 h2=>by rw[b.old c (Of h1 a.next) h2,a.old c h1 h2]⟩
theorem wJ{s:Bs}{p:Nat}{w:Wd}(h:cM s p=.ok w):jL s (p:Int)=eP (kM w.k w.S w.n w.line w.at_ w.en) (gq 0 0):=by
 unfold cM at h
 unfold jL
 by_cases a1:16384<s.length
 ·rw[if_pos a1]at h; first | (simp at h; done) | (simp only[Except.error.injEq]at h; subst h; rw[if_pos a1])
 rw[if_neg a1]at h ⊢
 by_cases a2:s.length<p
 ·rw[if_pos a2]at h
  have a2':(p:Int)<0∨(s.length:Int)<(p:Int):=.inr om
  first | (simp at h; done) | (simp only[Except.error.injEq]at h; subst h; rw[if_pos a2'])
 have a2':¬((p:Int)<0∨(s.length:Int)<(p:Int)):=om
 rw[if_neg a2]at h
 rw[if_neg a2',Int.toNat_natCast]
 by_cases a3:a6 s p=s.length
 ·rw[if_pos a3]at h ⊢
  first | (simp at h; done) | (simp only[Except.ok.injEq]at h; subst h; rfl)
 rw[if_neg a3]at h ⊢
 split at h <;> first | (simp at h; done) | skip
 rename_i ht
 first | simp only[Except.ok.injEq]at h | simp only[Except.error.injEq]at h
 subst h
 simp only[ht]
theorem tz{s:Bs}{p:Nat}{e:Aa}(h:cM s p=.error e):jL s (p:Int)=eP (kM 0 [] 0 0 0 0) (gq e.1 e.2):=by
 unfold cM at h
 unfold jL
 by_cases a1:16384<s.length
 ·rw[if_pos a1]at h; first | (simp at h; done) | (simp only[Except.error.injEq]at h; subst h; rw[if_pos a1])
 rw[if_neg a1]at h ⊢
 by_cases a2:s.length<p
 ·rw[if_pos a2]at h
  have a2':(p:Int)<0∨(s.length:Int)<(p:Int):=.inr om
  first | (simp at h; done) | (simp only[Except.error.injEq]at h; subst h; rw[if_pos a2'])
 have a2':¬((p:Int)<0∨(s.length:Int)<(p:Int)):=om
 rw[if_neg a2]at h
 rw[if_neg a2',Int.toNat_natCast]
 by_cases a3:a6 s p=s.length
 ·rw[if_pos a3]at h ⊢
  first | (simp at h; done) | (simp only[Except.ok.injEq]at h; subst h; rfl)
 rw[if_neg a3]at h ⊢
 split at h <;> first | (simp at h; done) | skip
 rename_i ht
 first | simp only[Except.ok.injEq]at h | simp only[Except.error.injEq]at h
 subst h
 simp only[ht]
theorem dW{H:ab}{b n:Nat}{l l':List aa}(h:bc H b l)(hn:l.length=n){i:Nat}(hi:i<n){x:aa}(hx:x.one=true)(e:l.set i x=l') :
  ∃H',bx 1 H (af b n i) x=some H'/\bc H' b l'/\H'.next=H.next/\∀c,c≠b->H'.get c=H.get c:=by
 subst e; exact bM h hn hi hx
theorem mZ{H:ab}{b n:Nat}{l l':List aa}(h:bc H b l)(hn:l.length=n){i k:Nat}(hik:i+k<=n){xs:List aa}(hx:xs.length=k)(ho:xs.all aa.one=true)(e:l.take i++(xs++l.drop (i+k))=l') :
  ∃H',bx k H (af b n i) (.agg xs)=some H'/\bc H' b l'/\H'.next=H.next/\∀c,c≠b->H'.get c=H.get c:=by
 subst e; exact yx h hn hik hx ho
theorem Kk:L9 aB:=⟨fun f hf=>by show Nat.beq f 64=false; rw[b9]; exact decide_eq_false hf,rfl,fun s H hs=>by
 show (bif Nat.beq 64 64 then rQ H [.str s] else none)=_
 rw[show Nat.beq 64 64=true from rfl,cond_true]
 simp only[rQ,N3 hs,cond_true]⟩
open Go.Abs Go.Abs.S
theorem tx{s:Bs}{p:Nat}{e:Aa}(h:cM s p=.error e):e.1≠0:=by
 unfold cM at h
 split at h
 ·simp only[Except.error.injEq]at h; subst h; simp
 split at h
 ·simp only[Except.error.injEq]at h; subst h; simp
 split at h
 ·simp at h
 split at h
 ·simp at h
 ·simp only[Except.error.injEq]at h; subst h; simp
theorem bu{H:ab}{pb:Nat}{s:Bs}{w:Wd}{g x y:Int}{orv:aa}(hr:bc H pb (cj s w g x y orv))(hpb:pb<H.next)(hw:w.en<=9223372036854775807) :
  an Tryd.prog aB 14 [af pb 11 0] H fun v H'=>(match aZ s w with
   | .ok w'=>v=.bool true/\bc H' pb (cj s w' g x y orv)
   | .error e=>v=.bool false/\bc H' pb (cj s w g e.1 e.2 orv))/\Fp pb H H':=by
 refine ak rfl Nn rfl ?_
 obtain⟨H1,hH1⟩:∃H1,H1=(H.push (.cells ZW 0 false)).push (.cells Z2 0 false):=⟨_,rfl⟩
 have n1:H1.next=H.next+2:=by rw[hH1]; rfl
 have k1:∀c,c<H.next->H1.get c=H.get c:=fun c hc=>by rw[hH1,ab.get_push,if_neg (by rw[a8]; omega),aE hc]
 have g3:H1.get H.next=some (.cells ZW 0 false):=by rw[hH1,ab.get_push,if_neg (by rw[a8]; omega),ab.get_push,if_pos rfl]
 have g4:H1.get (H.next+1)=some (.cells Z2 0 false):=by rw[hH1,ab.get_push,if_pos (by rw[a8])]
 have r1:=hr.same (k1 pb hpb)
 have l0:am false 1 H1 (af pb 11 0)=some (.str s):=al r1 rfl rfl
 have l6:am false 1 H1 (af pb 11 6)=some (.int .i64 (w.en:Int)):=al r1 rfl rfl
 simp only[ZW,Z2]at hH1 g3 g4
 simp only[c14,sA,sB,seval]
 refine xC ?_
 simp only[aw,dH,bt,<- hH1]
 simp only[sA,sB,seval,sR,mP,aC,cz,fld0,l0,l6]
 refine (tw Kk (s:=s) (p:=(w.en:Int)) om om).mono ?_
 rintro v H2 ⟨rfl,E2⟩
 have e2:=E2.next
 have r2:=r1.same (E2.old pb om)
 have q3:H2.get H.next=_:=(E2.old _ om).trans g3
 have q4:H2.get (H.next+1)=_:=(E2.old _ om).trans g4
 have cl3:eN H2 H.next _ none=some (af H.next 6 0):=jd q3 rfl
 have dl3:eN H1 H.next _ none=some (af H.next 6 0):=jd g3 rfl
 have dl4:eN H1 (H.next+1) _ none=some (af (H.next+1) 2 0):=jd g4 rfl
 have cl4:eN H2 (H.next+1) _ none=some (af (H.next+1) 2 0):=jd q4 rfl
 cases hn:aZ s w with
 | ok w'=>
  rw[wJ hn]
  obtain⟨H3,m3,r3,n3,k3⟩:=aq (H:=H2) (b:=H.next) ⟨0,q3,Nat.zero_le _⟩ (n:=6) rfl (xs:=kM w'.k w'.S w'.n w'.line w'.at_ w'.en) rfl rfl
  obtain⟨H4,m4,r4,n4,k4⟩:=aq (H:=H3) (b:=H.next+1) ⟨0,(k3 _ om).trans q4,Nat.zero_le _⟩ (n:=2) rfl (xs:=gq 0 0) rfl rfl
  have s4:=r2.same (H':=H4) (by rw[k4 _ om,k3 _ om])
  have z4:am false 1 H4 (af (H.next+1) 2 0)=some (.int .i64 0):=al r4 rfl rfl
  have w4:=aD (r3.same (k4 _ om)) (n:=6) rfl
  obtain⟨H5,m5,r5,n5,k5⟩:=mZ s4 (n:=11) rfl (i:=1) (k:=6) om (xs:=kM w'.k w'.S w'.n w'.line w'.at_ w'.en) rfl rfl (l':=cj s w' g x y orv) rfl
  simp only[sA,sB,seval,sR,eP,bZ,bY,mP,cl3,cl4,m3,m4]
  simp only[fN,fO,ez,ow,fP,iJ,and_true,true_and,List.map_cons,List.map_nil,sA,sB,seval]
  refine⟨⟨⟨_,rfl,fun _=>⟨_,dl3,lE _ _ _⟩⟩,⟨_,rfl,fun _=>⟨_,dl4,lE _ _ _⟩⟩⟩,?_⟩
  simp only[sA,sB,seval,aC,cz,fld0,z4,w4,m5]
  exact⟨⟨tt,r5⟩,om,fun c hc hp=>by rw[k5 c hp,k4 c om,k3 c om,E2.old c om,k1 c hc]⟩
 | error e=>
  rw[tz hn]
  have he:=tx hn
  obtain⟨H3,m3,r3,n3,k3⟩:=aq (H:=H2) (b:=H.next) ⟨0,q3,Nat.zero_le _⟩ (n:=6) rfl (xs:=kM 0 [] 0 0 0 0) rfl rfl
  obtain⟨H4,m4,r4,n4,k4⟩:=aq (H:=H3) (b:=H.next+1) ⟨0,(k3 _ om).trans q4,Nat.zero_le _⟩ (n:=2) rfl (xs:=gq e.1 e.2) rfl rfl
  have s4:=r2.same (H':=H4) (by rw[k4 _ om,k3 _ om])
  have z4:am false 1 H4 (af (H.next+1) 2 0)=some (.int .i64 (e.1:Int)):=al r4 rfl rfl
  have w4:=aD r4 (n:=2) rfl
  have he':¬(e.1:Int)=0:=om
  obtain⟨H5,m5,r5,n5,k5⟩:=mZ s4 (n:=11) rfl (i:=8) (k:=2) om (xs:=gq e.1 e.2) rfl rfl (l':=cj s w g e.1 e.2 orv) rfl
  simp only[sA,sB,seval,sR,eP,bZ,bY,mP,cl3,cl4,m3,m4]
  simp only[fN,fO,ez,ow,fP,iJ,and_true,true_and,List.map_cons,List.map_nil,sA,sB,seval]
  refine⟨⟨⟨_,rfl,fun _=>⟨_,dl3,lE _ _ _⟩⟩,⟨_,rfl,fun _=>⟨_,dl4,lE _ _ _⟩⟩⟩,?_⟩
  simp only[sA,sB,seval,aC,cz,fld0,z4,he',w4,m5]
  exact⟨⟨tt,r5⟩,om,fun c hc hp=>by rw[k5 c hp,k4 c om,k3 c om,E2.old c om,k1 c hc]⟩
theorem Cj{H:ab}{v:aa}{l:List Bs}{n:Nat}(c:Ab n H v (l.map aa.str))(x:Bs)(hl:l.length<=1000):an Tryd.prog aB 56 [v,.str x] H fun u H'=>H=H'/\∃i:Int,u=.int .i64 i/\(0<=i↔l.contains x=true):=by
 refine ak rfl MI rfl ?_
 simp only[c56,sA,sB,seval,c.len,List.length_map]
 refine bD (fun m (T:bU) H'=>H=H'/\∃i:Nat,m=l.length-i/\i<=l.length/\T 0=v/\T 1=.str x/\T 7=.int .i64 (l.length:Int)/\T 8=.int .i64 (i:Int)/\(l.take i).contains x=false) l.length
  ⟨rfl,0,rfl,om,by simp only[sA,sB,seval],by simp only[sA,sB,seval],by simp only[sA,sB,seval],by simp only[sA,sB,seval]; try rfl,by simp⟩ ?_
 rintro m T _ ⟨rfl,i,rfl,hi,t0,t1,t7,t8,hx⟩
 by_cases hlt:i<l.length
 case neg=>
  obtain rfl:i=l.length:=om
  have hlt':¬(l.length:Int)<(l.length:Int):=om
  rw[List.take_length]at hx
  simp only[sA,sB,seval,t7,t8,hlt']
  exact⟨tt,_,rfl,by rw[hx]; simp⟩
 have hlt':(i:Int)<(l.length:Int):=om
 obtain⟨y,hy⟩:∃y,l[i]?=some y:=⟨_,N1 hlt⟩
 have io:=c.idx .i64 (i:=i) (by rw[List.length_map]; exact hlt)
 have lo:=c.load (i:=i) (x:=.str y) (by rw[List.getElem?_map,hy]; rfl)
 have wk:IntKind.i64.wrap ((i:Int)+1)=((i+1:Nat):Int):=Ah
 by_cases he:x=y
 ·subst he
  simp only[sA,sB,seval,t0,t1,t7,t8,hlt',io,lo,Gq]
  refine⟨tt,_,rfl,?_⟩
  have:l.contains x=true:=by simpa using N9 hy
  simp only[this,iff_true]; omega
 ·simp only[sA,sB,seval,t0,t1,t7,t8,hlt',io,lo,he,wk]
  refine⟨l.length-(i+1),om,tt,i+1,rfl,om,tt,tt,tt,tt,?_⟩
  rw[List.take_add_one,hy]
  simp only[Option.toList_some,List.contains_eq_mem,List.mem_append,List.mem_singleton,decide_eq_false_iff_not]at hx ⊢
  rintro (h | h)
  ·exact hx h
  ·exact he h
theorem sx{H:ab}{v:aa}{l:List Bs}{n:Nat}(c:Ab n H v (l.map aa.str))(x:Bs)(hl:l.length<=1000):an Tryd.prog aB 38 [v,.str x] H fun u H'=>H=H'/\u=.bool (l.contains x):=by
 refine ak rfl M0 rfl ?_
 simp only[c38,sA,sB,seval]
 refine (Cj c x hl).mono ?_
 rintro _ _ ⟨rfl,i,rfl,hi⟩
 simp only[sA,sB,seval]
 refine⟨tt,?_⟩
 congr 1
 rw[<- Bool.coe_iff_coe,<- hi]; simp
theorem fZ{H:ab}{pb:Nat}{s:Bs}{w:Wd}{g x y:Int}{orv v:aa}{l:List Bs}{n:Nat}(hr:bc H pb (cj s w g x y orv))(c:Ab n H v (l.map aa.str))(hl:l.length<=1000):an Tryd.prog aB 21 [af pb 11 0,v] H fun u H'=>H=H'/\u=.bool (dN w l):=by
 refine ak rfl Nf rfl ?_
 have l1:am false 1 H (af pb 11 1)=some (.int .u8 (w.k:Int)):=al hr rfl rfl
 have l2:am false 1 H (af pb 11 2)=some (.str w.S):=al hr rfl rfl
 by_cases hk:w.k=4
 ·have hk':(w.k:Int)=4:=om
  simp only[NO,sA,sB,seval,aC,cz,fld0,l1,hk',l2]
  refine (sx c w.S hl).mono ?_
  rintro _ _ ⟨rfl,rfl⟩
  have e:dN w l=l.contains w.S:=by simp only[dN,hk]; rfl
  rw[e]
  simp only[sA,sB,seval]
  exact⟨tt,tt⟩
 ·have hk':¬(w.k:Int)=4:=om
  have e:dN w l=false:=by
   have:Nat.beq w.k 4=false:=by rw[b9]; exact decide_eq_false hk
   simp only[dN,this]; rfl
  simp only[NO,sA,sB,seval,aC,cz,fld0,l1,hk',e]
  exact⟨tt,tt⟩
theorem gE{H:ab}{pb:Nat}{s:Bs}{w:Wd}{g x y:Int}{orv:aa}(hr:bc H pb (cj s w g x y orv))(t:Bs):an Tryd.prog aB 27 [af pb 11 0,.str t] H fun u H'=>H=H'/\u=.bool (il w t):=by
 refine ak rfl Nb rfl ?_
 have l1:am false 1 H (af pb 11 1)=some (.int .u8 (w.k:Int)):=al hr rfl rfl
 have l2:am false 1 H (af pb 11 2)=some (.str w.S):=al hr rfl rfl
 by_cases hk:w.k=3
 ·have hk':(w.k:Int)=3:=om
  have e:il w t=decide (w.S=t):=by simp only[il,hk]; rfl
  simp only[NM,sA,sB,seval,aC,cz,fld0,l1,hk',l2,e]
  exact⟨tt,tt⟩
 ·have hk':¬(w.k:Int)=3:=om
  have e:il w t=false:=by
   have:Nat.beq w.k 3=false:=by rw[b9]; exact decide_eq_false hk
   simp only[il,this]; rfl
  simp only[NM,sA,sB,seval,aC,cz,fld0,l1,hk',e]
  exact⟨tt,tt⟩
theorem gH{H:ab}{pb:Nat}{s:Bs}{w:Wd}{g x y:Int}{orv:aa}(hr:bc H pb (cj s w g x y orv))(e:Nat):an Tryd.prog aB 33 [af pb 11 0,.int .i64 (e:Int)] H fun u H'=>u=.bool false/\bc H' pb (cj s w g e w.line orv)/\Fp pb H H':=by
 refine ak rfl M5 rfl ?_
 have l4:am false 1 H (af pb 11 4)=some (.int .i64 (w.line:Int)):=al hr rfl rfl
 have bf:bT [.int .i64 0,.int .i64 0] [(0,1,.int .i64 (e:Int)),(1,1,.int .i64 (w.line:Int))]=some (.agg (gq e w.line)):=rfl
 obtain⟨H5,m5,r5,n5,k5⟩:=mZ hr (n:=11) rfl (i:=8) (k:=2) om (xs:=gq e w.line) rfl rfl (l':=cj s w g e w.line orv) rfl
 simp only[c33,sA,sB,seval,aC,cz,fld0,l4,bf,m5]
 exact⟨tt,r5,om,fun c _ hp=>k5 c hp⟩
theorem tn{H:ab}{pb:Nat}{s:Bs}{w:Wd}{g:Nat}{x y:Int}{orv:aa}(hr:bc H pb (cj s w g x y orv))(h:200<=g):an Tryd.prog aB 22 [af pb 11 0] H fun u H'=>u=.bool false/\bc H' pb (cj s w g 102 w.line orv)/\Fp pb H H':=by
 refine ak rfl Ls rfl ?_
 have l7:am false 1 H (af pb 11 7)=some (.int .i64 (g:Int)):=al hr rfl rfl
 have h':(200:Int)<=(g:Int):=om
 simp only[NN,sA,sB,seval,aC,cz,fld0,l7,h']
 refine (gH hr 102).mono ?_
 rintro _ H1 ⟨rfl,r1,f1⟩
 simp only[sA,sB,seval]
 exact⟨tt,r1,f1⟩
theorem tk{H:ab}{pb:Nat}{s:Bs}{w:Wd}{g:Nat}{x y:Int}{orv:aa}(hr:bc H pb (cj s w g x y orv))(h:¬200<=g):an Tryd.prog aB 22 [af pb 11 0] H fun u H'=>u=.bool true/\bc H' pb (cj s w ((g+1:Nat):Int) x y orv)/\Fp pb H H'/\H'.next=H.next:=by
 refine ak rfl Ls rfl ?_
 have l7:am false 1 H (af pb 11 7)=some (.int .i64 (g:Int)):=al hr rfl rfl
 have h':¬(200:Int)<=(g:Int):=om
 have wk:IntKind.i64.wrap ((g:Int)+1)=((g+1:Nat):Int):=Ah
 obtain⟨H5,m5,r5,n5,k5⟩:=dW hr (n:=11) rfl (i:=7) om (x:=.int .i64 ((g+1:Nat):Int)) rfl (l':=cj s w ((g+1:Nat):Int) x y orv) rfl
 simp only[NN,sA,sB,seval,aC,cz,fld0,l7,h',wk,m5]
 exact⟨tt,r5,⟨om,fun c _ hp=>k5 c hp⟩,n5⟩
theorem kT(H:ab)(c:Bs):Ab (H.push (.cells [.str c] 0 false)).next (H.push (.cells [.str c] 0 false)) (HV H) ([c].map aa.str):=(fY H [.str c]).cel rfl (Nat.lt_succ_self _)
theorem dB{H:ab}{pb:Nat}{s:Bs}{w:Wd}{g x y:Int}{orv:aa}(hr:bc H pb (cj s w g x y orv))(hpb:pb<H.next)(hw:w.en<=9223372036854775807)(c:Bs) :
  an Tryd.prog aB 32 [af pb 11 0,.str c] H fun v H'=>(match cJ s c w with
   | .ok w'=>v=.bool true/\bc H' pb (cj s w' g x y orv)
   | .error e=>v=.bool false/\bc H' pb (cj s w g e.1 e.2 orv))/\Fp pb H H':=by
 refine ak rfl M6 rfl ?_
 have bs:=iK (.str []) H (x:=.str c) rfl
 have r1:=hr.same (H':=H.push (.cells [.str c] 0 false)) (aE hpb)
 have f1:Fp pb H (H.push (.cells [.str c] 0 false)):=⟨by rw[a8]; omega,fun c hc _=>aE hc⟩
 simp only[c32,sA,sB,seval,bs]
 refine (fZ r1 (kT H c) (by simp)).mono ?_
 rintro _ _ ⟨rfl,rfl⟩
 cases hs:dN w [c] with
 | true=>
  simp only[sA,sB,seval]
  refine (bu r1 (by rw[a8]; omega) hw).mono ?_
  rintro v H2 ⟨h2,f2⟩
  have e:cJ s c w=aZ s w:=by unfold cJ; rw[if_pos hs]
  rw[e]
  simp only[sA,sB,seval]
  exact⟨h2,f1.trans f2⟩
 | false=>
  simp only[sA,sB,seval]
  refine (gH r1 101).mono ?_
  rintro v H2 ⟨rfl,h2,f2⟩
  have e:cJ s c w=.error (101,w.line):=by unfold cJ; rw[if_neg (by rw[hs]; simp)]
  rw[e]
  simp only[sA,sB,seval]
  exact⟨⟨tt,h2⟩,f1.trans f2⟩
open Go.Abs Go.Abs.S
def yc(n pb:Nat)(H:ab):Nat->aa->Prop
 | 0,v=>v=.func (.func 13) [af pb 11 0] []
 | k+1,v=>∃c0 c1 c2 c3 b m vb,v=.func (.func 20) [] [af c0 1 0,af c1 1 0,af c2 1 0,af c3 1 0]/\bc H c0 [vb]/\bc H c1 [af pb 11 0]/\bc H c2 [sd b m (.known m)]/\bc H c3 [.bool (!Nat.beq (k+1) 3)]/\bc H b ((mt (k+1)).map aa.str)/\((mt (k+1)).map aa.str).length=m/\(∀c,c=c0∨c=c1∨c=c2∨c=c3∨c=b->c<n/\c≠pb)/\yc n pb H k vb
theorem yc.keep{n pb:Nat}{H H':ab}(q:∀c,c<n->c≠pb->H'.get c=H.get c):∀{k:Nat} {v:aa},yc n pb H k v->yc n pb H' k v
 | 0,_,h=>h
 | k+1,_,h=>by
  obtain⟨c0,c1,c2,c3,b,m,vb,h1,h2,h3,h4,h5,h6,h7,h8,h9⟩:=h
  have q':∀c,c=c0∨c=c1∨c=c2∨c=c3∨c=b->H'.get c=H.get c:=fun c hc=>q c (h8 c hc).1 (h8 c hc).2
  exact⟨c0,c1,c2,c3,b,m,vb,h1,h2.same (q' _ (by simp)),h3.same (q' _ (by simp)),h4.same (q' _ (by simp)),h5.same (q' _ (by simp)),h6.same (q' _ (by simp)),h7,h8,yc.keep q h9⟩
theorem yc.more{n n' pb:Nat}{H:ab}(hn:n<=n'):∀{k:Nat} {v:aa},yc n pb H k v->yc n' pb H k v
 | 0,_,h=>h
 | k+1,_,h=>by
  obtain⟨c0,c1,c2,c3,b,m,vb,h1,h2,h3,h4,h5,h6,h7,h8,h9⟩:=h
  exact⟨c0,c1,c2,c3,b,m,vb,h1,h2,h3,h4,h5,h6,h7,fun c hc=>⟨Of (h8 c hc).1 hn,(h8 c hc).2⟩,yc.more hn h9⟩
structure PA(n pb:Nat)(s:Bs)(H:ab)(w:Wd)(g:Nat)(x y:Int)(orv:aa):Prop where
 row:bc H pb (cj s w g x y orv)
 hpb:pb<n
 hn:n<=H.next
 or:yc n pb H 5 orv
 ok:nQ s w
 hg:g<=200
theorem PA.fwd{n pb:Nat}{s:Bs}{H H':ab}{w w':Wd}{g g':Nat}{x y x' y':Int}{orv:aa}(h:PA n pb s H w g x y orv)(f:Fp pb H H')(r:bc H' pb (cj s w' g' x' y' orv))(hw:nQ s w')(hg:g'<=200):PA n pb s H' w' g' x' y' orv:=
 ⟨r,h.hpb,Nat.le_trans h.hn f.next,h.or.keep fun c hc hp=>f.old c (Of hc h.hn) hp,hw,hg⟩
theorem PA.lt{n pb:Nat}{s:Bs}{H:ab}{w:Wd}{g:Nat}{x y:Int}{orv:aa}(h:PA n pb s H w g x y orv):pb<H.next:=Of h.hpb h.hn
theorem PA.en{n pb:Nat}{s:Bs}{H:ab}{w:Wd}{g:Nat}{x y:Int}{orv:aa}(h:PA n pb s H w g x y orv):w.en<=9223372036854775807:=by
 have h1:=h.ok.en
 have h2:=h.ok.long
 omega
def Le(pb:Nat)(s:Bs)(g:Nat)(x y:Int)(orv:aa)(H:ab)(r:eD Ex)(u:aa)(H':ab):Prop:=
 (match r with
 | .ok (e,w')=>∃xs,u=.tuple [.agg xs,.bool true]/\XE (In H.next H'.next) H' e xs/\bc H' pb (cj s w' g x y orv)/\nQ s w'
 | .error e=>∃xs w',u=.tuple [.agg xs,.bool false]/\xs.length=4/\(xs.all aa.one=true/\aeqs xs xs=true)/\bc H' pb (cj s w' g e.1 e.2 orv))/\Fp pb H H'
def NW(pb:Nat)(s:Bs)(g:Nat)(x y:Int)(orv:aa)(S:Bs)(H:ab)(r:eD Ex)(u:aa)(H':ab):Prop:=
 (match r with
 | .ok (e,w')=>∃kids v C,e=.mk 4 S 0 kids/\u=.tuple [v,.bool true]/\fw (In H.next H'.next) H' 4 v kids.length C/\oG (In H.next H'.next) H' kids C/\bc H' pb (cj s w' g x y orv)/\nQ s w'
 | .error e=>∃v w',u=.tuple [v,.bool false]/\(v.one=true/\aeq v v=true)/\bc H' pb (cj s w' g e.1 e.2 orv))/\Fp pb H H'
def CV(v:aa)(H:ab)(K:aa->ab->Prop):Prop:=mF (an Tryd.prog aB) v [] H K
theorem CV.mono{v:aa}{H:ab}{K K':aa->ab->Prop}(h:CV v H K)(k:∀u H',K u H'->K' u H'):CV v H K':=by
 obtain⟨g,a,b,h1,h2,h3⟩:=h
 exact⟨g,a,b,h1,h2,h3.mono k⟩
def kJ(n pb:Nat)(s:Bs)(f k:Nat):Prop:=∀(H:ab) (w:Wd) (g:Nat) (x y:Int) (orv v:aa) (r:eD Ex),PA n pb s H w g x y orv->yc n pb H k v->pE s f (.rule k) g w=some r->CV v H (Le pb s g x y orv H r)
def GR(n pb:Nat)(s:Bs)(f:Nat):Prop:=∀(H:ab) (w:Wd) (g:Nat) (x y:Int) (orv:aa) (r:eD Ex),PA n pb s H w g x y orv->pE s f .prim g w=some r->an Tryd.prog aB 24 [af pb 11 0] H (Le pb s g x y orv H r)
def JM(s:Bs)(pe:NT->Nat->Wd->Option (eD Ex))(S:Bs)(g:Nat)(w:Wd):Option (eD Ex):=fK (aZ s w) fun w2=>if dN w2 [[41]] then fK (aZ s w2) fun w3=>bp (.mk 4 S 0 []) w3 else pe (.args S []) g w2
def GX(n pb:Nat)(s:Bs)(f:Nat):Prop:=∀(S:Bs) (H:ab) (w:Wd) (g:Nat) (x y:Int) (orv:aa) (r:eD Ex),PA n pb s H w g x y orv->dN w [[40]]=true->JM s (pE s f) S g w=some r->an Tryd.prog aB 39 [af pb 11 0] H (NW pb s g x y orv S H r)
theorem cG{α:Type}{o:Except Aa Wd}{f:Wd->Option (eD α)}{r:eD α}(h:fK o f=some r):(∃e,o=.error e/\r=.error e)∨∃w,o=.ok w/\f w=some r:=by
 cases o with
 | error e=>simp only[fK,sJ]at h; exact .inl ⟨e,rfl,h.symm⟩
 | ok w=>exact .inr ⟨w,rfl,h⟩
theorem ck{α β:Type}{o:Option (eD α)}{f:α->Wd->Option (eD β)}{r:eD β}(h:jw o f=some r):(∃e,o=some (.error e)/\r=.error e)∨∃a w,o=some (.ok (a,w))/\f a w=some r:=by
 cases o with
 | none=>simp[jw]at h
 | some o=>
  cases o with
  | error e=>simp only[jw,sJ]at h; exact .inl ⟨e,rfl,h.symm⟩
  | ok p=>obtain⟨a,w⟩:=p; exact .inr ⟨a,w,rfl,h⟩
theorem ju(x:aa):jJ .isU [x]=some (.bool (isU x)):=_root_.id rfl
theorem gP(f:Fn)(a b:List aa):isU (.func f a b)=false:=_root_.id rfl
theorem nB:isU (.tuple [])=true:=_root_.id rfl
theorem jv(g:Nat)(x:aa):jJ (.isF g 1) [.func (.func g) [] [x]]=some (.bool true):=by
 simp[jJ,IY]
theorem gI(f:Fn)(x:aa):jJ (.capt 0) [.func f [] [x]]=some x:=_root_.id rfl
theorem AJ(f:Nat)(a b:List aa):jJ .dset [.tuple [],.func (.func f) a b]=some (.func (.func f) a b):=_root_.id rfl
theorem gw(x y:aa):jJ .tup [x,y]=some (.tuple [x,y]):=_root_.id rfl
theorem kw{H:ab}{pb c:Nat}{s:Bs}{w:Wd}{g:Nat}{x y:Int}{orv:aa}(hc:bc H c [af pb 11 0])(hr:bc H pb (cj s w ((g+1:Nat):Int) x y orv))(hg:g<=1000):an Tryd.prog aB 3095 [af c 1 0] H fun _ H'=>bc H' pb (cj s w (g:Int) x y orv)/\H'.next=H.next/\∀k,k≠pb->H'.get k=H.get k:=by
 refine jI rfl J1 rfl ?_
 have lc:am false 1 H (af c 1 0)=some (af pb 11 0):=al hc rfl rfl
 have l7:am false 1 H (af pb 11 7)=some (.int .i64 ((g+1:Nat):Int)):=al hr rfl rfl
 have wk:IntKind.i64.wrap (((g+1:Nat):Int)-1)=(g:Int):=Ah
 obtain⟨H5,m5,r5,n5,k5⟩:=dW hr (n:=11) rfl (i:=7) om (x:=.int .i64 (g:Int)) rfl (l':=cj s w (g:Int) x y orv) rfl
 simp only[JI,sA,sB,seval,lc,aC,cz,l7,wk,m5]
 exact⟨[],rfl,r5,n5,k5⟩
theorem gc(b n i:Nat):(af b n i).cells=[af b n i]:=_root_.id rfl
theorem KR:bT [.int .u8 0,.str [],.int .i64 0,.slice none 0 (.known 0)] []=some (.agg [.int .u8 0,.str [],.int .i64 0,.slice none 0 (.known 0)]):=_root_.id rfl
theorem JK(S:Bs)(v:aa)(hv:v.one=true):bT [.int .u8 0,.str [],.int .i64 0,.slice none 0 (.known 0)] [(0,1,.int .u8 3),(1,1,.str S),(3,1,v)]=some (.agg [.int .u8 3,.str S,.int .i64 0,v]):=by
 cases v <;> first | rfl | (simp[aa.one]at hv)
theorem Cg(H:ab)(a b:Bs):cA 2 [.str []] H [(0,1,.str a),(1,1,.str b)]=some (sd H.next 2 (.known 2),H.push (.cells [.str a,.str b] 0 false)):=_root_.id rfl
theorem Dw{n pb:Nat}{s:Bs}{f:Nat}(ihr:kJ n pb s f 0)(ihp:GR n pb s f):kJ n pb s (f+1) 0:=by
 intro H w g x y orv v r A hv hr
 rw[show v=.func (.func 13) [af pb 11 0] [] from hv]
 show mF _ _ _ _ _
 rw[gd _ _ _ _ _ dD]
 refine jI rfl Np rfl ?_
 rw[fd]at hr
 simp only[bJ]at hr
 have hlt:=A.lt
 obtain⟨H1,m1,r1,n1,k1⟩:=aG H [af pb 11 0] (n:=1) rfl
 obtain⟨H2,m2,r2,n2,k2⟩:=aG H1 [.int .u8 0,.str [],.int .i64 0,.slice none 0 (.known 0)] (n:=4) rfl
 have g41:nN ([af pb 11 0]++[]++[]) 41=.tuple []:=rfl
 have g42:nN ([af pb 11 0]++[]++[]) 42=.tuple []:=rfl
 have F2:Fp pb H H2:=⟨om,fun c hc _=>by rw[k2 c om,k1 c om]⟩
 have A2:=A.fwd F2 (A.row.same (by rw[k2 pb om,k1 pb om])) A.ok A.hg
 have c1:bc H2 H.next [af pb 11 0]:=r1.same (k2 _ om)
 have l1:∀{K:ab},Fp pb H2 K->am false 1 K (af H.next 1 0)=some (af pb 11 0):=fun q=>al (c1.same (q.old _ om om)) rfl rfl
 have l1':=l1 (Fp.refl pb H2)
 have b0:=KR
 simp only[List.nil_append,Oj,List.append_nil]at g41 g42
 by_cases hg:200<=g
 ·rw[if_pos hg]at hr
  simp only[mG,sJ]at hr
  subst hr
  simp only[List.nil_append,Oj,List.append_nil,NQ,sA,sB,seval,gc,m1,m2,l1']
  refine (tn A2.row hg).mono ?_
  rintro _ H3 ⟨rfl,r3,F3⟩
  obtain⟨H4,m4,r4,n4,k4⟩:=aq (r2.same (F3.old _ om om)) (n:=4) rfl (xs:=[.int .u8 0,.str [],.int .i64 0,.slice none 0 (.known 0)]) rfl rfl
  have l4:=aD r4 (n:=4) rfl
  have f3:=F3.next
  simp only[sA,sB,seval,b0,m4,g41,g42,ju,nB,l4,gw]
  refine⟨⟨_,w,tt,rfl,⟨rfl,rfl⟩,r3.same (k4 _ om)⟩,om,fun c hc hp=>by rw[k4 c om,F3.old c om hp,F2.old c hc hp]⟩
 rw[if_neg hg]at hr
 simp only[List.nil_append,Oj,List.append_nil,NQ,sA,sB,seval,gc,m1,m2,l1']
 refine (tk A2.row hg).mono ?_
 rintro _ H3 ⟨rfl,r3,F3,n3⟩
 have A3:=A2.fwd F3 r3 A.ok om
 have l3:=l1 F3
 have F4:Fp pb H3 (H3.push (.cells [.str [45],.str [33]] 0 false)):=⟨by rw[a8]; omega,fun c hc _=>aE hc⟩
 have A4:=A3.fwd F4 (r3.same (aE A3.lt)) A.ok om
 have c4:Ab (H3.push (.cells [.str [45],.str [33]] 0 false)).next (H3.push (.cells [.str [45],.str [33]] 0 false)) (sd H3.next 2 (.known 2)) ([[45],[33]].map aa.str):=(fY H3 [.str [45],.str [33]]).cel rfl (Nat.lt_succ_self _)
 simp only[sA,sB,seval,g42,AJ,l3,Cg]
 refine (fZ A4.row c4 (by simp)).mono ?_
 rintro _ _ ⟨rfl,rfl⟩
 have l4:=l1 (F3.trans F4)
 have F24:=F3.trans F4
 generalize H3.push (.cells [.str [45],.str [33]] 0 false)=H4 at *
 have e4:=F24.next
 cases hs:dN w [[45],[33]] with
 | false=>
  rw[if_neg (by rw[hs]; simp)]at hr
  simp only[sA,sB,seval,l4]
  refine (ihp H4 w (g+1) x y orv r A4 hr).mono ?_
  rintro u H5 ⟨ho,F5⟩
  have e5:=F5.next
  have F25:=F24.trans F5
  have r2':bc H5 H1.next _:=r2.same (F25.old _ om om)
  have fin:∀(xs:List aa),xs.length=4->xs.all aa.one=true->∃H6,bx 4 H5 (af H1.next 4 0) (.agg xs)=some H6/\bc H6 H1.next xs/\H6.next=H5.next/\∀c,c≠H1.next->H6.get c=H5.get c:=fun xs h1 h2=>aq r2' (n:=4) rfl h1 h2
  cases r with
  | error e=>
   obtain⟨xs,w',rfl,x1,⟨x2,x3⟩,r5⟩:=ho
   obtain⟨H6,m6,r6,n6,k6⟩:=fin xs x1 x2
   simp only[sA,sB,seval,bZ,bY,m6,ju,gP,g41,nB,jv,gI]
   refine (kw (c1.same (by rw[k6 _ om,F25.old _ om om])) (r5.same (k6 _ om)) om).mono ?_
   rintro _ H7 ⟨r7,n7,k7⟩
   have l7:=aD (r6.same (k7 _ om)) x1
   simp only[sA,sB,seval,l7,gw]
   exact⟨⟨xs,w',tt,x1,⟨x2,x3⟩,r7⟩,om,fun c hc hp=>by rw[k7 c hp,k6 c om,F25.old c om hp,F2.old c hc hp]⟩
  | ok p=>
   obtain⟨e,w'⟩:=p
   obtain⟨xs,rfl,x1,r5,o5⟩:=ho
   obtain⟨H6,m6,r6,n6,k6⟩:=fin xs x1.len x1.one
   simp only[sA,sB,seval,bZ,bY,m6,ju,gP,g41,nB,jv,gI]
   refine (kw (c1.same (by rw[k6 _ om,F25.old _ om om])) (r5.same (k6 _ om)) om).mono ?_
   rintro _ H7 ⟨r7,n7,k7⟩
   have l7:=aD (r6.same (k7 _ om)) x1.len
   simp only[sA,sB,seval,l7,gw]
   refine⟨⟨xs,tt,x1.mono fun b hb=>?_,r7,o5⟩,om,fun c hc hp=>by rw[k7 c hp,k6 c om,F25.old c om hp,F2.old c hc hp]⟩
   have h1:=hb.1
   have h2:=hb.2
   exact⟨⟨om,om⟩,by rw[k7 b om,k6 b om]⟩
 | true=>
  rw[if_pos hs]at hr
  have l2:am false 1 H4 (af pb 11 2)=some (.str w.S):=al A4.row rfl rfl
  simp only[sA,sB,seval,l4,aC,cz,l2]
  refine (bu A4.row A4.lt A4.en).mono ?_
  rintro u H5 ⟨ho,F5⟩
  have e5:=F5.next
  have F25:=F24.trans F5
  have l5:=l1 F25
  rcases cG hr with⟨e,he,rfl⟩ | ⟨w1,he,hr⟩
  ·rw[he]at ho
   obtain⟨rfl,r5⟩:=ho
   obtain⟨H6,m6,r6,n6,k6⟩:=aq (r2.same (F25.old _ om om)) (n:=4) rfl (xs:=[.int .u8 0,.str [],.int .i64 0,.slice none 0 (.known 0)]) rfl rfl
   simp only[sA,sB,seval,b0,m6,ju,gP,g41,nB,jv,gI]
   refine (kw (c1.same (by rw[k6 _ om,F25.old _ om om])) (r5.same (k6 _ om)) om).mono ?_
   rintro _ H7 ⟨r7,n7,k7⟩
   have l7:=aD (r6.same (k7 _ om)) (n:=4) rfl
   simp only[sA,sB,seval,l7,gw]
   exact⟨⟨_,w,tt,rfl,⟨rfl,rfl⟩,r7⟩,om,fun c hc hp=>by rw[k7 c hp,k6 c om,F25.old c om hp,F2.old c hc hp]⟩
  rw[he]at ho
  obtain⟨rfl,r5⟩:=ho
  have A5:=A4.fwd F5 r5 (aQ he A.ok (by rw[gG hs]; omega)).1 om
  simp only[sA,sB,seval,l5]
  have hc:∀{r':eD Ex},pE s f (.rule 0) (g+1) w1=some r'->an Tryd.prog aB 13 [af pb 11 0] H5 (Le pb s ((g+1:Nat)) x y orv H5 r'):=by
   intro r' h'
   have:=ihr H5 w1 (g+1) x y orv _ r' A5 rfl h'
   rw[CV,gd _ _ _ _ _ dD]at this
   exact this
  rcases ck hr with⟨e,he2,rfl⟩ | ⟨e1,w2,he2,hr⟩
  ·refine (hc he2).mono ?_
   rintro u H6 ⟨⟨xs,w',rfl,x1,⟨x2,_⟩,r6⟩,F6⟩
   have e6:=F6.next
   have F26:=F25.trans F6
   obtain⟨H7,m7,r7,n7,k7⟩:=aG H6 [.int .u8 0,.str [],.int .i64 0,.slice none 0 (.known 0)] (n:=4) rfl
   obtain⟨H8,m8,r8,n8,k8⟩:=aq r7 (n:=4) rfl x1 x2
   obtain⟨H9,m9,r9,n9,k9⟩:=aq (r2.same (H':=H8) (by rw[k8 _ om,k7 _ om,F26.old _ om om])) (n:=4) rfl (xs:=[.int .u8 0,.str [],.int .i64 0,.slice none 0 (.known 0)]) rfl rfl
   have e29:∀c,c<H2.next->c≠pb->c≠H1.next->H9.get c=H2.get c:=fun c h1 h2 h3=>by rw[k9 c h3,k8 c om,k7 c om,F26.old c h1 h2]
   simp only[sA,sB,seval,bZ,bY,m7,m8,b0,m9,ju,gP,g41,nB,jv,gI]
   refine (kw (c1.same (e29 _ om om om)) (r6.same (by rw[k9 _ om,k8 _ om,k7 _ om])) om).mono ?_
   rintro _ Ha ⟨ra,na,ka⟩
   have la:=aD (r9.same (ka _ om)) (n:=4) rfl
   simp only[sA,sB,seval,la,gw]
   exact⟨⟨_,w',tt,rfl,⟨rfl,rfl⟩,ra⟩,om,fun c hc hp=>by rw[ka c hp,e29 c om hp om,F2.old c hc hp]⟩
  simp only[bp,sJ]at hr
  subst hr
  refine (hc he2).mono ?_
  rintro u H6 ⟨⟨xs,rfl,x1,r6,o6⟩,F6⟩
  have e6:=F6.next
  have F26:=F25.trans F6
  obtain⟨H7,m7,r7,n7,k7⟩:=aG H6 [.int .u8 0,.str [],.int .i64 0,.slice none 0 (.known 0)] (n:=4) rfl
  obtain⟨H8,m8,r8,n8,k8⟩:=aq r7 (n:=4) rfl x1.len x1.one
  have l8:=aD r8 x1.len
  have bs:=vr (z:=[.int .u8 0,.str [],.int .i64 0,.slice none 0 (.known 0)]) (m:=4) H8 rfl x1.len
  have rP:bc (H8.push (.cells xs 0 false)) H8.next xs:=fY _ _
  obtain⟨H9,m9,r9,n9,k9⟩:=aq (H:=H8.push (.cells xs 0 false)) (r2.same (by rw[aE om,k8 _ om,k7 _ om,F26.old _ om om])) (n:=4) rfl (xs:=[.int .u8 3,.str w.S,.int .i64 0,pm H8 4]) rfl rfl
  rw[a8]at n9
  have k9':∀c,c<H8.next->c≠H1.next->H9.get c=H8.get c:=fun c h1 h2=>by rw[k9 c h2,aE h1]
  have e29:∀c,c<H2.next->c≠pb->c≠H1.next->H9.get c=H2.get c:=fun c h1 h2 h3=>by rw[k9' c om h3,k8 c om,k7 c om,F26.old c h1 h2]
  simp only[sA,sB,seval,bZ,bY,m7,m8,l8,bs,JK _ (pm H8 4) rfl,m9,ju,gP,g41,nB,jv,gI]
  refine (kw (c1.same (e29 _ om om om)) (r6.same (by rw[k9' _ om om,k8 _ om,k7 _ om])) om).mono ?_
  rintro _ Ha ⟨ra,na,ka⟩
  have la:=aD (r9.same (ka _ om)) (n:=4) rfl
  have rk:bc Ha H8.next xs:=rP.same (by rw[ka _ om,k9 _ om])
  simp only[sA,sB,seval,la,gw]
  refine⟨⟨_,tt,⟨pm H8 4,xs,rfl,.row rk x1.len rfl ⟨om,om⟩,.sing (x1.mono fun b hb=>?_)⟩,ra,o6⟩,om,fun c hc hp=>by rw[ka c hp,e29 c om hp om,F2.old c hc hp]⟩
  have h1:=hb.1
  have h2:=hb.2
  exact⟨⟨om,om⟩,by rw[ka b om,k9' b om om,k8 b om,k7 b om]⟩
open Go.Abs Go.Abs.S
theorem fi{T:bU}{H:ab}(g:Bool)(n i j:Nat)(K:aa->ab->Prop):fin [.cell g n i,.t j] K .ret T H=cS (am g n H (T i)) fun v=>K (.tuple [v,T j]) H:=by
 rw[Be]
 simp only[mL]
 cases am g n H (T i) with
 | none=>simp[cS]
 | some v=>simp only[aM]; rfl
theorem Nu(H:ab){xs ys:List aa}(hx:xs.length=4)(hy:ys.length=4):cA 2 [.int .u8 0,.str [],.int .i64 0,.slice none 0 (.known 0)] H [(0,4,.agg xs),(4,4,.agg ys)]=some (.slice (some ⟨H.next,8,0⟩) 2 (.known 2),H.push (.cells (xs++ys) 0 false)):=by
 match xs,hx with
 | [a,b,c,d],_=>
  match ys,hy with
  | [e,f,g,h],_=>rfl
theorem J3{n pb:Nat}{s:Bs}{f k:Nat}(hk:k+1<=5)(ihr:∀f',f'<=f->kJ n pb s f' k):kJ n pb s (f+1) (k+1):=by
 intro H w g x y orv v r A hv hr
 obtain⟨c0,c1,c2,c3,b,m,vb,rfl,R0,R1,R2,R3,Rb,hm,hc,hvb⟩:=id hv
 show mF _ _ _ _ _
 rw[gd _ _ _ _ _ dD]
 refine ak rfl Ng rfl ?_
 rw[fd]at hr
 simp only[bJ]at hr
 have hlt:=A.lt
 have hnn:=A.hn
 obtain⟨hc0,hp0⟩:=hc c0 (by simp)
 obtain⟨hc1,hp1⟩:=hc c1 (by simp)
 obtain⟨hc2,hp2⟩:=hc c2 (by simp)
 obtain⟨hc3,hp3⟩:=hc c3 (by simp)
 obtain⟨hcb,hpb'⟩:=hc b (by simp)
 obtain⟨H1,m1,r1,n1,k1⟩:=aG H [.int .u8 0,.str [],.int .i64 0,.slice none 0 (.known 0)] (n:=4) rfl
 have F1:Fp pb H H1:=⟨om,fun c hc _=>k1 c om⟩
 have A1:=A.fwd F1 (A.row.same (k1 pb om)) A.ok A.hg
 have l0:∀{K:ab},Fp pb H K->am false 1 K (af c0 1 0)=some vb:=fun q=>al (R0.same (q.old _ om hp0)) rfl rfl
 have l1:∀{K:ab},Fp pb H K->am false 1 K (af c1 1 0)=some (af pb 11 0):=fun q=>al (R1.same (q.old _ om hp1)) rfl rfl
 have l2:∀{K:ab},Fp pb H K->am false 1 K (af c2 1 0)=some (sd b m (.known m)):=fun q=>al (R2.same (q.old _ om hp2)) rfl rfl
 have l3:∀{K:ab},Fp pb H K->am false 1 K (af c3 1 0)=some (.bool (!Nat.beq (k+1) 3)):=fun q=>al (R3.same (q.old _ om hp3)) rfl rfl
 have lb:∀{K:ab},Fp pb H K->Ab K.next K (sd b m (.known m)) ((mt (k+1)).map aa.str):=fun q=>(Rb.same (q.old _ om hpb')).cel hm (by have:=q.next; omega)
 have hlv:(mt (k+1)).length<=1000:=by
  match k,hk with
  | 0,_ | 1,_ | 2,_ | 3,_ | 4,_=>decide
 have l01:=l0 F1
 have b0:=KR
 simp only[List.nil_append,Oj,List.append_nil,c20,sW,sL,iO,ic,nW,sB,seval,m1,l01]
 obtain⟨r0,hr0⟩:∃r0,pE s f (.rule k) g w=some r0:=by
  rcases ck hr with⟨e,he,rfl⟩ | ⟨e1,w2,he,_⟩
  ·exact⟨_,he⟩
  ·exact⟨_,he⟩
 refine (ihr f rL H1 w g x y orv vb r0 A1 (hvb.keep fun c h1 h2=>F1.old c om h2) hr0).mono ?_
 rintro u H2 ⟨ho,F2⟩
 have e2:=F2.next
 have start:∃xs ok,u=.tuple [.agg xs,.bool ok]/\xs.length=4/\xs.all aa.one=true:=by
  cases r0 with
  | error e=>obtain⟨xs,w',rfl,x1,⟨x2,_⟩,_⟩:=ho; exact⟨xs,false,rfl,x1,x2⟩
  | ok p=>obtain⟨e,w'⟩:=p; obtain⟨xs,rfl,x1,_⟩:=ho; exact⟨xs,true,rfl,x1.len,x1.one⟩
 obtain⟨xs,ok,rfl,x1,x2⟩:=start
 obtain⟨H3,m3,r3,n3,k3⟩:=aG H2 [.int .u8 0,.str [],.int .i64 0,.slice none 0 (.known 0)] (n:=4) rfl
 obtain⟨H4,m4,r4,n4,k4⟩:=aq r3 (n:=4) rfl x1 x2
 simp only[sW,sL,iO,ic,nW,sB,seval,bZ,bY,m3,m4]
 rw[fj]
 have k42:∀c,c<H2.next->H4.get c=H2.get c:=fun c hc=>by rw[k4 c om,k3 c om]
 have F4:Fp pb H H4:=⟨om,fun c hc hp=>by rw[k42 c om,F2.old c om hp,F1.old c hc hp]⟩
 have r14:bc H4 H.next _:=r1.same (by rw[k42 _ om,F2.old _ om om])
 refine oC (fun (T:bU) H'=>T 4=af H.next 4 0/\T 6=af H2.next 4 0/\bc H' H.next [.int .u8 0,.str [],.int .i64 0,.slice none 0 (.known 0)]/\Fp pb H H'/\H.next<H'.next/\((∃e w' xs,r=.ok (e,w')/\T 7=.bool true/\bc H' H2.next xs/\XE (In (H.next+1) H'.next) H' e xs/\bc H' pb (cj s w' g x y orv)/\nQ s w')∨∃e w',r=.error e/\T 7=.bool false/\bc H' pb (cj s w' g e.1 e.2 orv))) (d7 _ _) ?_ ?_
 rotate_left
 ·rintro T H5 ⟨t4,t6,q4,F5,lt5,⟨e,w',xs,rfl,t7,rx,hx,rp,hw⟩ | ⟨e,w',rfl,t7,rp⟩⟩
  ·have lx:=aD rx hx.len
   obtain⟨H6,m6,r6,n6,k6⟩:=aq q4 (n:=4) rfl hx.len hx.one
   have l6:=aD r6 hx.len
   simp only[sA,sB,seval,t4,t6,t7,lx,m6,fi,l6,aM]
   refine⟨⟨xs,tt,hx.mono fun c hc=>⟨⟨Nat.le_of_succ_le hc.1,by rw[n6]; exact hc.2⟩,k6 c (by have:=hc.1; omega)⟩,rp.same (k6 _ om),hw⟩,by rw[n6]; exact F5.next,fun c hc hp=>by rw[k6 c om,F5.old c hc hp]⟩
  ·obtain⟨H6,m6,r6,n6,k6⟩:=aq q4 (n:=4) rfl (xs:=[.int .u8 0,.str [],.int .i64 0,.slice none 0 (.known 0)]) rfl rfl
   have l6:=aD r6 (n:=4) rfl
   simp only[sA,sB,seval,t4,t6,t7,b0,m6,fi,l6,aM]
   exact⟨⟨_,w',tt,rfl,⟨rfl,rfl⟩,rp.same (k6 _ om)⟩,by rw[n6]; exact F5.next,fun c hc hp=>by rw[k6 c om,F5.old c hc hp]⟩
 refine bD (fun m' (T:bU) H'=>m'<=f/\T 0=af c0 1 0/\T 1=af c1 1 0/\T 2=af c2 1 0/\T 3=af c3 1 0/\T 4=af H.next 4 0/\T 6=af H2.next 4 0/\bc H' H.next [.int .u8 0,.str [],.int .i64 0,.slice none 0 (.known 0)]/\Fp pb H H'/\H2.next<H'.next/\((∃e w' xs,pE s m' (.loop (k+1) e) g w'=some r/\T 7=.bool true/\bc H' H2.next xs/\XE (fun c=>In (H.next+1) H'.next c/\c≠H2.next) H' e xs/\bc H' pb (cj s w' g x y orv)/\nQ s w')∨∃e w' xs,r=.error e/\T 7=.bool false/\bc H' H2.next xs/\bc H' pb (cj s w' g e.1 e.2 orv))) f ?_ ?_
 ·refine⟨Nat.le_refl _,by simp only[sA,sB,seval]; try rfl,by simp only[sA,sB,seval]; try rfl,by simp only[sA,sB,seval]; try rfl,by simp only[sA,sB,seval]; try rfl,by simp only[sA,sB,seval],by simp only[sA,sB,seval],r14,F4,om,?_⟩
  rcases ck hr with⟨e,he,rfl⟩ | ⟨e1,w2,he,hr'⟩
  ·rw[hr0]at he
   simp only[sJ]at he
   subst he
   obtain⟨xs',w',hu,_,_,rp⟩:=ho
   simp only[aa.tuple.injEq,List.cons.injEq,aa.agg.injEq,aa.bool.injEq,and_true]at hu
   obtain⟨rfl,rfl⟩:=hu
   exact .inr ⟨e,w',xs,rfl,by simp only[sA,sB,seval],r4,rp.same (k42 _ om)⟩
  ·rw[hr0]at he
   simp only[sJ]at he
   subst he
   obtain⟨xs',hu,hx,rp,hw⟩:=ho
   simp only[aa.tuple.injEq,List.cons.injEq,aa.agg.injEq,aa.bool.injEq,and_true]at hu
   obtain⟨rfl,rfl⟩:=hu
   refine .inl ⟨e1,w2,xs,hr',by simp only[sA,sB,seval],r4,hx.mono fun c hc=>?_,rp.same (k42 _ om),hw⟩
   have h1:=hc.1
   have h2:=hc.2
   exact⟨⟨⟨om,om⟩,om⟩,k42 c h2⟩
 rintro m' T H5 ⟨hm',t0,t1,t2,t3,t4,t6,q4,F5,lt5,⟨e,w',xs,hp,t7,rx,hx,rp,hw⟩ | ⟨e,w',xs,rfl,t7,rx,rp⟩⟩
 rotate_left
 ·simp only[sA,sB,seval,t7]
  exact⟨t4,t6,q4,F5,om,.inr ⟨e,w',rfl,tt,rp⟩⟩
 cases m' with
 | zero=>simp[pE]at hp
 | succ m'=>
 rw[fd]at hp
 simp only[bJ,Nat.add_sub_cancel]at hp
 have A5:=A.fwd F5 rp hw A.hg
 have l15:=l1 F5
 have l25:=l2 F5
 simp only[sA,sB,seval,t0,t1,t2,t3,t4,t6,t7,l15,l25]
 refine (fZ rp (lb F5) hlv).mono ?_
 rintro _ _ ⟨rfl,rfl⟩
 cases hs:dN w' (mt (k+1)) with
 | false=>
  rw[if_neg (by rw[hs]; simp)]at hp
  simp only[bp,sJ]at hp
  subst hp
  simp only[sA,sB,seval]
  exact⟨by simp only[sA,sB,seval,t4],by simp only[sA,sB,seval,t6],q4,F5,om,.inl ⟨e,w',xs,rfl,by simp only[sA,sB,seval,t7],rx,hx.mono fun c hc=>⟨hc.1,rfl⟩,rp,hw⟩⟩
 | true=>
 rw[if_pos hs]at hp
 have lS:am false 1 H5 (af pb 11 2)=some (.str w'.S):=al rp rfl rfl
 simp only[sA,sB,seval,t0,t1,t2,t3,t4,t6,t7,l15,aC,cz,lS]
 refine (bu rp A5.lt A5.en).mono ?_
 rintro u H6 ⟨h6,F6⟩
 have e6:=F6.next
 have F56:=F5.trans F6
 rcases cG hp with⟨e',he,rfl⟩ | ⟨w1,he,hp⟩
 ·rw[he]at h6
  obtain⟨rfl,r6⟩:=h6
  obtain⟨H7,m7,r7,n7,k7⟩:=aq (q4.same (F6.old _ om om)) (n:=4) rfl (xs:=[.int .u8 0,.str [],.int .i64 0,.slice none 0 (.known 0)]) rfl rfl
  have l7:=aD r7 (n:=4) rfl
  simp only[sA,sB,seval,t0,t1,t2,t3,t4,t6,t7,b0,m7,fi,l7,aM]
  exact⟨⟨_,w',tt,rfl,⟨rfl,rfl⟩,r6.same (k7 _ om)⟩,by have:=F5.next; omega,fun c hc hp=>by rw[k7 c om,F56.old c hc hp]⟩
 rw[he]at h6
 obtain⟨rfl,r6⟩:=h6
 obtain⟨hw1,-⟩:=aQ he hw (by rw[gG hs]; omega)
 obtain⟨H7,m7,r7,n7,k7⟩:=aG H6 [.int .u8 0,.str [],.int .i64 0,.slice none 0 (.known 0)] (n:=4) rfl
 have F7:Fp pb H H7:=⟨by have:=F56.next; omega,fun c hc hp=>by rw[k7 c (by have:=F56.next; omega),F56.old c hc hp]⟩
 have r67:=r6.same (k7 pb om)
 have A7:=A.fwd F7 r67 hw1 A.hg
 have l07:=l0 F7
 simp only[sA,sB,seval,t0,t1,t2,t3,t4,t6,t7,m7,l07]
 obtain⟨r2,hr2⟩:∃r2,pE s m' (.rule k) g w1=some r2:=by
  rcases ck hp with⟨e,he,rfl⟩ | ⟨e1,w2,he,_⟩
  ·exact⟨_,he⟩
  ·exact⟨_,he⟩
 refine (ihr m' om H7 w1 g x y orv vb r2 A7 (hvb.keep fun c h1 h2=>F7.old c om h2) hr2).mono ?_
 rintro u H8 ⟨h8,F8⟩
 have e8:=F8.next
 have F78:=F7.trans F8
 have start:∃ys ok,u=.tuple [.agg ys,.bool ok]/\ys.length=4/\ys.all aa.one=true:=by
  cases r2 with
  | error e=>obtain⟨xs,w',rfl,x1,⟨x2,_⟩,_⟩:=h8; exact⟨xs,false,rfl,x1,x2⟩
  | ok p=>obtain⟨e,w'⟩:=p; obtain⟨xs,rfl,x1,_⟩:=h8; exact⟨xs,true,rfl,x1.len,x1.one⟩
 obtain⟨ys,ok2,rfl,y1,y2⟩:=start
 obtain⟨H9,m9,r9,n9,k9⟩:=aq (r7.same (F8.old _ om om)) (n:=4) rfl y1 y2
 have l9:=aD r9 y1
 have k97:∀c,c<H6.next->c≠pb->H9.get c=H6.get c:=fun c h1 h2=>by rw[k9 c om,F8.old c om h2,k7 c om]
 have k95:∀c,c<H5.next->c≠pb->H9.get c=H5.get c:=fun c h1 h2=>by rw[k97 c om h2,F6.old c h1 h2]
 have rx9:=rx.same (k95 H2.next lt5 om)
 have lx9:=aD rx9 hx.len
 have bs:=Nu H9 hx.len y1
 have rP:bc (H9.push (.cells (xs++ys) 0 false)) H9.next (xs++ys):=fY _ _
 obtain⟨Ha,ma,ra,na,ka⟩:=aq (H:=H9.push (.cells (xs++ys) 0 false)) (rx9.same (aE om)) (n:=4) hx.len (xs:=[.int .u8 3,.str w'.S,.int .i64 0,.slice (some ⟨H9.next,8,0⟩) 2 (.known 2)]) rfl rfl
 rw[a8]at na
 have ka9:∀c,c<H9.next->c≠H2.next->Ha.get c=H9.get c:=fun c h1 h2=>by rw[ka c h2,aE h1]
 have Fa:Fp pb H Ha:=⟨by have:=F78.next; omega,fun c hc hp=>by rw[ka9 c (by have:=F78.next; omega) om,k9 c (by have:=F7.next; omega),F78.old c hc hp]⟩
 have l3a:=l3 Fa
 have q4a:bc Ha H.next _:=q4.same (by rw[ka9 _ om om,k95 _ om om])
 have hpa:Ha.get pb=H8.get pb:=by rw[ka9 _ om om,k9 _ om]
 simp only[sA,sB,seval,bZ,bY,t0,t1,t2,t3,t4,t6,t7,m9,lx9,l9,bs,JK w'.S (.slice (some ⟨H9.next,8,0⟩) 2 (.known 2)) rfl,ma,l3a]
 have eb:∀q:Ex×Wd,r2=.ok q->XE (fun c=>In (H.next+1) Ha.next c/\c≠H2.next) Ha (.mk 3 w'.S 0 [e,q.1]) [.int .u8 3,.str w'.S,.int .i64 0,.slice (some ⟨H9.next,8,0⟩) 2 (.known 2)]/\bc Ha pb (cj s q.2 g x y orv)/\nQ s q.2:=by
  rintro ⟨e2,w2⟩ rfl
  obtain⟨ys',hu,hy,rp2,hw2⟩:=h8
  simp only[aa.tuple.injEq,List.cons.injEq,aa.agg.injEq,aa.bool.injEq,and_true]at hu
  obtain⟨rfl,rfl⟩:=hu
  refine⟨⟨_,xs++ys,rfl,.row (rP.same (ka _ om)) (by rw[lA,hx.len,y1]) rfl ⟨⟨om,om⟩,om⟩,xs,ys,rfl,hx.mono fun c hc=>?_,.sing (hy.mono fun c hc=>?_)⟩,rp2.same hpa,hw2⟩
  ·have h1:=hc.1.1
   have h2:=hc.1.2
   exact⟨⟨⟨h1,om⟩,hc.2⟩,by rw[ka9 c om hc.2,k95 c h2 om]⟩
  ·have h1:=hc.1
   have h2:=hc.2
   exact⟨⟨⟨om,om⟩,om⟩,by rw[ka9 c om om,k9 c om]⟩
 cases hb3:Nat.beq (k+1) 3 with
 | false=>
  rw[hb3]at hp
  simp only[cond_false,Oc,if_false]at hp
  simp only[sA,sB,seval,Bool.not_false]
  refine⟨m',om,om,by simp only[sA,sB,seval,t0],by simp only[sA,sB,seval,t1],by simp only[sA,sB,seval,t2],by simp only[sA,sB,seval,t3],by simp only[sA,sB,seval,t4],by simp only[sA,sB,seval,t6],q4a,Fa,om,?_⟩
  rcases ck hp with⟨e',he',rfl⟩ | ⟨e1,w2,he',hp'⟩
  ·rw[hr2]at he'
   simp only[sJ]at he'
   subst he'
   obtain⟨ys',w2,hu,_,_,rp2⟩:=h8
   simp only[aa.tuple.injEq,List.cons.injEq,aa.agg.injEq,aa.bool.injEq,and_true]at hu
   obtain⟨rfl,rfl⟩:=hu
   exact .inr ⟨e',w2,_,rfl,by simp only[sA,sB,seval],ra,rp2.same hpa⟩
  ·rw[hr2]at he'
   simp only[sJ]at he'
   subst he'
   obtain⟨z1,z2,z3⟩:=eb _ rfl
   obtain⟨ys',hu,_⟩:=h8
   simp only[aa.tuple.injEq,List.cons.injEq,aa.agg.injEq,aa.bool.injEq,and_true]at hu
   obtain⟨rfl,rfl⟩:=hu
   exact .inl ⟨_,w2,_,hp',by simp only[sA,sB,seval],ra,z1,z2,z3⟩
 | true=>
  rw[hb3]at hp
  simp only[if_true]at hp
  simp only[sA,sB,seval,Bool.not_true]
  refine⟨by simp only[sA,sB,seval,t4],by simp only[sA,sB,seval,t6],q4a,Fa,om,?_⟩
  rcases ck hp with⟨e',he',rfl⟩ | ⟨e1,w2,he',hp'⟩
  ·rw[hr2]at he'
   simp only[sJ]at he'
   subst he'
   obtain⟨ys',w2,hu,_,_,rp2⟩:=h8
   simp only[aa.tuple.injEq,List.cons.injEq,aa.agg.injEq,aa.bool.injEq,and_true]at hu
   obtain⟨rfl,rfl⟩:=hu
   exact .inr ⟨e',w2,rfl,by simp only[sA,sB,seval],rp2.same hpa⟩
  ·rw[hr2]at he'
   simp only[sJ]at he'
   subst he'
   obtain⟨z1,z2,z3⟩:=eb _ rfl
   obtain⟨ys',hu,_⟩:=h8
   simp only[aa.tuple.injEq,List.cons.injEq,aa.agg.injEq,aa.bool.injEq,and_true]at hu
   obtain⟨rfl,rfl⟩:=hu
   simp only[bp,sJ]at hp'
   subst hp'
   exact .inl ⟨_,w2,_,rfl,by simp only[sA,sB,seval],ra,z1.mono fun c hc=>⟨hc.1,rfl⟩,z2,z3⟩
open Go.Abs Go.Abs.S
theorem kS{pb:Nat}{H:ab}(o:dt):Fp pb H (H.push o):=⟨by rw[a8]; omega,fun c hc _=>aE hc⟩
theorem PA.push{n pb:Nat}{s:Bs}{H:ab}{w:Wd}{g:Nat}{x y:Int}{orv:aa}(h:PA n pb s H w g x y orv)(o:dt):PA n pb s (H.push o) w g x y orv:=h.fwd (kS o) (h.row.same (aE h.lt)) h.ok h.hg
theorem PA.lor{n pb:Nat}{s:Bs}{H:ab}{w:Wd}{g:Nat}{x y:Int}{orv:aa}(h:PA n pb s H w g x y orv):am false 1 H (af pb 11 10)=some orv:=al h.row rfl rfl
theorem BL{n pb:Nat}{s:Bs}{f:Nat}(hf:f<=1000000)(ihr:∀f',f'<f->kJ n pb s f' 5):GX n pb s f:=by
 intro S H w g x y orv r A hs hr
 refine ak rfl MZ rfl ?_
 have hlt:=A.lt
 have t1:cJ s [40] w=aZ s w:=by unfold cJ; rw[if_pos hs]
 simp only[c39,sA,sB,seval]
 refine (dB A.row hlt A.en [40]).mono ?_
 rintro u H1 ⟨ho,F1⟩
 rw[t1]at ho
 have e1:=F1.next
 unfold JM at hr
 rcases cG hr with⟨e,he,rfl⟩ | ⟨w1,he,hr⟩
 ·rw[he]at ho
  obtain⟨rfl,r1⟩:=ho
  simp only[sA,sB,seval]
  exact⟨⟨_,w,tt,⟨rfl,rfl⟩,r1⟩,F1⟩
 rw[he]at ho
 obtain⟨rfl,r1⟩:=ho
 have hw1:=(aQ he A.ok (by rw[gG hs]; omega)).1
 have A1:=A.fwd F1 r1 hw1 A.hg
 have bs:=iK (.str []) H1 (x:=.str [41]) rfl
 have A2:=A1.push (.cells [.str [41]] 0 false)
 have F2:Fp pb H (H1.push (.cells [.str [41]] 0 false)):=F1.trans (kS _)
 simp only[sA,sB,seval,bs]
 refine (fZ A2.row (kT H1 [41]) (by simp)).mono ?_
 rintro _ _ ⟨rfl,rfl⟩
 generalize H1.push (.cells [.str [41]] 0 false)=H2 at *
 cases hs2:dN w1 [[41]] with
 | true=>
  rw[if_pos hs2]at hr
  simp only[sA,sB,seval]
  refine (bu A2.row A2.lt A2.en).mono ?_
  rintro u H3 ⟨ho,F3⟩
  rcases cG hr with⟨e,he,rfl⟩ | ⟨w2,he,hr⟩
  ·rw[he]at ho
   obtain⟨rfl,r3⟩:=ho
   simp only[sA,sB,seval]
   exact⟨⟨_,w1,tt,⟨rfl,rfl⟩,r3⟩,F2.trans F3⟩
  ·rw[he]at ho
   obtain⟨rfl,r3⟩:=ho
   simp only[bp,sJ]at hr
   subst hr
   simp only[sA,sB,seval]
   exact⟨⟨[],cp,[],rfl,tt,.nil _ _ _,rfl,r3,(aQ he hw1 (by rw[gG hs2]; omega)).1⟩,F2.trans F3⟩
 | false=>
 rw[if_neg (by rw[hs2]; simp)]at hr
 have e2:=F2.next
 simp only[sA,sB,seval]
 refine bD (fun m (T:bU) H'=>∃out w' v,T 0=af pb 11 0/\T 4=v/\GE H.next H' v out/\out.length+m<=f/\PA n pb s H' w' g x y orv/\Fp pb H H'/\pE s m (.args S out) g w'=some r) f
  ⟨[],w1,cp,by simp only[sA,sB,seval],by simp only[sA,sB,seval]; rfl,GE.nil _ _,by simp,A2,F2,hr⟩ ?_
 rintro m T H3 ⟨out,w',v,t0,t4,G3,hm,A3,F3,hp⟩
 cases m with
 | zero=>simp[pE]at hp
 | succ m=>
 rw[fd]at hp
 simp only[bJ]at hp
 have l3:=A3.lor
 simp only[sA,sB,seval,t0,t4,aC,cz,l3]
 obtain⟨r0,hr0⟩:∃r0,pE s m (.rule 5) g w'=some r0:=by
  rcases ck hp with⟨e,he,rfl⟩ | ⟨e1,w2,he,_⟩
  ·exact⟨_,he⟩
  ·exact⟨_,he⟩
 have e3:=F3.next
 refine (ihr m om H3 w' g x y orv orv r0 A3 A3.or hr0).mono ?_
 rintro u H4 ⟨ho,F4⟩
 have e4:=F4.next
 have F34:=F3.trans F4
 rcases ck hp with⟨e,he,rfl⟩ | ⟨e1,w2,he,hp⟩
 ·rw[hr0]at he
  simp only[sJ]at he
  subst he
  obtain⟨xs,w2,rfl,x1,⟨x2,_⟩,r4⟩:=ho
  obtain⟨H5,m5,r5,n5,k5⟩:=aG H4 [.int .u8 0,.str [],.int .i64 0,.slice none 0 (.known 0)] (n:=4) rfl
  obtain⟨H6,m6,r6,n6,k6⟩:=aq r5 (n:=4) rfl x1 x2
  have k64:∀c,c<H4.next->H6.get c=H4.get c:=fun c hc=>by rw[k6 c om,k5 c om]
  simp only[sA,sB,seval,bZ,bY,m5,m6]
  exact⟨⟨_,w2,tt,⟨rfl,rfl⟩,r4.same (k64 _ om)⟩,om,fun c hc hp=>by rw[k64 c om,F34.old c hc hp]⟩
 rw[hr0]at he
 simp only[sJ]at he
 subst he
 obtain⟨xs,rfl,hx,r4,hw2⟩:=ho
 obtain⟨H5,m5,r5,n5,k5⟩:=aG H4 [.int .u8 0,.str [],.int .i64 0,.slice none 0 (.known 0)] (n:=4) rfl
 obtain⟨H6,m6,r6,n6,k6⟩:=aq r5 (n:=4) rfl hx.len hx.one
 have l6:=aD r6 hx.len
 have k64:∀c,c<H4.next->H6.get c=H4.get c:=fun c hc=>by rw[k6 c om,k5 c om]
 have F46:Fp pb H4 H6:=⟨om,fun c hc _=>k64 c hc⟩
 have F36:=F34.trans F46
 have bm:=vr (z:=[.int .u8 0,.str [],.int .i64 0,.slice none 0 (.known 0)]) (m:=4) H6 rfl hx.len
 have G6:GE H.next H6 v out:=G3.keep om fun c hc=>by
  have h1:=hc.1
  have h2:=hc.2
  rw[k64 c om,F4.old c h2 om]
 have hx6:XE (In H3.next H6.next) H6 e1 xs:=hx.mono fun c hc=>⟨⟨hc.1,by have:=hc.2; omega⟩,k64 c hc.2⟩
 have hb3:fx v (·<H3.next):=by
  obtain⟨C,_,q,_⟩:=G3
  exact q.mono fun c hc=>hc.2
 obtain⟨v',H7,a7,G7,n7,k7⟩:=G6.push hx6 e3 om hb3 om (bytes:=56) om om
 have hvp:fx v (pb≠·):=by
  obtain⟨C,_,q,_⟩:=G3
  exact q.mono fun c hc=>by have:=hc.1; omega
 have F67:Fp pb H H7:=⟨om,fun c hc hp=>by
  rw[k7 c om (by
   obtain⟨C,_,q,_⟩:=G3
   exact q.mono fun d hd=>by have:=hd.1; omega),F36.old c hc hp]⟩
 have r7:bc H7 pb (cj s w2 g x y orv):=r4.same (by rw[k7 pb om hvp,k64 pb om])
 have A7:=A.fwd F67 r7 hw2 A.hg
 have bs7:=iK (.str []) H7 (x:=.str [44]) rfl
 have A8:=A7.push (.cells [.str [44]] 0 false)
 have F8:Fp pb H (H7.push (.cells [.str [44]] 0 false)):=F67.trans (kS _)
 have G8:GE H.next (H7.push (.cells [.str [44]] 0 false)) v' (out++[e1]):=G7.keep (by rw[a8]; omega) fun c hc=>aE hc.2
 simp only[sA,sB,seval,bZ,bY,t0,t4,m5,m6,l6,bm,a7,bs7]
 refine (fZ A8.row (kT H7 [44]) (by simp)).mono ?_
 rintro _ _ ⟨rfl,rfl⟩
 have e8:=F8.next
 generalize H7.push (.cells [.str [44]] 0 false)=H8 at *
 cases hs3:dN w2 [[44]] with
 | false=>
  rw[if_neg (by rw[hs3]; simp)]at hp
  simp only[sA,sB,seval,t0]
  refine (dB A8.row A8.lt A8.en [41]).mono ?_
  rintro u H9 ⟨ho,F9⟩
  rcases cG hp with⟨e,he,rfl⟩ | ⟨w3,he,hp⟩
  ·rw[he]at ho
   obtain⟨rfl,r9⟩:=ho
   obtain⟨C,q1,_⟩:=G8.sl
   simp only[sA,sB,seval]
   exact⟨⟨_,w2,tt,⟨q1.one,q1.aeq⟩,r9⟩,F8.trans F9⟩
  ·rw[he]at ho
   obtain⟨rfl,r9⟩:=ho
   simp only[bp,sJ]at hp
   subst hp
   have G9:=G8.keep F9.next fun c hc=>F9.old c hc.2 (by have:=hc.1; omega)
   obtain⟨C,q1,q2⟩:=G9.sl
   simp only[sA,sB,seval]
   exact⟨⟨_,v',C,rfl,tt,q1,q2,r9,(cy he hw2).2.2.1⟩,F8.trans F9⟩
 | true=>
  rw[if_pos hs3]at hp
  simp only[sA,sB,seval,t0]
  refine (bu A8.row A8.lt A8.en).mono ?_
  rintro u H9 ⟨ho,F9⟩
  rcases cG hp with⟨e,he,rfl⟩ | ⟨w3,he,hp⟩
  ·rw[he]at ho
   obtain⟨rfl,r9⟩:=ho
   simp only[sA,sB,seval]
   exact⟨⟨_,w2,tt,⟨rfl,rfl⟩,r9⟩,F8.trans F9⟩
  ·rw[he]at ho
   obtain⟨rfl,r9⟩:=ho
   have G9:=G8.keep F9.next fun c hc=>F9.old c hc.2 (by have:=hc.1; omega)
   simp only[sA,sB,seval]
   exact⟨m,om,out++[e1],w3,v',by simp only[sA,sB,seval,t0],by simp only[sA,sB,seval],G9,by simp; omega,A8.fwd F9 r9 (aQ he hw2 (by rw[gG hs3]; omega)).1 A.hg,F8.trans F9,hp⟩
open Go.Abs Go.Abs.S
theorem KQ(n:aa)(hn:n.one=true):bT [.int .u8 0,.str [],.int .i64 0,.slice none 0 (.known 0)] [(0,1,.int .u8 1),(2,1,n)]=some (.agg [.int .u8 1,.str [],n,.slice none 0 (.known 0)]):=by
 cases n <;> first | rfl | (simp[aa.one]at hn)
theorem II(S:Bs):bT [.int .u8 0,.str [],.int .i64 0,.slice none 0 (.known 0)] [(0,1,.int .u8 2),(1,1,.str S)]=some (.agg [.int .u8 2,.str S,.int .i64 0,.slice none 0 (.known 0)]):=_root_.id rfl
theorem Bv(S:Bs)(v:aa)(hv:v.one=true):bT [.int .u8 0,.str [],.int .i64 0,.slice none 0 (.known 0)] [(0,1,.int .u8 4),(1,1,.str S),(3,1,v)]=some (.agg [.int .u8 4,.str S,.int .i64 0,v]):=by
 cases v <;> first | rfl | (simp[aa.one]at hv)
theorem Kj(k:Int)(S:Bs)(n:Int){v:aa}(h:v.one=true):([.int .u8 k,.str S,.int .i64 n,v]:List aa).all aa.one=true:=by
 simp only[List.all_cons,List.all_nil,h]; rfl
theorem L5(k:Int)(S:Bs)(n:Int){v:aa}(h:aeq v v=true):aeqs [.int .u8 k,.str S,.int .i64 n,v] [.int .u8 k,.str S,.int .i64 n,v]=true:=by
 simp only[aeqs,lD,pH,h,Bool.and_self]
theorem Ac(P:Nat->Prop)(H:ab)(k:Nat)(S:Bs)(n:Int):XE P H (.mk k S n []) [.int .u8 (k:Int),.str S,.int .i64 n,.slice none 0 (.known 0)]:=⟨cp,[],rfl,.nil _ _ _,rfl⟩
theorem HO{n pb:Nat}{s:Bs}{f:Nat}(ihr:kJ n pb s f 5)(iha:GX n pb s f):GR n pb s (f+1):=by
 intro H w g x y orv r A hr
 rw[fd]at hr
 simp only[bJ]at hr
 refine ak rfl Nd rfl ?_
 have hlt:=A.lt
 obtain⟨H1,m1,r1,n1,k1⟩:=aG H [.int .u8 0,.str [],.int .i64 0,.slice none 0 (.known 0)] (n:=4) rfl
 obtain⟨H2,m2,r2,n2,k2⟩:=aG H1 [.int .u8 0,.str [],.int .i64 0,.int .i64 0,.int .i64 0,.int .i64 0] (n:=6) rfl
 obtain⟨H3,m3,r3,n3,k3⟩:=aq r2 (n:=6) rfl (xs:=kM w.k w.S w.n w.line w.at_ w.en) rfl rfl
 have lw:am true 6 H1 (af pb 11 1)=some (.agg (kM w.k w.S w.n w.line w.at_ w.en)):=iS (A.row.same (k1 pb om)) (n:=11) rfl (i:=1) (k:=6) om
 have F3:Fp pb H H3:=⟨om,fun c hc _=>by rw[k3 c om,k2 c om,k1 c om]⟩
 have A3:=A.fwd F3 (A.row.same (by rw[k3 pb om,k2 pb om,k1 pb om])) A.ok A.hg
 have q1:bc H3 H.next _:=r1.same (by rw[k3 _ om,k2 _ om])
 have f0:∀{K:ab},Fp pb H3 K->am false 1 K (af H1.next 6 0)=some (.int .u8 (w.k:Int)):=fun q=>al (r3.same (q.old _ om om)) rfl rfl
 have f1:∀{K:ab},Fp pb H3 K->am false 1 K (af H1.next 6 1)=some (.str w.S):=fun q=>al (r3.same (q.old _ om om)) rfl rfl
 have f2:∀{K:ab},Fp pb H3 K->am false 1 K (af H1.next 6 2)=some (.int .i64 (w.n:Int)):=fun q=>al (r3.same (q.old _ om om)) rfl rfl
 have b0:=KR
 have f03:=f0 (Fp.refl pb H3)
 have f23:=f2 (Fp.refl pb H3)
 have fin:∀{K:ab},Fp pb H3 K->∀(xs:List aa),xs.length=4->xs.all aa.one=true->∃K',bx 4 K (af H.next 4 0) (.agg xs)=some K'/\am true 4 K' (af H.next 4 0)=some (.agg xs)/\K'.next=K.next/\(∀c,c≠H.next->K'.get c=K.get c)/\Fp pb H K':=by
  intro K q xs h1 h2
  obtain⟨K',a1,a2,a3,a4⟩:=aq (q1.same (q.old _ om om)) (n:=4) rfl h1 h2
  exact⟨K',a1,aD a2 h1,a3,a4,by have:=q.next; omega,fun c hc hp=>by rw[a4 c om,q.old c om hp,F3.old c hc hp]⟩
 simp only[c24,sA,sB,seval,m1,aC,cz,fld0,lw,m2,m3,f03]
 by_cases c1:w.k=1
 ·have c1':(w.k:Int)=1:=om
  rw[if_pos c1]at hr
  simp only[sA,sB,seval,c1']
  refine jh rfl ?_
  simp only[sR,sA,sB,seval,cz,fld0,f23,KQ (.int .i64 (w.n:Int)) rfl]
  refine (bu A3.row A3.lt A3.en).mono ?_
  rintro u H4 ⟨ho,F4⟩
  have f24:=f2 F4
  obtain⟨H5,m5,l5,n5,k5,F5⟩:=fin F4 [.int .u8 1,.str [],.int .i64 (w.n:Int),.slice none 0 (.known 0)] rfl rfl
  have hp5:H5.get pb=H4.get pb:=k5 pb om
  simp only[sR,sA,sB,seval,m5]
  simp only[fN,fO,ez,fP,iJ,and_true,true_and,List.map_cons,List.map_nil,sA,sB,seval,cz,fld0]
  refine⟨⟨_,rfl,fun _=>⟨_,f24,lD _ _⟩⟩,?_⟩
  rcases cG hr with⟨e,he,rfl⟩ | ⟨w1,he,hr⟩
  ·rw[he]at ho
   obtain⟨rfl,r4⟩:=ho
   simp only[sA,sB,seval,fi,l5,aM]
   exact⟨⟨_,w,tt,rfl,⟨rfl,by simp[aeqs,lD,pH]; rfl⟩,r4.same hp5⟩,F5⟩
  ·rw[he]at ho
   obtain⟨rfl,r4⟩:=ho
   simp only[bp,sJ]at hr
   subst hr
   simp only[sA,sB,seval,fi,l5,aM]
   exact⟨⟨_,tt,Ac _ _ 1 [] (w.n:Int),r4.same hp5,(aQ he A.ok om).1⟩,F5⟩
 have c1':¬(w.k:Int)=1:=om
 rw[if_neg c1]at hr
 by_cases c2:w.k=2
 ·have c2':(w.k:Int)=2:=om
  rw[if_pos c2]at hr
  simp only[sA,sB,seval,c1',c2',fld0,f03]
  refine (bu A3.row A3.lt A3.en).mono ?_
  rintro u H4 ⟨ho,F4⟩
  rcases cG hr with⟨e,he,rfl⟩ | ⟨w1,he,hr⟩
  ·rw[he]at ho
   obtain⟨rfl,r4⟩:=ho
   obtain⟨H5,m5,l5,n5,k5,F5⟩:=fin F4 [.int .u8 0,.str [],.int .i64 0,.slice none 0 (.known 0)] rfl rfl
   simp only[sA,sB,seval,b0,m5,fi,l5,aM]
   exact⟨⟨_,w,tt,rfl,⟨rfl,rfl⟩,r4.same (k5 pb om)⟩,F5⟩
  rw[he]at ho
  obtain⟨rfl,r4⟩:=ho
  have hw1:=(aQ he A.ok om).1
  have A4:=A3.fwd F4 r4 hw1 A.hg
  have bs:=iK (.str []) H4 (x:=.str [40]) rfl
  have A5:=A4.push (.cells [.str [40]] 0 false)
  have F5:Fp pb H3 (H4.push (.cells [.str [40]] 0 false)):=F4.trans (kS _)
  simp only[sA,sB,seval,bs]
  refine (fZ A5.row (kT H4 [40]) (by simp)).mono ?_
  rintro _ _ ⟨rfl,rfl⟩
  generalize H4.push (.cells [.str [40]] 0 false)=H5 at *
  have f15:=f1 F5
  cases hs:dN w1 [[40]] with
  | false=>
   rw[if_neg (by rw[hs]; simp)]at hr
   simp only[bp,sJ]at hr
   subst hr
   obtain⟨H6,m6,l6,n6,k6,F6⟩:=fin F5 [.int .u8 2,.str w.S,.int .i64 0,.slice none 0 (.known 0)] rfl rfl
   simp only[sA,sB,seval,cz,f15,II,m6,fi,l6,aM]
   exact⟨⟨_,tt,Ac _ _ 2 w.S 0,A5.row.same (k6 pb om),hw1⟩,F6⟩
  | true=>
   rw[if_pos hs]at hr
   simp only[sA,sB,seval]
   refine (iha w.S H5 w1 g x y orv r A5 hs hr).mono ?_
   rintro u H6 ⟨ho,F6⟩
   have F56:=F5.trans F6
   have f16:=f1 F56
   cases r with
   | error e=>
    obtain⟨v,w',rfl,⟨v1,v2⟩,r6⟩:=ho
    obtain⟨H7,m7,l7,n7,k7,F7⟩:=fin F56 [.int .u8 4,.str w.S,.int .i64 0,v] rfl (Kj _ _ _ v1)
    simp only[sA,sB,seval,bZ,bY,cz,f16,Bv w.S v v1,m7,fi,l7,aM]
    exact⟨⟨_,w',tt,rfl,⟨Kj _ _ _ v1,L5 _ _ _ v2⟩,r6.same (k7 pb om)⟩,F7⟩
   | ok p=>
    obtain⟨e,w'⟩:=p
    obtain⟨kids,v,C,rfl,rfl,z1,z2,r6,o6⟩:=ho
    obtain⟨H7,m7,l7,n7,k7,F7⟩:=fin F56 [.int .u8 4,.str w.S,.int .i64 0,v] rfl (Kj _ _ _ z1.one)
    simp only[sA,sB,seval,bZ,bY,cz,f16,Bv w.S v z1.one,m7,fi,l7,aM]
    have e5:=F5.next
    have km:∀b,In H5.next H6.next b->In H.next H7.next b/\H7.get b=H6.get b:=fun b hb=>⟨⟨by have:=hb.1; omega,by have:=hb.2; omega⟩,k7 b (by have:=hb.1; omega)⟩
    exact⟨⟨_,tt,⟨v,C,rfl,z1.mono km,z2.mono km⟩,r6.same (k7 pb om),o6⟩,F7⟩
 have c2':¬(w.k:Int)=2:=om
 rw[if_neg c2]at hr
 have bs:=iK (.str []) H3 (x:=.str [40]) rfl
 have A5:=A3.push (.cells [.str [40]] 0 false)
 have F5:Fp pb H3 (H3.push (.cells [.str [40]] 0 false)):=kS _
 simp only[sA,sB,seval,c1',c2',fld0,f03,bs]
 refine (fZ A5.row (kT H3 [40]) (by simp)).mono ?_
 rintro _ _ ⟨rfl,rfl⟩
 generalize H3.push (.cells [.str [40]] 0 false)=H5 at *
 have e5:=F5.next
 cases hs:dN w [[40]] with
 | false=>
  rw[if_neg (by rw[hs]; simp)]at hr
  simp only[mG,sJ]at hr
  subst hr
  simp only[sA,sB,seval,b0]
  refine (gH A5.row 101).mono ?_
  rintro _ H6 ⟨rfl,r6,F6⟩
  obtain⟨H7,m7,l7,n7,k7,F7⟩:=fin (F5.trans F6) [.int .u8 0,.str [],.int .i64 0,.slice none 0 (.known 0)] rfl rfl
  simp only[sA,sB,seval,m7,fi,l7,aM]
  exact⟨⟨_,w,tt,rfl,⟨rfl,rfl⟩,r6.same (k7 pb om)⟩,F7⟩
 | true=>
  rw[if_pos hs]at hr
  simp only[sA,sB,seval]
  refine (bu A5.row A5.lt A5.en).mono ?_
  rintro u H6 ⟨ho,F6⟩
  have F56:=F5.trans F6
  rcases cG hr with⟨e,he,rfl⟩ | ⟨w1,he,hr⟩
  ·rw[he]at ho
   obtain⟨rfl,r6⟩:=ho
   obtain⟨H7,m7,l7,n7,k7,F7⟩:=fin F56 [.int .u8 0,.str [],.int .i64 0,.slice none 0 (.known 0)] rfl rfl
   simp only[sA,sB,seval,b0,m7,fi,l7,aM]
   exact⟨⟨_,w,tt,rfl,⟨rfl,rfl⟩,r6.same (k7 pb om)⟩,F7⟩
  rw[he]at ho
  obtain⟨rfl,r6⟩:=ho
  have hw1:=(aQ he A.ok (by rw[gG hs]; omega)).1
  have A6:=A5.fwd F6 r6 hw1 A.hg
  have lo:=A6.lor
  have e6:=F6.next
  simp only[sA,sB,seval,aC,cz,lo]
  obtain⟨r0,hr0⟩:∃r0,pE s f (.rule 5) g w1=some r0:=by
   rcases ck hr with⟨e,he,rfl⟩ | ⟨e1,w2,he,_⟩
   ·exact⟨_,he⟩
   ·exact⟨_,he⟩
  refine (ihr H6 w1 g x y orv orv r0 A6 A6.or hr0).mono ?_
  rintro u H7 ⟨ho,F7⟩
  have e7:=F7.next
  have F57:=F56.trans F7
  have start:∃xs ok,u=.tuple [.agg xs,.bool ok]/\xs.length=4/\xs.all aa.one=true/\aeqs xs xs=true:=by
   cases r0 with
   | error e=>obtain⟨xs,w',rfl,x1,⟨x2,x3⟩,_⟩:=ho; exact⟨xs,false,rfl,x1,x2,x3⟩
   | ok p=>obtain⟨e,w'⟩:=p; obtain⟨xs,rfl,x1,_⟩:=ho; exact⟨xs,true,rfl,x1.len,x1.one,x1.aeqs⟩
  obtain⟨xs,ok,rfl,x1,x2,x3⟩:=start
  obtain⟨H8,m8,r8,n8,k8⟩:=aG H7 [.int .u8 0,.str [],.int .i64 0,.slice none 0 (.known 0)] (n:=4) rfl
  obtain⟨H9,m9,r9,n9,k9⟩:=aq r8 (n:=4) rfl x1 x2
  have l9:=aD r9 x1
  have k97:∀c,c<H7.next->H9.get c=H7.get c:=fun c hc=>by rw[k9 c om,k8 c om]
  have F79:Fp pb H7 H9:=⟨om,fun c hc _=>k97 c hc⟩
  have F39:=F57.trans F79
  simp only[sA,sB,seval,bZ,bY,m8,m9]
  rcases ck hr with⟨e,he',rfl⟩ | ⟨e1,w2,he',hr⟩
  ·rw[hr0]at he'
   simp only[sJ]at he'
   subst he'
   obtain⟨xs',w2,hu,_,_,r7⟩:=ho
   simp only[aa.tuple.injEq,List.cons.injEq,aa.agg.injEq,aa.bool.injEq,and_true]at hu
   obtain⟨rfl,rfl⟩:=hu
   obtain⟨Ha,ma,la,na,ka,Fa⟩:=fin F39 xs x1 x2
   refine jh rfl ?_
   simp only[sR,sA,sB,seval,l9,ma]
   simp only[fN,fO,ez,fP,iJ,and_true,true_and,List.map_cons,List.map_nil,sA,sB,seval]
   refine⟨⟨_,rfl,fun _=>⟨_,l9,by simpa[aeq] using x3⟩⟩,?_⟩
   simp only[sA,sB,seval,fi,la,aM]
   exact⟨⟨xs,w2,tt,x1,⟨x2,x3⟩,r7.same (by rw[ka pb om,k97 pb om])⟩,Fa⟩
  rw[hr0]at he'
  simp only[sJ]at he'
  subst he'
  obtain⟨xs',hu,hx,r7,o7⟩:=ho
  simp only[aa.tuple.injEq,List.cons.injEq,aa.agg.injEq,aa.bool.injEq,and_true]at hu
  obtain⟨rfl,rfl⟩:=hu
  have A9:=A6.fwd (F7.trans F79) (r7.same (k97 pb om)) o7 A.hg
  refine jh rfl ?_
  simp only[sR,sA,sB,seval,l9]
  refine (dB A9.row A9.lt A9.en [41]).mono ?_
  rintro u Ha ⟨ho,Fa⟩
  have ea:=Fa.next
  have la:=aD (r9.same (Fa.old _ om om)) x1
  obtain⟨Hb,mb,lb,nb,kb,Fb⟩:=fin (F39.trans Fa) xs x1 x2
  rcases cG hr with⟨e,he,rfl⟩ | ⟨w3,he,hr⟩
  ·rw[he]at ho
   obtain⟨rfl,ra⟩:=ho
   simp only[sR,sA,sB,seval,mb]
   simp only[fN,fO,ez,fP,iJ,and_true,true_and,List.map_cons,List.map_nil,sA,sB,seval]
   refine⟨⟨_,rfl,fun _=>⟨_,la,by simpa[aeq] using x3⟩⟩,?_⟩
   simp only[sA,sB,seval,fi,lb,aM]
   exact⟨⟨xs,w2,tt,x1,⟨x2,x3⟩,ra.same (kb pb om)⟩,Fb⟩
  ·rw[he]at ho
   obtain⟨rfl,ra⟩:=ho
   simp only[bp,sJ]at hr
   subst hr
   simp only[sR,sA,sB,seval,mb]
   simp only[fN,fO,ez,fP,iJ,and_true,true_and,List.map_cons,List.map_nil,sA,sB,seval]
   refine⟨⟨_,rfl,fun _=>⟨_,la,by simpa[aeq] using x3⟩⟩,?_⟩
   simp only[sA,sB,seval,fi,lb,aM]
   refine⟨⟨xs,tt,hx.mono fun c hc=>?_,ra.same (kb pb om),(cy he o7).2.2.1⟩,Fb⟩
   have h1:=hc.1
   have h2:=hc.2
   exact⟨⟨om,om⟩,by rw[kb c om,Fa.old c om om,k97 c h2]⟩
structure NZ(n pb:Nat)(s:Bs)(f:Nat):Prop where
 rule:∀k,k<=5->kJ n pb s f k
 prim:GR n pb s f
 args:GX n pb s f
theorem Gz(n pb:Nat)(s:Bs):∀(f:Nat),f<=1000000->∀f',f'<=f->NZ n pb s f'
 | 0,_,f',h=>by
  obtain rfl:f'=0:=om
  exact⟨fun k _ H w g x y orv v r _ _ hr=>by simp[pE]at hr,fun H w g x y orv r _ hr=>by simp[pE]at hr,BL om fun f' h=>absurd h (Nat.not_lt_zero _)⟩
 | f+1,hf,f',h=>by
  have ih:=Gz n pb s f om
  by_cases he:f'<=f
  ·exact ih f' he
  obtain rfl:f'=f+1:=om
  refine⟨fun k hk=>?_,HO ((ih f rL).rule 5 om) (ih f rL).args,BL hf fun f' h=>(ih f' om).rule 5 om⟩
  cases k with
  | zero=>exact Dw ((ih f rL).rule 0 om) (ih f rL).prim
  | succ k=>exact J3 hk fun f' h=>(ih f' h).rule k om
open Go.Abs Go.Abs.S
abbrev Z9:List aa:=[.int .u8 0,.str [],.int .u8 0,.str [],.int .i64 0,.slice none 0 (.known 0),.slice none 0 (.known 0),.slice none 0 (.known 0),.int .i64 0]
theorem GS.pushZ{n m:Nat}{H:ab}{v:aa}{l:List St}(h:GS n H v l){e:St}{xs:List aa}(hx:XS (In m H.next) H e xs)(hm:n<=m)(hn:n<=H.next)(hv:fx v (·<m))(hl:l.length<=1000000) :
  ∃v' H1 H' b lim,bI 9 136 (H.push (.cells Z9 0 false)) v (pm H 9)=some (v',H1)/\eB 9 v' (.int .i64 (l.length:Int))=some (af b lim (l.length*9))/\bx 9 H1 (af b lim (l.length*9)) (.agg xs)=some H'/\v'.one=true/\GS n H' v' (l++[e])/\n<=b/\H.next<=H1.next/\H1.next=H'.next/\(∀c,c<H.next->fx v (c≠·)->H1.get c=H.get c)/\(∀c,c<H.next->fx v (c≠·)->c≠b)/\∀c,c<H.next->fx v (c≠·)->H'.get c=H.get c:=by
 obtain⟨C,h1,h2,h3⟩:=h
 have hlC:C.length=9*l.length:=h3.len
 obtain⟨v',H1,a1,a2,a3,a4,a5⟩:=h1.pushB (xs:=Z9) rfl rfl om (bytes:=136) om om
 have hb2:=a4 _ h2
 have hb3:=fun c (hc:fx v (c≠·))=>a4 _ hc
 rcases a2 with⟨_,_,hk⟩ | ⟨b,low,rfl,q2,q3,q4,q5,q6,q7⟩
 ·omega
 have hbn:n<=b:=by
  rcases hb2 _ _ _ rfl with hb | hb
  ·exact hb.1
  ·exact Nat.le_trans hn hb
 have hR:bc H1 b (C++Z9):=⟨low,q5,q6⟩
 have hlz:(C++Z9).length=C.length+9:=by simp
 obtain⟨H',m1,r1,n1,k1⟩:=mZ hR (n:=(C++Z9).length) rfl (i:=l.length*9) (k:=9) om (xs:=xs) hx.len hx.one (l':=C++xs) (by
  rw[show l.length*9=C.length by omega,List.take_left',List.drop_of_length_le om,List.append_nil]; rfl)
 have hlx:(C++xs).length=(C++Z9).length:=by simp[hx.len]
 have ne:∀c,c<H.next->fx v (c≠·)->c≠b:=fun c hc hd=>by
  rcases hb3 c hd _ _ _ rfl with hb | hb
  ·exact hb
  ·have hb':H.next<=b:=hb
   omega
 have k:∀c,In n H.next c->fx v (c≠·)->In n H'.next c/\fx (aa.slice (some ⟨b,(C++Z9).length,0⟩) (l.length+1) (.open_ 9)) (c≠·):=fun c hc hd=>
  ⟨⟨hc.1,by have:=hc.2; omega⟩,jg (ne c hc.2 hd)⟩
 have fr:∀c,c<H.next->fx v (c≠·)->H'.get c=H.get c:=fun c hc hd=>by rw[k1 c (ne c hc hd),a5 c hc hd]
 refine⟨_,H1,H',b,_,a1,NA .i64 om,m1,rfl,⟨C++xs,?_,jg ⟨hbn,(by omega:b<H'.next)⟩,gr.app (gr.sing ?_) ?_⟩,hbn,a3,om,a5,ne,fr⟩
 ·obtain⟨low',g1,g2⟩:=r1
  rw[<- hlx]
  exact .inr ⟨b,low',by simp,by simp[hx.len]; omega,Nat.zero_le _,om,g1,g2,by simp⟩
 ·refine hx.mono fun c hc=>⟨?_,fr c hc.2 ?_⟩
  ·exact k c ⟨Nat.le_trans hm hc.1,hc.2⟩ (hv.mono fun d hd=>by have:=hc.1; omega)
  ·exact hv.mono fun d hd=>by have:=hc.1; omega
 ·exact h3.mono fun c hc=>⟨k c hc.1 hc.2,fr c hc.1.2 hc.2⟩
structure Fs(pb sb:Nat)(H H':ab):Prop where
 next:H.next<=H'.next
 old:∀c,c<H.next->c≠pb->c≠sb->H'.get c=H.get c
theorem Fs.of{pb sb:Nat}{H H':ab}(f:Fp pb H H'):Fs pb sb H H':=⟨f.next,fun c h1 h2 _=>f.old c h1 h2⟩
theorem Fs.trans{pb sb:Nat}{H H' H2:ab}(a:Fs pb sb H H')(b:Fs pb sb H' H2):Fs pb sb H H2:=
 ⟨Nat.le_trans a.next b.next,fun c h1 h2 h3=>by rw[b.old c (Of h1 a.next) h2 h3,a.old c h1 h2 h3]⟩
theorem PA.fws{n pb sb:Nat}{s:Bs}{H H':ab}{w w':Wd}{g g':Nat}{x y x' y':Int}{orv:aa}(h:PA n pb s H w g x y orv)(hs:n<=sb)(f:Fs pb sb H H')(r:bc H' pb (cj s w' g' x' y' orv))(hw:nQ s w')(hg:g'<=200):PA n pb s H' w' g' x' y' orv:=
 ⟨r,h.hpb,Nat.le_trans h.hn f.next,h.or.keep fun c hc hp=>f.old c (Of hc h.hn) hp om,hw,hg⟩
theorem mn{n pb sb:Nat}{s:Bs}{f:Nat}(ihr:kJ n pb s f 5){H:ab}{w:Wd}{g:Nat}{x y:Int}{orv:aa}{r:eD Ex}(A:PA n pb s H w g x y orv)(hr:pE s f (.rule 5) g w=some r){l:List aa}(hl:bc H sb l)(hl9:l.length=9)(hs:n<=sb)(hsb:sb<H.next){i:Nat}(hi:i+4<=9) :
  an Tryd.prog aB 31 [af pb 11 0,af sb 9 i] H fun u H'=>(match r with
   | .ok (e,w')=>u=.bool true/\∃xs,bc H' sb (l.take i++(xs++l.drop (i+4)))/\XE (In H.next H'.next) H' e xs/\bc H' pb (cj s w' g x y orv)/\nQ s w'
   | .error e=>u=.bool false/\∃w',bc H' pb (cj s w' g e.1 e.2 orv))/\Fs pb sb H H':=by
 refine ak rfl M7 rfl ?_
 have lo:=A.lor
 have hlt:=A.lt
 have hpn:=A.hpb
 simp only[c31,sA,sB,seval,aC,cz,lo]
 refine (ihr H w g x y orv orv r A A.or hr).mono ?_
 rintro u H1 ⟨ho,F1⟩
 have e1:=F1.next
 cases r with
 | error e=>
  obtain⟨xs,w',rfl,x1,⟨x2,_⟩,r1⟩:=ho
  obtain⟨H2,m2,r2,n2,k2⟩:=aG H1 [.int .u8 0,.str [],.int .i64 0,.slice none 0 (.known 0)] (n:=4) rfl
  obtain⟨H3,m3,r3,n3,k3⟩:=aq r2 (n:=4) rfl x1 x2
  simp only[sA,sB,seval,bZ,bY,m2,m3]
  exact⟨⟨tt,w',r1.same (by rw[k3 _ om,k2 _ om])⟩,om,fun c h1 h2 _=>by rw[k3 c om,k2 c om,F1.old c h1 h2]⟩
 | ok p=>
  obtain⟨e,w'⟩:=p
  obtain⟨xs,rfl,hx,r1,o1⟩:=ho
  obtain⟨H2,m2,r2,n2,k2⟩:=aG H1 [.int .u8 0,.str [],.int .i64 0,.slice none 0 (.known 0)] (n:=4) rfl
  obtain⟨H3,m3,r3,n3,k3⟩:=aq r2 (n:=4) rfl hx.len hx.one
  have l3:=aD r3 hx.len
  obtain⟨H4,m4,r4,n4,k4⟩:=mZ (hl.same (H':=H3) (by rw[k3 _ om,k2 _ om,F1.old sb hsb om])) hl9 (i:=i) (k:=4) hi hx.len hx.one rfl
  simp only[sA,sB,seval,bZ,bY,m2,m3,l3,aC,m4]
  refine⟨⟨tt,xs,r4,hx.mono fun c hc=>?_,r1.same (by rw[k4 _ om,k3 _ om,k2 _ om]),o1⟩,om,fun c h1 h2 h3=>by rw[k4 c h3,k3 c om,k2 c om,F1.old c h1 h2]⟩
  have h1:=hc.1
  have h2:=hc.2
  exact⟨⟨h1,om⟩,by rw[k4 c om,k3 c om,k2 c om]⟩
def jP(k:Int)(S:Bs)(xs:List aa)(vb ve:aa)(line:Int):List aa:=.int .u8 k::.str S::(xs++[vb,ve,.int .i64 line])
abbrev Zx:List aa:=[.int .u8 0,.str [],.int .i64 0,.slice none 0 (.known 0)]
theorem oR{n pb sb:Nat}{s:Bs}{f:Nat}(ihr:kJ n pb s f 5){H:ab}{w:Wd}{g:Nat}{x y:Int}{orv:aa}{k line:Nat}{r:eD (List St)}(A:PA n pb s H w g x y orv)(hr:ff s (pE s f) k line g w=some r)(hl:bc H sb (jP k [] Zx cp cp line))(hs:n<=sb)(hsb:sb<H.next) :
  an Tryd.prog aB 28 [af pb 11 0,af sb 9 0] H fun u H'=>(match r with
   | .ok (l,w')=>u=.bool true/\∃e xs,l=[.mk k w.S e [] [] line]/\bc H' sb (jP k w.S xs cp cp line)/\XE (In H.next H'.next) H' e xs/\bc H' pb (cj s w' g x y orv)/\nQ s w'
   | .error e=>u=.bool false/\∃w',bc H' pb (cj s w' g e.1 e.2 orv))/\Fs pb sb H H':=by
 refine ak rfl Na rfl ?_
 unfold ff at hr
 have hlt:=A.lt
 have hpn:=A.hpb
 have l1:am false 1 H (af pb 11 1)=some (.int .u8 (w.k:Int)):=al A.row rfl rfl
 have l2:am false 1 H (af pb 11 2)=some (.str w.S):=al A.row rfl rfl
 by_cases hk:w.k=2
 case neg=>
  have hk':¬(w.k:Int)=2:=om
  rw[if_neg hk]at hr
  simp only[mG,sJ]at hr
  subst hr
  simp only[NL,sA,sB,seval,aC,cz,fld0,l1,hk']
  refine (gH A.row 101).mono ?_
  rintro _ H1 ⟨rfl,r1,F1⟩
  simp only[sA,sB,seval]
  exact⟨⟨tt,w,r1⟩,.of F1⟩
 have hk':(w.k:Int)=2:=om
 rw[if_pos hk]at hr
 obtain⟨H1,m1,r1,n1,k1⟩:=dW hl (n:=9) rfl (i:=1) om (x:=.str w.S) rfl (l':=jP k w.S Zx cp cp line) rfl
 have F1:Fs pb sb H H1:=⟨om,fun c _ _ h=>k1 c h⟩
 have A1:=A.fws hs F1 (A.row.same (k1 pb om)) A.ok A.hg
 simp only[NL,sA,sB,seval,aC,cz,fld0,l1,hk',l2,m1]
 refine (bu A1.row A1.lt A1.en).mono ?_
 rintro u H2 ⟨ho,F2⟩
 have e2:=F2.next
 rcases cG hr with⟨e,he,rfl⟩ | ⟨w1,he,hr⟩
 ·rw[he]at ho
  obtain⟨rfl,r2⟩:=ho
  simp only[sA,sB,seval]
  exact⟨⟨tt,w,r2⟩,F1.trans (.of F2)⟩
 rw[he]at ho
 obtain⟨rfl,r2⟩:=ho
 have A2:=A1.fwd F2 r2 (aQ he A.ok om).1 A.hg
 simp only[sA,sB,seval]
 refine (dB A2.row A2.lt A2.en [61]).mono ?_
 rintro u H3 ⟨ho,F3⟩
 have e3:=F3.next
 have F13:=F2.trans F3
 rcases cG hr with⟨e,he,rfl⟩ | ⟨w2,he,hr⟩
 ·rw[he]at ho
  obtain⟨rfl,r3⟩:=ho
  simp only[sA,sB,seval]
  exact⟨⟨tt,w1,r3⟩,F1.trans (.of F13)⟩
 rw[he]at ho
 obtain⟨rfl,r3⟩:=ho
 have A3:=A2.fwd F3 r3 (cy he A2.ok).2.2.1 A.hg
 have q3:=r1.same (F13.old sb om om)
 obtain⟨r0,hr0⟩:∃r0,pE s f (.rule 5) g w2=some r0:=by
  rcases ck hr with⟨e,he,rfl⟩ | ⟨e1,w3,he,_⟩
  ·exact⟨_,he⟩
  ·exact⟨_,he⟩
 simp only[sA,sB,seval,aC,cz]
 refine (mn ihr A3 hr0 q3 rfl hs om (i:=2) om).mono ?_
 rintro u H4 ⟨ho,F4⟩
 have e4:=F4.next
 have F04:=(F1.trans (.of F13)).trans F4
 rcases ck hr with⟨e,he,rfl⟩ | ⟨e1,w3,he,hr⟩
 ·rw[hr0]at he
  simp only[sJ]at he
  subst he
  obtain⟨rfl,w',r4⟩:=ho
  simp only[sA,sB,seval]
  exact⟨⟨tt,w',r4⟩,F04⟩
 rw[hr0]at he
 simp only[sJ]at he
 subst he
 obtain⟨rfl,xs,q4,hx,r4,o4⟩:=ho
 have A4:=A3.fws hs F4 r4 o4 A.hg
 simp only[sA,sB,seval]
 refine (dB A4.row A4.lt A4.en [59]).mono ?_
 rintro u H5 ⟨ho,F5⟩
 rcases cG hr with⟨e,he,rfl⟩ | ⟨w4,he,hr⟩
 ·rw[he]at ho
  obtain⟨rfl,r5⟩:=ho
  simp only[sA,sB,seval]
  exact⟨⟨tt,w3,r5⟩,F04.trans (.of F5)⟩
 rw[he]at ho
 obtain⟨rfl,r5⟩:=ho
 simp only[bp,sJ]at hr
 subst hr
 have e5:=F5.next
 simp only[sA,sB,seval]
 refine⟨⟨tt,e1,xs,rfl,q4.same (F5.old _ om om),hx.mono fun c hc=>?_,r5,(cy he o4).2.2.1⟩,F04.trans (.of F5)⟩
 have h1:=hc.1
 have h2:=hc.2
 exact⟨⟨om,om⟩,F5.old c h2 om⟩
end Go.Proofs.Wo
