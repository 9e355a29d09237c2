/- Part of a proof (YT8 YX5 YX6 YX7 YX8 YD1 YT5 YE1); no condition. -/
import Derived.Test.YteabnpheoiakdaaGreatDoorProg
import Derived.KernelRfl
import Derived.Test.YteabnpheoiakdaaGreatDoorP8
import Derived.Test.YteabnpheoiakdaaGreatDoorP10
import Derived.Test.YteabnpheoiakdaaGreatDoorP11
set_option linter.unusedSimpArgs false
set_option linter.unusedVariables false
set_option linter.unnecessarySimpa false
namespace Go.Proofs.Wo
open Go.Abs Go.Abs.S
theorem copys_spec:∀(N:Nat) {l:List St} {C:List AVal} {v:AVal} {H:AHeap},sizesS l≤N→sizesS l≤1000000→SlK (·<H.next) H 9 v l.length C→XSs (·<H.next) H l C →
  ACalls Tryz.prog natT 11 [v] H fun u H'=>(∃C',SlK (In H.next H'.next) H' 9 u l.length C'∧XSws (In H.next H'.next) H' l C')∧Ext H.next H H':=by
 intro N
 induction N with
 | zero=>
  intro l C v H h hs z1 z2
  have hl0:l=[]:=by
   cases l with
   | nil=>rfl
   | cons x l=>have:=sizeS_pos x; simp only[sizesS]at h; omega
  subst hl0
  have ln:=z1.len
  have h0:¬(0:Int)<(([]:List St).length:Int):=by simp
  refine acalls_ofN rfl za11 rfl ?_
  simp only[c11,sA,sB,seval]
  refine aw_loop (fun m (T:Env) K=>H=K∧T 0=v∧T 3=nilS∧T 4=.int .i64 0) 0 ⟨rfl,by simp only[sA,sB,seval],by simp only[sA,sB,seval]; try rfl,by simp only[sA,sB,seval]⟩ ?_
  rintro m T K ⟨rfl,t0,t3,t4⟩
  simp only[sA,sB,seval,t0,t3,t4,ln,h0]
  exact⟨⟨[],SlK.nil _ _ _,rfl⟩,Ext.refl _ _⟩
 | succ N ih=>
  intro l C v H h hs z1 z2
  have ln:=z1.len
  refine acalls_ofN rfl za11 rfl ?_
  simp only[c11,sA,sB,seval]
  refine aw_loop (fun m (T:Env) K=>∃(i:Nat) (w:AVal),m=l.length-i∧i≤l.length∧T 0=v∧T 3=w∧T 4=.int .i64 (i:Int)∧Ext H.next H K∧GSw H.next K w (l.take i)) l.length
   ⟨0,nilS,rfl,Nat.zero_le _,by simp only[sA,sB,seval],by simp only[sA,sB,seval]; try rfl,by simp only[sA,sB,seval]; try rfl,Ext.refl _ _,GSw.nil _ _⟩ ?_
  rintro m T K ⟨i,w,rfl,hi,t0,t3,t4,EK,gK⟩
  have eK:=EK.next
  by_cases hlt:i<l.length
  case neg=>
   obtain rfl:i=l.length:=om
   have hlt':¬(l.length:Int)<(l.length:Int):=om
   rw[List.take_length]at gK
   obtain⟨Cv,g1,g2⟩:=gK.sl
   simp only[sA,sB,seval,t0,t3,t4,ln,hlt']
   exact⟨⟨Cv,g1,g2⟩,EK⟩
  have hlt':(i:Int)<(l.length:Int):=om
  obtain⟨x,he⟩:∃e,l[i]?=some e:=⟨_,List.getElem?_eq_getElem hlt⟩
  have hts:l.take (i+1)=l.take i++[x]:=by rw[List.take_add_one,he]; rfl
  have km:∀b,b<H.next→b<K.next∧K.get b=H.get b:=fun b hb=>⟨om,EK.old b hb⟩
  have z13:=z1.mono km
  have ix:=z13.idx hlt
  have ld:=z13.load hlt
  have hsm:=size_memS (List.mem_of_getElem? he)
  have hlen:=len_sizesS l
  have wi:IntKind.i64.wrap ((i:Int)+1)=((i+1:Nat):Int):=addN i 1 om
  have hx3:=(z2.mono km).at he
  have hone:=hx3.one
  obtain⟨k,s,e,body,els,line⟩:=x
  obtain⟨ce,vb,Cb,ve,Ce,hcell,x1,y1,y2,y3,y4⟩:=hx3
  obtain⟨c0,c1,c2,c3,rfl⟩:∃a b c d,ce=[a,b,c,d]:=by
   have:=x1.len
   match ce,this with
   | [a,b,c,d],_=>exact⟨a,b,c,d,rfl⟩
  rw[hcell]at ld hone
  have hsz:(St.mk k s e body els line).size=e.size+sizesS body+sizesS els+1:=rfl
  obtain⟨K1,m1,r1,n1,k1⟩:=row_newL K [.int .u8 0,.str [],.int .u8 0,.str [],.int .i64 0,.slice none 0 (.known 0),.slice none 0 (.known 0),.slice none 0 (.known 0),.int .i64 0] (n:=9) rfl
  obtain⟨K2,m2,r2,n2,k2⟩:=row_storeN r1 (n:=9) rfl (xs:=.int .u8 (k:Int)::.str s::([c0,c1,c2,c3]++[vb,ve,.int .i64 line])) rfl hone
  simp only[List.cons_append,List.nil_append]at ld m2 r2 hone
  obtain⟨b5,hb5⟩:∃b,b=K.next:=⟨_,rfl⟩
  rw[← hb5]at m1 m2 r2 k2 k1
  have E2:Ext K.next K K2:=⟨om,fun c hc=>by rw[k2 c om,k1 c om]⟩
  have le:oLoad true 4 K2 (cellR b5 9 2)=some (.agg [c0,c1,c2,c3]):=row_loadK r2 (n:=9) rfl (i:=2) (k:=4) om
  have kk:∀{K':AHeap},Ext K.next K K'→∀b,b<K.next→b<K'.next∧K'.get b=K.get b:=fun q b hb=>⟨by have:=q.next; omega,q.old b hb⟩
  simp only[sA,sB,seval,t0,t3,t4,ln,hlt',ix,ld,m1,m2]
  refine aw_drawC rfl ?_
  simp only[sR,sA,sB,seval,fldA,le]
  refine (copye_spec e.size rL om (x1.mono (kk E2))).mono ?_
  rintro _ K3 ⟨⟨ce',rfl,xe⟩,E3⟩
  have e2:=E2.next
  have e3:=E3.next
  have r3:=r2.same (E3.old b5 om)
  have l6:∀{J:AHeap},Row J b5 [.int .u8 (k:Int),.str s,c0,c1,c2,c3,vb,ve,.int .i64 line]→oLoad false 1 J (cellR b5 9 6)=some vb:=fun q=>row_load q rfl rfl
  have l7:∀{J:AHeap},Row J b5 [.int .u8 (k:Int),.str s,c0,c1,c2,c3,vb,ve,.int .i64 line]→oLoad false 1 J (cellR b5 9 7)=some ve:=fun q=>row_load q rfl rfl
  have E03:=E2.trans (E3.less om)
  simp only[sR,sA,sB,seval,fldA,l6 r3]
  refine (ih om om (y1.mono (kk E03)) (y2.mono (kk E03))).mono ?_
  rintro vb' K4 ⟨⟨Cb',xb1,xb2⟩,E4⟩
  have e4:=E4.next
  have r4:=r3.same (E4.old b5 om)
  have E04:=E03.trans (E4.less om)
  simp only[sR,sA,sB,seval,fldA,l7 r4]
  refine (ih om om (y3.mono (kk E04)) (y4.mono (kk E04))).mono ?_
  rintro ve' K5 ⟨⟨Ce',xs1,xs2⟩,E5⟩
  have e5:=E5.next
  have r5:=r4.same (E5.old b5 om)
  have E05:=E04.trans (E5.less om)
  obtain⟨d0,d1,d2,d3,rfl⟩:∃a b c d,ce'=[a,b,c,d]:=by
   have:=xe.len
   match ce',this with
   | [a,b,c,d],_=>exact⟨a,b,c,d,rfl⟩
  obtain⟨K6,m6,r6,n6,k6⟩:=row_stK r5 (n:=9) rfl (i:=2) (k:=4) om (xs:=[d0,d1,d2,d3]) rfl xe.xe.one (l':=[.int .u8 (k:Int),.str s,d0,d1,d2,d3,vb,ve,.int .i64 line]) rfl
  obtain⟨K7,m7,r7,n7,k7⟩:=row_st r6 (n:=9) rfl (i:=6) om (x:=vb') xb1.one (l':=[.int .u8 (k:Int),.str s,d0,d1,d2,d3,vb',ve,.int .i64 line]) rfl
  obtain⟨K8,m8,r8,n8,k8⟩:=row_st r7 (n:=9) rfl (i:=7) om (x:=ve') xs1.one (l':=[.int .u8 (k:Int),.str s,d0,d1,d2,d3,vb',ve',.int .i64 line]) rfl
  have k58:∀c,c≠b5→K8.get c=K5.get c:=fun c hc=>by rw[k8 c hc,k7 c hc,k6 c hc]
  have kx:∀{a:Nat} {J:AHeap},K2.next≤a→J.next≤K5.next→Ext J.next J K5→∀b,In a J.next b→In K.next K8.next b∧K8.get b=J.get b:=fun h1 h2 q b hb=>⟨⟨by have:=hb.1; omega,by have:=hb.2; omega⟩,by rw[k58 b (by have:=hb.1; omega),q.old b hb.2]⟩
  have E35:Ext K3.next K3 K5:=E4.trans (E5.less om)
  have xS:XSw (In K.next K8.next) K8 (.mk k s e body els line) [.int .u8 (k:Int),.str s,d0,d1,d2,d3,vb',ve',.int .i64 line]:=
   ⟨[d0,d1,d2,d3],vb',Cb',ve',Ce',rfl,xe.mono (kx rL om E35),xb1.mono (kx e3 om E5),xb2.mono (kx e3 om E5),xs1.mono (kx om rL (Ext.refl _ _)),xs2.mono (kx om rL (Ext.refl _ _))⟩
  have E08:Ext K.next K K8:=⟨om,fun c hc=>by rw[k58 c om,E05.old c hc]⟩
  have gK8:=gK.keep E08.next fun c hc=>E08.old c hc.2
  have hbw:Blk w (In H.next K.next):=by
   obtain⟨C,_,q,_⟩:=gK
   exact q
  obtain⟨w',K9,a9,G9,n9,k9⟩:=gK8.push xS om om (hbw.mono fun c hc=>hc.2) (by rw[List.length_take]; omega) (bytes:=136) om om
  have l9:oLoad true 9 K8 (cellR b5 9 0)=some (.agg [.int .u8 (k:Int),.str s,d0,d1,d2,d3,vb',ve',.int .i64 line]):=row_loadN r8 rfl
  have bm:=buildM (z:=[.int .u8 0,.str [],.int .u8 0,.str [],.int .i64 0,.slice none 0 (.known 0),.slice none 0 (.known 0),.slice none 0 (.known 0),.int .i64 0]) (m:=9) K8 rfl xS.xs.len
  simp only[sR,sA,sB,seval,fldA,m6,m7,m8]
  simp only[ck_nil',ck_cons,ckP_load,ckP_nil,ck_end,and_true,true_and,List.map_cons,List.map_nil,sA,sB,seval,fldA,l9,bm,a9,t0,t3,t4,wi]
  refine⟨⟨⟨_,rfl,fun _=>⟨vb,l6 r2,y1.aeq⟩⟩,⟨_,rfl,fun _=>⟨ve,l7 r2,y3.aeq⟩⟩,⟨_,rfl,fun _=>⟨ve,l7 r3,y3.aeq⟩⟩⟩,l.length-(i+1),om,i+1,w',rfl,om,tt,tt,⟨om,fun c hc=>by rw[k9 c om (hbw.mono fun x hx=>by have:=hx.1; omega),E08.old c om,EK.old c hc]⟩,?_⟩
  rw[hts]; exact G9
open Go.Abs Go.Abs.S
theorem samee_spec:∀(N:Nat) {e:Ex} {c c':List AVal} {H:AHeap},e.size≤N→e.size≤1000000→XE (·<H.next) H e c→XE (·<H.next) H e c' →
  ACalls Tryz.prog natT 39 [.agg c,.agg c'] H fun u H'=>u=.bool true∧Ext H.next H H'
 | 0,e,_,_,_,h,_,_,_=>absurd (sizeE_pos e) om
 | N+1,.mk k s z kids,c,c',H,h,hs,hx,hx'=>by
  obtain⟨v,C,rfl,z1,z2⟩:=hx
  obtain⟨v',C',rfl,y1,y2⟩:=hx'
  have hsz:(Ex.mk k s z kids).size=sizesE kids+1:=rfl
  refine acalls_ofN rfl za39 rfl ?_
  obtain⟨H1,m1,r1,n1,k1⟩:=row_newL H [.int .u8 (k:Int),.str s,.int .i64 z,v] (n:=4) rfl
  obtain⟨H2,m2,r2,n2,k2⟩:=row_newL H1 [.int .u8 (k:Int),.str s,.int .i64 z,v'] (n:=4) rfl
  have E2:Ext H.next H H2:=⟨om,fun c hc=>by rw[k2 c om,k1 c om]⟩
  have r12:Row H2 H.next [.int .u8 (k:Int),.str s,.int .i64 z,v]:=r1.same (k2 _ om)
  have p0:oLoad false 1 H2 (cellR H.next 4 0)=some (.int .u8 (k:Int)):=row_load r12 rfl rfl
  have p1:oLoad false 1 H2 (cellR H.next 4 1)=some (.str s):=row_load r12 rfl rfl
  have p2:oLoad false 1 H2 (cellR H.next 4 2)=some (.int .i64 z):=row_load r12 rfl rfl
  have p3:oLoad false 1 H2 (cellR H.next 4 3)=some v:=row_load r12 rfl rfl
  have q0:oLoad false 1 H2 (cellR H1.next 4 0)=some (.int .u8 (k:Int)):=row_load r2 rfl rfl
  have q1:oLoad false 1 H2 (cellR H1.next 4 1)=some (.str s):=row_load r2 rfl rfl
  have q2:oLoad false 1 H2 (cellR H1.next 4 2)=some (.int .i64 z):=row_load r2 rfl rfl
  have q3:oLoad false 1 H2 (cellR H1.next 4 3)=some v':=row_load r2 rfl rfl
  have ln:=z1.len
  have ln':=y1.len
  have hlen:=len_sizesE kids
  simp only[c39,sA,sB,seval,cells_agg,m1,m2,fld0,fldA,p0,p1,p2,p3,q0,q1,q2,q3,ln,ln']
  refine aw_loop (fun m (T:Env) K=>∃(i:Nat),m=kids.length-i∧i≤kids.length∧T 2=cellR H.next 4 0∧T 3=cellR H1.next 4 0∧T 5=.int .i64 (i:Int)∧Ext H2.next H2 K) kids.length
   ⟨0,rfl,Nat.zero_le _,by simp only[sA,sB,seval],by simp only[sA,sB,seval],by simp only[sA,sB,seval]; try rfl,Ext.refl _ _⟩ ?_
  rintro m T K ⟨i,rfl,hi,t2,t3,t5,FK⟩
  have eK:=FK.next
  have l1K:oLoad false 1 K (cellR H.next 4 3)=some v:=row_load (r12.same (FK.old _ om)) rfl rfl
  have l2K:oLoad false 1 K (cellR H1.next 4 3)=some v':=row_load (r2.same (FK.old _ om)) rfl rfl
  have EK:Ext H.next H K:=E2.trans (FK.less om)
  by_cases hlt:i<kids.length
  case neg=>
   obtain rfl:i=kids.length:=om
   have hlt':¬(kids.length:Int)<(kids.length:Int):=om
   simp only[sA,sB,seval,t2,t3,t5,fldA,l1K,ln,hlt']
   exact⟨tt,EK⟩
  have hlt':(i:Int)<(kids.length:Int):=om
  obtain⟨e,he⟩:∃e,kids[i]?=some e:=⟨_,List.getElem?_eq_getElem hlt⟩
  have km:∀b,b<H.next→b<K.next∧K.get b=H.get b:=fun b hb=>⟨by have:=EK.next; omega,EK.old b hb⟩
  have z13:=z1.mono km
  have y13:=y1.mono km
  have ix:=z13.idx hlt
  have iy:=y13.idx hlt
  have ld:=z13.load hlt
  have ly:=y13.load hlt
  have he3:=(z2.mono km).at he
  have hy3:=(y2.mono km).at he
  have hsm:=size_mem (List.mem_of_getElem? he)
  have wi:IntKind.i64.wrap ((i:Int)+1)=((i+1:Nat):Int):=addN i 1 om
  simp only[sA,sB,seval,t2,t3,t5,fldA,l1K,l2K,ln,hlt',ix,ld,iy,ly]
  refine (samee_spec N om om he3 hy3).mono ?_
  rintro _ K2 ⟨rfl,E3⟩
  simp only[sA,sB,seval,t2,t3,t5,wi]
  exact⟨kids.length-(i+1),om,i+1,rfl,om,tt,tt,tt,FK.trans (E3.less om)⟩
theorem sames_spec:∀(N:Nat) {l:List St} {C C':List AVal} {v v':AVal} {H:AHeap},sizesS l≤N→sizesS l≤1000000→SlK (·<H.next) H 9 v l.length C→XSs (·<H.next) H l C→SlK (·<H.next) H 9 v' l.length C'→XSs (·<H.next) H l C' →
  ACalls Tryz.prog natT 14 [v,v',.bool true] H fun u H'=>u=.bool true∧Ext H.next H H':=by
 intro N
 induction N with
 | zero=>
  intro l C C' v v' H h hs z1 z2 w1 w2
  have hl0:l=[]:=by
   cases l with
   | nil=>rfl
   | cons x l=>have:=sizeS_pos x; simp only[sizesS]at h; omega
  subst hl0
  have ln:=z1.len
  have ln':=w1.len
  have h0:¬(0:Int)<(([]:List St).length:Int):=by simp
  refine acalls_ofN rfl za14 rfl ?_
  simp only[c14,sA,sB,seval,ln,ln']
  refine aw_loop (fun m (T:Env) K=>H=K∧T 0=v∧T 7=.int .i64 0) 0 ⟨rfl,by simp only[sA,sB,seval],by simp only[sA,sB,seval]⟩ ?_
  rintro m T K ⟨rfl,t0,t7⟩
  simp only[sA,sB,seval,t0,t7,ln,h0]
  exact⟨tt,Ext.refl _ _⟩
 | succ N ih=>
  intro l C C' v v' H h hs z1 z2 w1 w2
  have ln:=z1.len
  have ln':=w1.len
  refine acalls_ofN rfl za14 rfl ?_
  simp only[c14,sA,sB,seval,ln,ln']
  refine aw_loop (fun m (T:Env) K=>∃(i:Nat),m=l.length-i∧i≤l.length∧T 0=v∧T 1=v'∧T 2=.bool true∧T 7=.int .i64 (i:Int)∧Ext H.next H K) l.length
   ⟨0,rfl,Nat.zero_le _,by simp only[sA,sB,seval],by simp only[sA,sB,seval],by simp only[sA,sB,seval]; try rfl,by simp only[sA,sB,seval]; try rfl,Ext.refl _ _⟩ ?_
  rintro m T K ⟨i,rfl,hi,t0,t1,t2,t7,EK⟩
  have eK:=EK.next
  by_cases hlt:i<l.length
  case neg=>
   obtain rfl:i=l.length:=om
   have hlt':¬(l.length:Int)<(l.length:Int):=om
   simp only[sA,sB,seval,t0,t1,t2,t7,ln,hlt']
   exact⟨tt,EK⟩
  have hlt':(i:Int)<(l.length:Int):=om
  obtain⟨x,he⟩:∃e,l[i]?=some e:=⟨_,List.getElem?_eq_getElem hlt⟩
  have km:∀b,b<H.next→b<K.next∧K.get b=H.get b:=fun b hb=>⟨om,EK.old b hb⟩
  have z13:=z1.mono km
  have ix:=z13.idx hlt
  have ld:∀{J:AHeap},Ext K.next K J→oLoad true 9 J (placeK 9 v i)=some (.agg ((C.drop (i*9)).take 9)):=fun {J} q=>(z13.mono (Q:=(·<J.next)) fun b hb=>⟨by have:=q.next; omega,q.old b hb⟩).load hlt
  have w13:=w1.mono km
  have iw:=w13.idx hlt
  have lw:∀{J:AHeap},Ext K.next K J→oLoad true 9 J (placeK 9 v' i)=some (.agg ((C'.drop (i*9)).take 9)):=fun {J} q=>(w13.mono (Q:=(·<J.next)) fun b hb=>⟨by have:=q.next; omega,q.old b hb⟩).load hlt
  have hsm:=size_memS (List.mem_of_getElem? he)
  have hlen:=len_sizesS l
  have wi:IntKind.i64.wrap ((i:Int)+1)=((i+1:Nat):Int):=addN i 1 om
  have hx3:=(z2.mono km).at he
  have hy3:=(w2.mono km).at he
  have hone:=hx3.one
  have hone':=hy3.one
  have hae:=hy3.aeqs
  obtain⟨k,s,e,body,els,line⟩:=x
  obtain⟨ce,vb,Cb,ve,Ce,hcell,x1,y1,y2,y3,y4⟩:=hx3
  obtain⟨c0,c1,c2,c3,rfl⟩:∃a b c d,ce=[a,b,c,d]:=by
   have:=x1.len
   match ce,this with
   | [a,b,c,d],_=>exact⟨a,b,c,d,rfl⟩
  obtain⟨ce',vb',Cb',ve',Ce',hcell',e1,y1',y2',y3',y4'⟩:=hy3
  obtain⟨d0,d1,d2,d3,rfl⟩:∃a b c d,ce'=[a,b,c,d]:=by
   have:=e1.len
   match ce',this with
   | [a,b,c,d],_=>exact⟨a,b,c,d,rfl⟩
  rw[hcell]at hone
  simp only[hcell]at ld
  rw[hcell']at hone' hae
  simp only[hcell']at lw
  have hsz:(St.mk k s e body els line).size=e.size+sizesS body+sizesS els+1:=rfl
  obtain⟨K2,hK2⟩:∃K2,K2=(K.push (.cells [.int .u8 0,.str [],.int .u8 0,.str [],.int .i64 0,.slice none 0 (.known 0),.slice none 0 (.known 0),.slice none 0 (.known 0),.int .i64 0] 0 false)).push (.cells [.int .u8 0,.str [],.int .u8 0,.str [],.int .i64 0,.slice none 0 (.known 0),.slice none 0 (.known 0),.slice none 0 (.known 0),.int .i64 0] 0 false):=⟨_,rfl⟩
  have n2:K2.next=K.next+2:=by rw[hK2]; rfl
  have k2:∀c,c<K.next→K2.get c=K.get c:=fun c hc=>by rw[hK2,AHeap.get_push,if_neg (by rw[push_next]; omega),get_push_lt hc]
  have g8:K2.get K.next=some (.cells [.int .u8 0,.str [],.int .u8 0,.str [],.int .i64 0,.slice none 0 (.known 0),.slice none 0 (.known 0),.slice none 0 (.known 0),.int .i64 0] 0 false):=by rw[hK2,AHeap.get_push,if_neg (by rw[push_next]; omega),AHeap.get_push,if_pos rfl]
  have g9:K2.get (K.next+1)=some (.cells [.int .u8 0,.str [],.int .u8 0,.str [],.int .i64 0,.slice none 0 (.known 0),.slice none 0 (.known 0),.slice none 0 (.known 0),.int .i64 0] 0 false):=by rw[hK2,AHeap.get_push,if_pos (by rw[push_next])]
  have cl8:aClaim K2 K.next _ none=some (cellR K.next 9 0):=claim_ok g8 rfl
  have cl9:aClaim K2 (K.next+1) _ none=some (cellR (K.next+1) 9 0):=claim_ok g9 rfl
  obtain⟨K3,m3,r3,n3,k3⟩:=row_storeN (H:=K2) (b:=K.next) ⟨0,g8,Nat.zero_le _⟩ (n:=9) rfl (xs:=.int .u8 (k:Int)::.str s::([c0,c1,c2,c3]++[vb,ve,.int .i64 line])) rfl hone
  obtain⟨K4,m4,r4,n4,k4⟩:=row_storeN (H:=K3) (b:=K.next+1) ⟨0,(k3 _ om).trans g9,Nat.zero_le _⟩ (n:=9) rfl (xs:=.int .u8 (k:Int)::.str s::([d0,d1,d2,d3]++[vb',ve',.int .i64 line])) rfl hone'
  simp only[List.cons_append,List.nil_append]at ld lw m3 m4 r3 r4 hae
  have E2:Ext K.next K K2:=⟨om,k2⟩
  have E3:Ext K.next K K3:=⟨om,fun c hc=>by rw[k3 c om,k2 c hc]⟩
  have E4:Ext K.next K K4:=⟨om,fun c hc=>by rw[k4 c om,E3.old c hc]⟩
  have ld2:=ld E2
  have lw2:=lw E2
  have lw3:=lw E3
  have q3:Row K4 K.next _:=r3.same (k4 _ om)
  have hba:aeq (.agg [.int .u8 (k:Int),.str s,d0,d1,d2,d3,vb',ve',.int .i64 line]) (.agg [.int .u8 (k:Int),.str s,d0,d1,d2,d3,vb',ve',.int .i64 line])=true:=by
   rw[aeq]; exact hae
  simp only[sA,sB,seval,t0,t1,t2,t7,ln,hlt']
  refine aw_drawN ?_
  simp only[claims,newOf,reserves,resO_0,clOp_new,← hK2]
  simp only[sR,sA,sB,seval,tr_claim,t0,t1,t2,t7,ix,ld2,iw,lw2,cl8,cl9,m3,m4]
  simp only[ck_nil',ck_cons,ckP_load,ckP_claim,ckP_nil,ck_end,and_true,true_and,List.map_cons,List.map_nil,sA,sB,seval,fldA,t0,t1,t2,t7]
  refine⟨⟨_,rfl,fun _=>⟨_,lw3,hba⟩⟩,?_⟩
  have a0:∀{J:AHeap},Ext K4.next K4 J→Row J K.next [.int .u8 (k:Int),.str s,c0,c1,c2,c3,vb,ve,.int .i64 line]:=fun q=>q3.same (q.old _ om)
  have b0:∀{J:AHeap},Ext K4.next K4 J→Row J (K.next+1) [.int .u8 (k:Int),.str s,d0,d1,d2,d3,vb',ve',.int .i64 line]:=fun q=>r4.same (q.old _ om)
  have R0:=Ext.refl K4.next K4
  have u0:oLoad false 1 K4 (cellR K.next 9 0)=some (.int .u8 (k:Int)):=row_load (a0 R0) rfl rfl
  have u1:oLoad false 1 K4 (cellR K.next 9 1)=some (.str s):=row_load (a0 R0) rfl rfl
  have u8:oLoad false 1 K4 (cellR K.next 9 8)=some (.int .i64 line):=row_load (a0 R0) rfl rfl
  have u2:oLoad true 4 K4 (cellR K.next 9 2)=some (.agg [c0,c1,c2,c3]):=row_loadK (a0 R0) (n:=9) rfl (i:=2) (k:=4) om
  have x0:oLoad false 1 K4 (cellR (K.next+1) 9 0)=some (.int .u8 (k:Int)):=row_load (b0 R0) rfl rfl
  have x1':oLoad false 1 K4 (cellR (K.next+1) 9 1)=some (.str s):=row_load (b0 R0) rfl rfl
  have x8:oLoad false 1 K4 (cellR (K.next+1) 9 8)=some (.int .i64 line):=row_load (b0 R0) rfl rfl
  have x2:oLoad true 4 K4 (cellR (K.next+1) 9 2)=some (.agg [d0,d1,d2,d3]):=row_loadK (b0 R0) (n:=9) rfl (i:=2) (k:=4) om
  have kk:∀{K':AHeap},Ext K.next K K'→∀b,b<K.next→b<K'.next∧K'.get b=K.get b:=fun q b hb=>⟨by have:=q.next; omega,q.old b hb⟩
  simp only[sA,sB,seval,fldA,fld0,u0,u1,u8,u2,x0,x1',x8,x2,t0,t1,t2,t7]
  refine (samee_spec e.size rL om (x1.mono (kk E4)) (e1.mono (kk E4))).mono ?_
  rintro _ K5 ⟨rfl,E5⟩
  have e4:=E4.next
  have e5:=E5.next
  have E05:=E4.trans (E5.less om)
  have u6:oLoad false 1 K5 (cellR K.next 9 6)=some vb:=row_load (a0 E5) rfl rfl
  have x6:oLoad false 1 K5 (cellR (K.next+1) 9 6)=some vb':=row_load (b0 E5) rfl rfl
  simp only[sA,sB,seval,fldA,fld0,u6,x6,t0,t1,t2,t7]
  refine (ih om om (y1.mono (kk E05)) (y2.mono (kk E05)) (y1'.mono (kk E05)) (y2'.mono (kk E05))).mono ?_
  rintro _ K6 ⟨rfl,E6⟩
  have e6:=E6.next
  have E46:=E5.trans (E6.less om)
  have E06:=E05.trans (E6.less om)
  have u7:oLoad false 1 K6 (cellR K.next 9 7)=some ve:=row_load (a0 E46) rfl rfl
  have x7:oLoad false 1 K6 (cellR (K.next+1) 9 7)=some ve':=row_load (b0 E46) rfl rfl
  simp only[sA,sB,seval,fldA,fld0,u7,x7,t0,t1,t2,t7]
  refine (ih om om (y3.mono (kk E06)) (y4.mono (kk E06)) (y3'.mono (kk E06)) (y4'.mono (kk E06))).mono ?_
  rintro _ K7 ⟨rfl,E7⟩
  have e7:=E7.next
  have E07:=E06.trans (E7.less om)
  simp only[sA,sB,seval,t0,t1,t2,t7,wi]
  exact⟨l.length-(i+1),om,i+1,rfl,om,tt,tt,tt,tt,EK.trans (E07.less om)⟩
open Go.Abs Go.Abs.S
theorem fhas_spec{H:AHeap}{v:AVal}{l:List Bs}{n:Nat}(c:Cel n H v (l.map AVal.str))(x:Bs)(hl:l.length≤1000):ACalls Tryz.prog natT 126 [.str x,v] H fun u H'=>H=H'∧u=.bool (l.contains x):=by
 refine acalls_ofN rfl za126 rfl ?_
 have ln:aLenK false v=some (.int .i64 (l.length:Int)):=by have:=c.len; rwa [List.length_map]at this
 simp only[c126,sA,sB,seval]
 refine aw_loop (fun m (T:Env) H'=>H=H'∧∃i:Nat,m=l.length-i∧i≤l.length∧T 0=.str x∧T 1=v∧T 5=.int .i64 (i:Int)∧(l.take i).contains x=false) l.length
  ⟨rfl,0,rfl,om,by simp only[sA,sB,seval],by simp only[sA,sB,seval],by simp only[sA,sB,seval]; try rfl,by simp⟩ ?_
 rintro m T _ ⟨rfl,i,rfl,hi,t0,t1,t5,hx⟩
 by_cases hlt:i<l.length
 case neg=>
  obtain rfl:i=l.length:=om
  have hlt':¬(l.length:Int)<(l.length:Int):=om
  rw[List.take_length]at hx
  simp only[sA,sB,seval,t0,t1,t5,ln,hlt']
  exact⟨tt,by rw[hx]⟩
 have hlt':(i:Int)<(l.length:Int):=om
 obtain⟨y,hy⟩:∃y,l[i]?=some y:=⟨_,List.getElem?_eq_getElem hlt⟩
 have io:=c.idx .i64 (i:=i) (by rw[List.length_map]; exact hlt)
 have lo:=c.load (i:=i) (x:=.str y) (by rw[List.getElem?_map,hy]; rfl)
 have wk:IntKind.i64.wrap ((i:Int)+1)=((i+1:Nat):Int):=addN i 1 om
 by_cases he:y=x
 ·subst he
  simp only[sA,sB,seval,t0,t1,t5,ln,hlt',io,lo]
  refine⟨tt,?_⟩
  have:l.contains y=true:=by simpa using List.mem_of_getElem? hy
  rw[this]
 ·simp only[sA,sB,seval,t0,t1,t5,ln,hlt',io,lo,he,wk]
  refine⟨l.length-(i+1),om,tt,i+1,rfl,om,tt,tt,tt,?_⟩
  rw[List.take_add_one,hy]
  simp only[Option.toList_some,List.contains_eq_mem,List.mem_append,List.mem_singleton,decide_eq_false_iff_not]at hx ⊢
  rintro (h | h)
  ·exact hx h
  ·exact he h.symm
theorem name_whole{s:Bs}{w:Wd}(hn:nextW s 0=.ok w)(hk:w.k=2):(w.at_=0∧w.en=s.length)↔w.S=s:=by
 unfold nextW at hn
 split at hn
 ·simp at hn
 split at hn
 ·simp at hn
 split at hn
 ·simp only[Except.ok.injEq]at hn; subst hn; simp at hk
 rename_i h3
 have hle:=skipF_le s 0
 generalize skipF s 0=j at *
 split at hn
 ·rename_i t ht
  simp only[Except.ok.injEq]at hn
  subst hn
  simp only at hk ⊢
  unfold oneF at ht
  split at ht
  ·simp at ht
  rename_i c hc
  split at ht
  ·split at ht
   ·simp only[sJ]at ht; subst ht; simp at hk
   ·simp at ht
  split at ht
  ·simp only[sJ]at ht
   subst ht
   have h1:=runF_ge bgd s j
   have h2:=runF_le (p:=bgd) hle
   simp only at hk ⊢
   generalize runF bgd s j=e at *
   constructor
   ·rintro ⟨rfl,rfl⟩
    simp[sub]
   ·intro h
    have hl:=congrArg List.length h
    simp only[sub,List.length_take,List.length_drop]at hl
    omega
  ·split at ht
   ·simp at ht
   ·simp only[sJ]at ht; subst ht; simp at hk
 ·simp at hn
theorem fname_spec(s:Bs){H:AHeap}:ACalls Tryz.prog natT 85 [.str s] H fun u H'=>u=.bool (nameF s)∧Ext H.next H H':=by
 refine acalls_ofN rfl za85 rfl ?_
 simp only[c85,sA,sB,seval]
 refine (rnext_spec nwoT (s:=s) (p:=((0:Nat):Int)) om om).mono ?_
 rintro v H1 ⟨rfl,E1⟩
 have e1:=E1.next
 obtain⟨H2,m2,r2,n2,k2⟩:=row_newL H1 [.int .u8 0,.str [],.int .i64 0,.int .i64 0,.int .i64 0,.int .i64 0] (n:=6) rfl
 obtain⟨H3,m3,r3,n3,k3⟩:=row_newL H2 [.int .i64 0,.int .i64 0] (n:=2) rfl
 cases hn:nextW s 0 with
 | error e=>
  rw[nextA_bad hn]
  have he:=nextW_err hn
  have he':¬(e.1:Int)=0:=om
  obtain⟨H4,m4,r4,n4,k4⟩:=row_storeN (H:=H3) (r2.same (k3 _ om)) (n:=6) rfl (xs:=wdL 0 [] 0 0 0 0) rfl rfl
  obtain⟨H5,m5,r5,n5,k5⟩:=row_storeN (H:=H4) (r3.same (k4 _ om)) (n:=2) rfl (xs:=flL e.1 e.2) rfl rfl
  have l5:oLoad false 1 H5 (cellR H2.next 2 0)=some (.int .i64 (e.1:Int)):=row_load r5 rfl rfl
  have hf:nameF s=false:=by unfold nameF; rw[hn]
  simp only[sA,sB,seval,pairA,ext_0,ext_1,m2,m3,m4,m5,fld0,l5,he',hf]
  exact⟨tt,om,fun c hc=>by rw[k5 c om,k4 c om,k3 c om,k2 c om,E1.old c hc]⟩
 | ok w=>
  rw[nextA_ok hn]
  obtain⟨H4,m4,r4,n4,k4⟩:=row_storeN (H:=H3) (r2.same (k3 _ om)) (n:=6) rfl (xs:=wdL w.k w.S w.n w.line w.at_ w.en) rfl rfl
  obtain⟨H5,m5,r5,n5,k5⟩:=row_storeN (H:=H4) (r3.same (k4 _ om)) (n:=2) rfl (xs:=flL 0 0) rfl rfl
  have r45:=r4.same (k5 _ om)
  have l5:oLoad false 1 H5 (cellR H2.next 2 0)=some (.int .i64 0):=row_load r5 rfl rfl
  have q0:oLoad false 1 H5 (cellR H1.next 6 0)=some (.int .u8 (w.k:Int)):=row_load r45 rfl rfl
  have q4:oLoad false 1 H5 (cellR H1.next 6 4)=some (.int .i64 (w.at_:Int)):=row_load r45 rfl rfl
  have q5:oLoad false 1 H5 (cellR H1.next 6 5)=some (.int .i64 (w.en:Int)):=row_load r45 rfl rfl
  have E5:Ext H.next H H5:=⟨om,fun c hc=>by rw[k5 c om,k4 c om,k3 c om,k2 c om,E1.old c hc]⟩
  by_cases hk:w.k=2
  ·have hk':(w.k:Int)=2:=om
   have hf:nameF s=decide (w.S=s):=by unfold nameF; rw[hn]; simp only[hk]; rfl
   have hw:=name_whole hn hk
   by_cases ha:w.at_=0
   ·have ha':(w.at_:Int)=0:=om
    by_cases hb:w.en=s.length
    ·have hb':(w.en:Int)=(s.length:Int):=om
     have hf':nameF s=true:=by rw[hf,decide_eq_true (hw.1 ⟨ha,hb⟩)]
     simp only[sA,sB,seval,pairA,ext_0,ext_1,m2,m3,m4,m5,fld0,fldA,l5,q0,q4,q5,hk',ha',hb',hf']
     exact⟨tt,E5⟩
    ·have hb':¬(w.en:Int)=(s.length:Int):=om
     have hf':nameF s=false:=by rw[hf,decide_eq_false fun h=>hb (hw.2 h).2]
     simp only[sA,sB,seval,pairA,ext_0,ext_1,m2,m3,m4,m5,fld0,fldA,l5,q0,q4,q5,hk',ha',hb',hf']
     exact⟨tt,E5⟩
   ·have ha':¬(w.at_:Int)=0:=om
    have hf':nameF s=false:=by rw[hf,decide_eq_false fun h=>ha (hw.2 h).1]
    simp only[sA,sB,seval,pairA,ext_0,ext_1,m2,m3,m4,m5,fld0,fldA,l5,q0,q4,hk',ha',hf']
    exact⟨tt,E5⟩
  ·have hk':¬(w.k:Int)=2:=om
   have hf:nameF s=false:=by
    unfold nameF; rw[hn]
    have:Nat.beq w.k 2=false:=by rw[beq_dec]; exact decide_eq_false hk
    simp only[this]; rfl
   simp only[sA,sB,seval,pairA,ext_0,ext_1,m2,m3,m4,m5,fld0,fldA,l5,q0,hk',hf]
   exact⟨tt,E5⟩
open Go.Abs Go.Abs.S
theorem oksE_take{l:List Ex}{i:Nat}{e:Ex}(h:l[i]?=some e):oksE (l.take (i+1))=(oksE (l.take i)&&okE e):=by
 have hts:l.take (i+1)=l.take i++[e]:=by rw[List.take_add_one,h]; rfl
 rw[hts,oksE_app]; simp[oksE]
theorem oksE_bad:∀{l:List Ex} {i:Nat} {e:Ex},l[i]?=some e→okE e=false→oksE l=false
 | [],_,_,h,_=>by simp at h
 | x::l,0,e,h,h2=>by simp only[List.getElem?_cons_zero,sJ]at h; subst h; simp[oksE,h2]
 | x::l,i+1,e,h,h2=>by rw[List.getElem?_cons_succ]at h; simp[oksE,oksE_bad h h2]
theorem sl12(H:AHeap):aBuildSl 12 [.str []] H [(0,1,.str [124,124]),(1,1,.str [38,38]),(2,1,.str [61,61]),(3,1,.str [33,61]),(4,1,.str [60,61]),(5,1,.str [62,61]),(6,1,.str [60]),(7,1,.str [62]),(8,1,.str [43]),(9,1,.str [45]),(10,1,.str [42]),(11,1,.str [47])] =
  some (slR H.next 12 (.known 12),H.push (.cells (([[124,124],[38,38],[61,61],[33,61],[60,61],[62,61],[60],[62],[43],[45],[42],[47]]:List Bs).map AVal.str) 0 false)):=rfl
theorem fexpr_spec:∀(N:Nat) {e:Ex} {c:List AVal} {H:AHeap},e.size≤N→e.size≤1000000→XE (·<H.next) H e c →
  ACalls Tryz.prog natT 86 [.agg c] H fun u H'=>u=.bool (okE e)∧Ext H.next H H'
 | 0,e,_,_,h,_,_=>absurd (sizeE_pos e) om
 | N+1,.mk k s z kids,c,H,h,hs,hx=>by
  obtain⟨v,C,rfl,z1,z2⟩:=hx
  have hsz:(Ex.mk k s z kids).size=sizesE kids+1:=rfl
  have hok:okE (.mk k s z kids)=(partF k s z kids.length&&oksE kids):=rfl
  refine acalls_ofN rfl za86 rfl ?_
  obtain⟨H1,m1,r1,n1,k1⟩:=row_newL H [.int .u8 (k:Int),.str s,.int .i64 z,v] (n:=4) rfl
  have E1:Ext H.next H H1:=⟨om,fun c hc=>k1 c om⟩
  have ln:=z1.len
  have hlen:=len_sizesE kids
  simp only[c86,sA,sB,seval,cells_agg,m1]
  refine aw_loop (fun m (T:Env) K=>∃(i:Nat),m=kids.length-i∧i≤kids.length∧T 1=cellR H.next 4 0∧T 3=.int .i64 (i:Int)∧Ext H1.next H1 K∧oksE (kids.take i)=true) kids.length
   ⟨0,rfl,Nat.zero_le _,by simp only[sA,sB,seval],by simp only[sA,sB,seval]; try rfl,Ext.refl _ _,by simp[oksE]⟩ ?_
  rintro m T K ⟨i,rfl,hi,t1,t3,FK,hK⟩
  have eK:=FK.next
  have rK:=r1.same (FK.old _ om)
  have l0:oLoad false 1 K (cellR H.next 4 0)=some (.int .u8 (k:Int)):=row_load rK rfl rfl
  have l1:oLoad false 1 K (cellR H.next 4 1)=some (.str s):=row_load rK rfl rfl
  have l2:oLoad false 1 K (cellR H.next 4 2)=some (.int .i64 z):=row_load rK rfl rfl
  have l3:oLoad false 1 K (cellR H.next 4 3)=some v:=row_load rK rfl rfl
  have EK:Ext H.next H K:=E1.trans (FK.less om)
  by_cases hlt:i<kids.length
  ·have hlt':(i:Int)<(kids.length:Int):=om
   obtain⟨e,he⟩:∃e,kids[i]?=some e:=⟨_,List.getElem?_eq_getElem hlt⟩
   have km:∀b,b<H.next→b<K.next∧K.get b=H.get b:=fun b hb=>⟨by have:=EK.next; omega,EK.old b hb⟩
   have z13:=z1.mono km
   have ix:=z13.idx hlt
   have ld:=z13.load hlt
   have he3:=(z2.mono km).at he
   have hsm:=size_mem (List.mem_of_getElem? he)
   have wi:IntKind.i64.wrap ((i:Int)+1)=((i+1:Nat):Int):=addN i 1 om
   simp only[sA,sB,seval,t1,t3,fldA,l3,ln,hlt',ix,ld]
   refine (fexpr_spec N om om he3).mono ?_
   rintro _ K2 ⟨rfl,E3⟩
   cases hb:okE e with
   | true=>
    simp only[sA,sB,seval,t1,t3,wi]
    exact⟨kids.length-(i+1),om,i+1,rfl,om,tt,tt,FK.trans (E3.less om),by rw[oksE_take he,hK,hb]; rfl⟩
   | false=>
    have hf:okE (.mk k s z kids)=false:=by rw[hok,oksE_bad he hb,Bool.and_false]
    simp only[sA,sB,seval,hf]
    exact⟨tt,EK.trans (E3.less EK.next)⟩
  obtain rfl:i=kids.length:=om
  have hlt':¬(kids.length:Int)<(kids.length:Int):=om
  rw[List.take_length]at hK
  rw[hok,hK,Bool.and_true]
  obtain⟨P,hPd⟩:∃P,P=partF k s z kids.length:=⟨_,rfl⟩
  rw[← hPd]
  have hP:P=if k=1 then decide (0≤z)&&(s.isEmpty&&Nat.beq kids.length 0) else if k=2 then decide (z=0)&&(nameF s&&Nat.beq kids.length 0) else if k=3 then decide (z=0)&&opF s kids.length else if k=4 then decide (z=0)&&nameF s else false:=hPd
  clear hPd hok
  rw[beq_dec]at hP
  have hfin:∀{b:Bool} {K2:AHeap},P=b→Ext K.next K K2→b=P∧Ext H.next H K2:=fun h q=>⟨h.symm,EK.trans (q.less EK.next)⟩
  have R:=Ext.refl K.next K
  by_cases k1':k=1
  ·have k1i:(k:Int)=1:=om
   rw[if_pos k1']at hP
   by_cases hz:0≤z
   ·by_cases hse:s=[]
    ·by_cases hk0:(kids.length:Int)=0
     ·simp only[sA,sB,seval,t1,t3,fldA,fld0,l0,l1,l2,l3,ln,hlt',k1i,hz,hse,hk0]
      refine hfin ?_ R
      rw[hP,decide_eq_true hz,hse,decide_eq_true (show kids.length=0 by omega)]; rfl
     ·simp only[sA,sB,seval,t1,t3,fldA,fld0,l0,l1,l2,l3,ln,hlt',k1i,hz,hse,hk0]
      refine hfin ?_ R
      rw[hP,decide_eq_false (show ¬kids.length=0 by omega),Bool.and_false,Bool.and_false]
    ·simp only[sA,sB,seval,t1,t3,fldA,fld0,l0,l1,l2,l3,ln,hlt',k1i,hz,hse]
     refine hfin ?_ R
     rw[hP,show s.isEmpty=false by cases s <;> simp_all,Bool.false_and,Bool.and_false]
   ·simp only[sA,sB,seval,t1,t3,fldA,fld0,l0,l1,l2,l3,ln,hlt',k1i,hz]
    refine hfin ?_ R
    rw[hP,decide_eq_false hz,Bool.false_and]
  have k1i:¬(k:Int)=1:=om
  rw[if_neg k1']at hP
  by_cases hz:z=0
  rotate_left
  ·have hP':P=false:=by
    rw[hP,decide_eq_false hz]; simp
   by_cases k2:(k:Int)=2
   ·simp only[sA,sB,seval,t1,t3,fldA,fld0,l0,l1,l2,l3,ln,hlt',k1i,k2,hz]
    exact hfin hP' R
   by_cases k3:(k:Int)=3
   ·simp only[sA,sB,seval,t1,t3,fldA,fld0,l0,l1,l2,l3,ln,hlt',k1i,k2,k3,hz]
    exact hfin hP' R
   by_cases k4:(k:Int)=4
   ·simp only[sA,sB,seval,t1,t3,fldA,fld0,l0,l1,l2,l3,ln,hlt',k1i,k2,k3,k4,hz]
    exact hfin hP' R
   simp only[sA,sB,seval,t1,t3,fldA,fld0,l0,l1,l2,l3,ln,hlt',k1i,k2,k3,k4]
   exact hfin hP' R
  rw[decide_eq_true hz,Bool.true_and,Bool.true_and,Bool.true_and]at hP
  by_cases k2:k=2
  ·have k2i:(k:Int)=2:=om
   rw[if_pos k2]at hP
   simp only[sA,sB,seval,t1,t3,fldA,fld0,l0,l1,l2,l3,ln,hlt',k1i,k2i,hz]
   refine (fname_spec s).mono ?_
   rintro _ K2 ⟨rfl,E3⟩
   have l3':oLoad false 1 K2 (cellR H.next 4 3)=some v:=row_load (rK.same (E3.old _ (by have:=E1.next; omega))) rfl rfl
   cases hb:nameF s with
   | true=>
    rw[hb,Bool.true_and]at hP
    by_cases hk0:(kids.length:Int)=0
    ·simp only[sA,sB,seval,t1,t3,fldA,l3',ln,hk0]
     exact hfin (by rw[hP]; exact decide_eq_true om) E3
    ·simp only[sA,sB,seval,t1,t3,fldA,l3',ln,hk0]
     exact hfin (by rw[hP]; exact decide_eq_false om) E3
   | false=>
    rw[hb,Bool.false_and]at hP
    simp only[sA,sB,seval]
    exact hfin hP E3
  have k2i:¬(k:Int)=2:=om
  rw[if_neg k2]at hP
  by_cases k3:k=3
  ·have k3i:(k:Int)=3:=om
   rw[if_pos k3]at hP
   have ql:∀{K2:AHeap},Ext K.next K K2→oLoad false 1 K2 (cellR H.next 4 3)=some v:=fun q=>row_load (rK.same (q.old _ (by have:=E1.next; omega))) rfl rfl
   by_cases q2:kids.length=2
   ·have q2i:(kids.length:Int)=2:=om
    rw[q2]at hP
    have hop:opF s 2=([[124,124],[38,38],[61,61],[33,61],[60,61],[62,61],[60],[62],[43],[45],[42],[47]]:List Bs).contains s:=rfl
    rw[hop]at hP
    simp only[sA,sB,seval,t1,t3,fldA,fld0,l0,l1,l2,l3,ln,hlt',k1i,k2i,k3i,hz,q2i,sl12]
    have E3:=(Ext.refl K.next K).push rL (.cells (([[124,124],[38,38],[61,61],[33,61],[60,61],[62,61],[60],[62],[43],[45],[42],[47]]:List Bs).map AVal.str) 0 false)
    refine (fhas_spec (l:=[[124,124],[38,38],[61,61],[33,61],[60,61],[62,61],[60],[62],[43],[45],[42],[47]]) ((row_push K _).cel rfl (Nat.lt_succ_self _)) s (by simp)).mono ?_
    rintro _ _ ⟨rfl,rfl⟩
    generalize ([[124,124],[38,38],[61,61],[33,61],[60,61],[62,61],[60],[62],[43],[45],[42],[47]]:List Bs).contains s=b at *
    cases b with
    | true=>simp only[sA,sB,seval]; exact hfin hP E3
    | false=>
     simp only[sA,sB,seval,t1,t3,fldA,ql E3,ln,q2i]
     exact hfin hP E3
   have q2i:¬(kids.length:Int)=2:=om
   by_cases q1:kids.length=1
   ·have q1i:(kids.length:Int)=1:=om
    rw[q1]at hP
    have hop:opF s 1=([[45],[33]]:List Bs).contains s:=rfl
    rw[hop]at hP
    simp only[sA,sB,seval,t1,t3,fldA,fld0,l0,l1,l2,l3,ln,hlt',k1i,k2i,k3i,hz,q2i,q1i,sls2]
    have E3:=(Ext.refl K.next K).push rL (.cells [.str [45],.str [33]] 0 false)
    refine (fhas_spec (l:=[[45],[33]]) ((row_push K _).cel rfl (Nat.lt_succ_self _)) s (by simp)).mono ?_
    rintro _ _ ⟨rfl,rfl⟩
    generalize ([[45],[33]]:List Bs).contains s=b at *
    cases b with
    | true=>simp only[sA,sB,seval]; exact hfin hP E3
    | false=>simp only[sA,sB,seval]; exact hfin hP E3
   have q1i:¬(kids.length:Int)=1:=om
   have hop:opF s kids.length=false:=by
    unfold opF
    split
    ·omega
    ·omega
    ·rfl
   rw[hop]at hP
   simp only[sA,sB,seval,t1,t3,fldA,fld0,l0,l1,l2,l3,ln,hlt',k1i,k2i,k3i,hz,q2i,q1i]
   exact hfin hP R
  have k3i:¬(k:Int)=3:=om
  rw[if_neg k3]at hP
  by_cases k4:k=4
  ·have k4i:(k:Int)=4:=om
   rw[if_pos k4]at hP
   simp only[sA,sB,seval,t1,t3,fldA,fld0,l0,l1,l2,l3,ln,hlt',k1i,k2i,k3i,k4i,hz]
   refine (fname_spec s).mono ?_
   rintro _ K2 ⟨rfl,E3⟩
   generalize nameF s=b at *
   cases b with
   | true=>simp only[sA,sB,seval]; exact hfin hP E3
   | false=>simp only[sA,sB,seval]; exact hfin hP E3
  have k4i:¬(k:Int)=4:=om
  rw[if_neg k4]at hP
  simp only[sA,sB,seval,t1,t3,fldA,fld0,l0,l1,l2,l3,ln,hlt',k1i,k2i,k3i,k4i]
  exact hfin hP R
open Go.Abs Go.Abs.S
theorem nev_bool(a b:Bool):aPf (.eqv true .bool) [.bool a,.bool b]=some (.bool (a != b)):=by
 cases a <;> cases b <;> rfl
theorem tt_ne_tt:(true != true)=false:=rfl
theorem tt_ne_ff:(true != false)=true:=rfl
theorem ff_ne_tt:(false != true)=true:=rfl
theorem ff_ne_ff:(false != false)=false:=rfl
theorem nameF_nil:nameF []=false:=rfl
theorem oksS_take{l:List St}{i:Nat}{e:St}(h:l[i]?=some e):oksS (l.take (i+1))=(oksS (l.take i)&&okS e):=by
 have hts:l.take (i+1)=l.take i++[e]:=by rw[List.take_add_one,h]; rfl
 rw[hts,oksS_app]; simp[oksS]
theorem oksS_bad:∀{l:List St} {i:Nat} {e:St},l[i]?=some e→okS e=false→oksS l=false
 | [],_,_,h,_=>by simp at h
 | x::l,0,e,h,h2=>by simp only[List.getElem?_cons_zero,sJ]at h; subst h; simp[oksS,h2]
 | x::l,i+1,e,h,h2=>by rw[List.getElem?_cons_succ]at h; simp[oksS,oksS_bad h h2]
theorem fstmts_spec:∀(N:Nat) {l:List St} {C:List AVal} {v:AVal} {H:AHeap},sizesS l≤N→sizesS l≤1000000→SlK (·<H.next) H 9 v l.length C→XSs (·<H.next) H l C →
  ACalls Tryz.prog natT 41 [v] H fun u H'=>u=.bool (oksS l)∧Ext H.next H H':=by
 intro N
 induction N with
 | zero=>
  intro l C v H h hs z1 z2
  have hl0:l=[]:=by
   cases l with
   | nil=>rfl
   | cons x l=>have:=sizeS_pos x; simp only[sizesS]at h; omega
  subst hl0
  have ln:=z1.len
  have h0:¬(0:Int)<(([]:List St).length:Int):=by simp
  refine acalls_ofN rfl za41 rfl ?_
  simp only[c41,sA,sB,seval]
  refine aw_loop (fun m (T:Env) K=>H=K∧T 0=v∧T 3=.int .i64 0) 0 ⟨rfl,by simp only[sA,sB,seval],by simp only[sA,sB,seval]⟩ ?_
  rintro m T K ⟨rfl,t0,t3⟩
  simp only[sA,sB,seval,t0,t3,ln,h0]
  exact⟨rfl,Ext.refl _ _⟩
 | succ N ih=>
  intro l C v H h hs z1 z2
  have ln:=z1.len
  refine acalls_ofN rfl za41 rfl ?_
  simp only[c41,sA,sB,seval]
  refine aw_loop (fun m (T:Env) K=>∃(i:Nat),m=l.length-i∧i≤l.length∧T 0=v∧T 3=.int .i64 (i:Int)∧Ext H.next H K∧oksS (l.take i)=true) l.length
   ⟨0,rfl,Nat.zero_le _,by simp only[sA,sB,seval],by simp only[sA,sB,seval]; try rfl,Ext.refl _ _,by simp[oksS]⟩ ?_
  rintro m T K ⟨i,rfl,hi,t0,t3,EK,hK⟩
  have eK:=EK.next
  by_cases hlt:i<l.length
  case neg=>
   obtain rfl:i=l.length:=om
   have hlt':¬(l.length:Int)<(l.length:Int):=om
   rw[List.take_length]at hK
   rw[hK]
   simp only[sA,sB,seval,t0,t3,ln,hlt']
   exact⟨tt,EK⟩
  have hlt':(i:Int)<(l.length:Int):=om
  obtain⟨x,he⟩:∃e,l[i]?=some e:=⟨_,List.getElem?_eq_getElem hlt⟩
  have km:∀b,b<H.next→b<K.next∧K.get b=H.get b:=fun b hb=>⟨om,EK.old b hb⟩
  have z13:=z1.mono km
  have ix:=z13.idx hlt
  have ld:=z13.load hlt
  have hsm:=size_memS (List.mem_of_getElem? he)
  have hlen:=len_sizesS l
  have wi:IntKind.i64.wrap ((i:Int)+1)=((i+1:Nat):Int):=addN i 1 om
  have hx3:=(z2.mono km).at he
  have hone:=hx3.one
  have hbad:=fun h=>oksS_bad he h
  have htk:=oksS_take he
  obtain⟨k,s,e,body,els,line⟩:=x
  obtain⟨ce,vb,Cb,ve,Ce,hcell,x1,y1,y2,y3,y4⟩:=hx3
  obtain⟨c0,c1,c2,c3,rfl⟩:∃a b c d,ce=[a,b,c,d]:=by
   have:=x1.len
   match ce,this with
   | [a,b,c,d],_=>exact⟨a,b,c,d,rfl⟩
  rw[hcell]at ld hone
  have hsz:(St.mk k s e body els line).size=e.size+sizesS body+sizesS els+1:=rfl
  have hok:okS (St.mk k s e body els line)=(lineF' k s body.length els.length&&(okE e&&(oksS body&&oksS els))):=rfl
  obtain⟨K1,m1,r1,n1,k1⟩:=row_newL K [.int .u8 0,.str [],.int .u8 0,.str [],.int .i64 0,.slice none 0 (.known 0),.slice none 0 (.known 0),.slice none 0 (.known 0),.int .i64 0] (n:=9) rfl
  obtain⟨K2,m2,r2,n2,k2⟩:=row_storeN r1 (n:=9) rfl (xs:=.int .u8 (k:Int)::.str s::([c0,c1,c2,c3]++[vb,ve,.int .i64 line])) rfl hone
  simp only[List.cons_append,List.nil_append]at ld m2 r2 hone
  obtain⟨b5,hb5⟩:∃b,b=K.next:=⟨_,rfl⟩
  rw[← hb5]at m1 m2 r2 k2 k1
  have E2:Ext K.next K K2:=⟨om,fun c hc=>by rw[k2 c om,k1 c om]⟩
  have e2:=E2.next
  have kk:∀{K':AHeap},Ext K.next K K'→∀b,b<K.next→b<K'.next∧K'.get b=K.get b:=fun q b hb=>⟨by have:=q.next; omega,q.old b hb⟩
  have rr:∀{J:AHeap},Ext K2.next K2 J→Row J b5 [.int .u8 (k:Int),.str s,c0,c1,c2,c3,vb,ve,.int .i64 line]:=fun q=>r2.same (q.old _ om)
  have l0:∀{J:AHeap},Ext K2.next K2 J→oLoad false 1 J (cellR b5 9 0)=some (.int .u8 (k:Int)):=fun q=>row_load (rr q) rfl rfl
  have l1:∀{J:AHeap},Ext K2.next K2 J→oLoad false 1 J (cellR b5 9 1)=some (.str s):=fun q=>row_load (rr q) rfl rfl
  have l2:∀{J:AHeap},Ext K2.next K2 J→oLoad true 4 J (cellR b5 9 2)=some (.agg [c0,c1,c2,c3]):=fun q=>row_loadK (rr q) (n:=9) rfl (i:=2) (k:=4) om
  have l6:∀{J:AHeap},Ext K2.next K2 J→oLoad false 1 J (cellR b5 9 6)=some vb:=fun q=>row_load (rr q) rfl rfl
  have l7:∀{J:AHeap},Ext K2.next K2 J→oLoad false 1 J (cellR b5 9 7)=some ve:=fun q=>row_load (rr q) rfl rfl
  have R2:=Ext.refl K2.next K2
  have lb:=y1.len
  have le:=y3.len
  obtain⟨P,hP⟩:∃P,P=oksS l:=⟨_,rfl⟩
  rw[← hP]at hbad ⊢
  have bad:∀{J:AHeap},okS (St.mk k s e body els line)=false→Ext K2.next K2 J→false=P∧Ext H.next H J:=fun h q=>⟨(hbad h).symm,EK.trans ((E2.trans (q.less e2)).less eK)⟩
  have up2:∀{J:AHeap},Ext K2.next K2 J→Ext K.next K J:=fun q=>E2.trans (q.less e2)
  by_cases kk1:k=1
  ·have k1i:(k:Int)=1:=om
   have hl:lineF' k s body.length els.length=(nameF s&&(Nat.beq body.length 0&&Nat.beq els.length 0)):=by
    obtain rfl:k=1:=om
    rfl
   rw[hl]at hok
   rw[k1i]at ld m2
   simp only[sA,sB,seval,t0,t3,ln,hlt',ix,ld,m1,m2,fldA,fld0,l0 R2,l1 R2,k1i]
   refine (fname_spec s).mono ?_
   rintro _ K3 ⟨rfl,E3⟩
   have e3:=E3.next
   cases hn:nameF s with
   | false=>
    simp only[sA,sB,seval,nev_bool,tt_ne_ff]
    exact bad (by rw[hok,hn,Bool.false_and,Bool.false_and]) E3
   | true=>
   simp only[sA,sB,seval,nev_bool,tt_ne_tt,fldA,fld0,l0 E3,l1 E3,l2 E3,k1i]
   refine (fexpr_spec e.size rL om (x1.mono (kk (up2 E3)))).mono ?_
   rintro _ K4 ⟨rfl,E4⟩
   have e4:=E4.next
   have E24:=E3.trans (E4.less e3)
   cases hx:okE e with
   | false=>
    simp only[sA,sB,seval]
    exact bad (by rw[hok,hx,Bool.false_and,Bool.and_false]) E24
   | true=>
   rw[hx,Bool.true_and]at hok
   by_cases q7:(0:Int)<(els.length:Int)
   ·simp only[sA,sB,seval,fldA,fld0,l0 E24,l6 E24,l7 E24,le,q7,k1i]
    exact bad (by rw[hok,beq_dec els.length,show decide (els.length=0)=false from decide_eq_false om]; simp) E24
   by_cases q6:(0:Int)<(body.length:Int)
   ·simp only[sA,sB,seval,fldA,fld0,l0 E24,l6 E24,l7 E24,le,lb,q7,q6,k1i]
    exact bad (by rw[hok,beq_dec body.length,show decide (body.length=0)=false from decide_eq_false om]; simp) E24
   simp only[sA,sB,seval,fldA,fld0,l0 E24,l6 E24,l7 E24,le,lb,q7,q6,k1i]
   refine (ih om om (y1.mono (kk (up2 E24))) (y2.mono (kk (up2 E24)))).mono ?_
   rintro _ K5 ⟨rfl,E5⟩
   have e5:=E5.next
   have E25:=E24.trans (E5.less om)
   cases hy:oksS body with
   | false=>
    simp only[sA,sB,seval]
    exact bad (by rw[hok,hy,Bool.false_and,Bool.and_false]) E25
   | true=>
   rw[hy,Bool.true_and]at hok
   simp only[sA,sB,seval,fldA,fld0,l7 E25]
   refine (ih om om (y3.mono (kk (up2 E25))) (y4.mono (kk (up2 E25)))).mono ?_
   rintro _ K6 ⟨rfl,E6⟩
   have e6:=E6.next
   have E26:=E25.trans (E6.less om)
   cases hz:oksS els with
   | false=>
    simp only[sA,sB,seval]
    exact bad (by rw[hok,hz,Bool.and_false]) E26
   | true=>
   simp only[sA,sB,seval,t0,t3,wi]
   exact⟨l.length-(i+1),om,i+1,rfl,om,tt,tt,EK.trans ((up2 E26).less eK),by rw[htk,hK,hok,hz,hn,show body.length=0 by omega,show els.length=0 by omega]; rfl⟩
  by_cases kk2:k=2
  ·have k2i:(k:Int)=2:=om
   have k1i:¬(k:Int)=1:=om
   have hl:lineF' k s body.length els.length=(nameF s&&(Nat.beq body.length 0&&Nat.beq els.length 0)):=by
    obtain rfl:k=2:=om
    rfl
   rw[hl]at hok
   rw[k2i]at ld m2
   simp only[sA,sB,seval,t0,t3,ln,hlt',ix,ld,m1,m2,fldA,fld0,l0 R2,l1 R2,k1i,k2i]
   refine (fname_spec s).mono ?_
   rintro _ K3 ⟨rfl,E3⟩
   have e3:=E3.next
   cases hn:nameF s with
   | false=>
    simp only[sA,sB,seval,nev_bool,tt_ne_ff]
    exact bad (by rw[hok,hn,Bool.false_and,Bool.false_and]) E3
   | true=>
   simp only[sA,sB,seval,nev_bool,tt_ne_tt,fldA,fld0,l0 E3,l1 E3,l2 E3,k1i,k2i]
   refine (fexpr_spec e.size rL om (x1.mono (kk (up2 E3)))).mono ?_
   rintro _ K4 ⟨rfl,E4⟩
   have e4:=E4.next
   have E24:=E3.trans (E4.less e3)
   cases hx:okE e with
   | false=>
    simp only[sA,sB,seval]
    exact bad (by rw[hok,hx,Bool.false_and,Bool.and_false]) E24
   | true=>
   rw[hx,Bool.true_and]at hok
   by_cases q7:(0:Int)<(els.length:Int)
   ·simp only[sA,sB,seval,fldA,fld0,l0 E24,l6 E24,l7 E24,le,q7,k1i,k2i]
    exact bad (by rw[hok,beq_dec els.length,show decide (els.length=0)=false from decide_eq_false om]; simp) E24
   by_cases q6:(0:Int)<(body.length:Int)
   ·simp only[sA,sB,seval,fldA,fld0,l0 E24,l6 E24,l7 E24,le,lb,q7,q6,k1i,k2i]
    exact bad (by rw[hok,beq_dec body.length,show decide (body.length=0)=false from decide_eq_false om]; simp) E24
   simp only[sA,sB,seval,fldA,fld0,l0 E24,l6 E24,l7 E24,le,lb,q7,q6,k1i,k2i]
   refine (ih om om (y1.mono (kk (up2 E24))) (y2.mono (kk (up2 E24)))).mono ?_
   rintro _ K5 ⟨rfl,E5⟩
   have e5:=E5.next
   have E25:=E24.trans (E5.less om)
   cases hy:oksS body with
   | false=>
    simp only[sA,sB,seval]
    exact bad (by rw[hok,hy,Bool.false_and,Bool.and_false]) E25
   | true=>
   rw[hy,Bool.true_and]at hok
   simp only[sA,sB,seval,fldA,fld0,l7 E25]
   refine (ih om om (y3.mono (kk (up2 E25))) (y4.mono (kk (up2 E25)))).mono ?_
   rintro _ K6 ⟨rfl,E6⟩
   have e6:=E6.next
   have E26:=E25.trans (E6.less om)
   cases hz:oksS els with
   | false=>
    simp only[sA,sB,seval]
    exact bad (by rw[hok,hz,Bool.and_false]) E26
   | true=>
   simp only[sA,sB,seval,t0,t3,wi]
   exact⟨l.length-(i+1),om,i+1,rfl,om,tt,tt,EK.trans ((up2 E26).less eK),by rw[htk,hK,hok,hz,hn,show body.length=0 by omega,show els.length=0 by omega]; rfl⟩
  by_cases kk3:k=3
  ·have k3i:(k:Int)=3:=om
   have k1i:¬(k:Int)=1:=om
   have k2i:¬(k:Int)=2:=om
   have hl:lineF' k s body.length els.length=(s.isEmpty):=by
    obtain rfl:k=3:=om
    rfl
   rw[hl]at hok
   rw[k3i]at ld m2
   simp only[sA,sB,seval,t0,t3,ln,hlt',ix,ld,m1,m2,fldA,fld0,l0 R2,l1 R2,k1i,k2i,k3i]
   refine (fname_spec s).mono ?_
   rintro _ K3 ⟨rfl,E3⟩
   have e3:=E3.next
   cases hn:nameF s with
   | true=>
    simp only[sA,sB,seval,nev_bool,ff_ne_tt]
    have hse:s.isEmpty=false:=by
     cases s with
     | nil=>rw[nameF_nil]at hn; exact absurd hn (by simp)
     | cons a b=>rfl
    exact bad (by rw[hok,hse]; simp) E3
   | false=>
   by_cases hse:s=[]
   rotate_left
   ·simp only[sA,sB,seval,nev_bool,ff_ne_ff,fldA,fld0,l1 E3,hse]
    exact bad (by rw[hok,show s.isEmpty=false by cases s <;> simp_all]; simp) E3
   simp only[sA,sB,seval,nev_bool,ff_ne_ff,fldA,fld0,l0 E3,l1 E3,l2 E3,k1i,k2i,k3i,hse]
   refine (fexpr_spec e.size rL om (x1.mono (kk (up2 E3)))).mono ?_
   rintro _ K4 ⟨rfl,E4⟩
   have e4:=E4.next
   have E24:=E3.trans (E4.less e3)
   cases hx:okE e with
   | false=>
    simp only[sA,sB,seval]
    exact bad (by rw[hok,hx,Bool.false_and,Bool.and_false]) E24
   | true=>
   rw[hx,Bool.true_and]at hok
   by_cases q7:(0:Int)<(els.length:Int)
   ·by_cases q6:(0:Int)<(body.length:Int)
    ·simp only[sA,sB,seval,fldA,fld0,l0 E24,l6 E24,l7 E24,le,lb,q7,q6,k1i,k2i,k3i]
     refine (ih om om (y1.mono (kk (up2 E24))) (y2.mono (kk (up2 E24)))).mono ?_
     rintro _ K5 ⟨rfl,E5⟩
     have e5:=E5.next
     have E25:=E24.trans (E5.less om)
     cases hy:oksS body with
     | false=>
      simp only[sA,sB,seval]
      exact bad (by rw[hok,hy,Bool.false_and,Bool.and_false]) E25
     | true=>
     rw[hy,Bool.true_and]at hok
     simp only[sA,sB,seval,fldA,fld0,l7 E25]
     refine (ih om om (y3.mono (kk (up2 E25))) (y4.mono (kk (up2 E25)))).mono ?_
     rintro _ K6 ⟨rfl,E6⟩
     have e6:=E6.next
     have E26:=E25.trans (E6.less om)
     cases hz:oksS els with
     | false=>
      simp only[sA,sB,seval]
      exact bad (by rw[hok,hz,Bool.and_false]) E26
     | true=>
     simp only[sA,sB,seval,t0,t3,wi]
     exact⟨l.length-(i+1),om,i+1,rfl,om,tt,tt,EK.trans ((up2 E26).less eK),by rw[htk,hK,hok,hz,hse]; rfl⟩
    ·simp only[sA,sB,seval,fldA,fld0,l0 E24,l6 E24,l7 E24,le,lb,q7,q6,k1i,k2i,k3i]
     refine (ih om om (y1.mono (kk (up2 E24))) (y2.mono (kk (up2 E24)))).mono ?_
     rintro _ K5 ⟨rfl,E5⟩
     have e5:=E5.next
     have E25:=E24.trans (E5.less om)
     cases hy:oksS body with
     | false=>
      simp only[sA,sB,seval]
      exact bad (by rw[hok,hy,Bool.false_and,Bool.and_false]) E25
     | true=>
     rw[hy,Bool.true_and]at hok
     simp only[sA,sB,seval,fldA,fld0,l7 E25]
     refine (ih om om (y3.mono (kk (up2 E25))) (y4.mono (kk (up2 E25)))).mono ?_
     rintro _ K6 ⟨rfl,E6⟩
     have e6:=E6.next
     have E26:=E25.trans (E6.less om)
     cases hz:oksS els with
     | false=>
      simp only[sA,sB,seval]
      exact bad (by rw[hok,hz,Bool.and_false]) E26
     | true=>
     simp only[sA,sB,seval,t0,t3,wi]
     exact⟨l.length-(i+1),om,i+1,rfl,om,tt,tt,EK.trans ((up2 E26).less eK),by rw[htk,hK,hok,hz,hse]; rfl⟩
   ·by_cases q6:(0:Int)<(body.length:Int)
    ·simp only[sA,sB,seval,fldA,fld0,l0 E24,l6 E24,l7 E24,le,lb,q7,q6,k1i,k2i,k3i]
     refine (ih om om (y1.mono (kk (up2 E24))) (y2.mono (kk (up2 E24)))).mono ?_
     rintro _ K5 ⟨rfl,E5⟩
     have e5:=E5.next
     have E25:=E24.trans (E5.less om)
     cases hy:oksS body with
     | false=>
      simp only[sA,sB,seval]
      exact bad (by rw[hok,hy,Bool.false_and,Bool.and_false]) E25
     | true=>
     rw[hy,Bool.true_and]at hok
     simp only[sA,sB,seval,fldA,fld0,l7 E25]
     refine (ih om om (y3.mono (kk (up2 E25))) (y4.mono (kk (up2 E25)))).mono ?_
     rintro _ K6 ⟨rfl,E6⟩
     have e6:=E6.next
     have E26:=E25.trans (E6.less om)
     cases hz:oksS els with
     | false=>
      simp only[sA,sB,seval]
      exact bad (by rw[hok,hz,Bool.and_false]) E26
     | true=>
     simp only[sA,sB,seval,t0,t3,wi]
     exact⟨l.length-(i+1),om,i+1,rfl,om,tt,tt,EK.trans ((up2 E26).less eK),by rw[htk,hK,hok,hz,hse]; rfl⟩
    ·simp only[sA,sB,seval,fldA,fld0,l0 E24,l6 E24,l7 E24,le,lb,q7,q6,k1i,k2i,k3i]
     refine (ih om om (y1.mono (kk (up2 E24))) (y2.mono (kk (up2 E24)))).mono ?_
     rintro _ K5 ⟨rfl,E5⟩
     have e5:=E5.next
     have E25:=E24.trans (E5.less om)
     cases hy:oksS body with
     | false=>
      simp only[sA,sB,seval]
      exact bad (by rw[hok,hy,Bool.false_and,Bool.and_false]) E25
     | true=>
     rw[hy,Bool.true_and]at hok
     simp only[sA,sB,seval,fldA,fld0,l7 E25]
     refine (ih om om (y3.mono (kk (up2 E25))) (y4.mono (kk (up2 E25)))).mono ?_
     rintro _ K6 ⟨rfl,E6⟩
     have e6:=E6.next
     have E26:=E25.trans (E6.less om)
     cases hz:oksS els with
     | false=>
      simp only[sA,sB,seval]
      exact bad (by rw[hok,hz,Bool.and_false]) E26
     | true=>
     simp only[sA,sB,seval,t0,t3,wi]
     exact⟨l.length-(i+1),om,i+1,rfl,om,tt,tt,EK.trans ((up2 E26).less eK),by rw[htk,hK,hok,hz,hse]; rfl⟩
  by_cases kk4:k=4
  ·have k4i:(k:Int)=4:=om
   have k1i:¬(k:Int)=1:=om
   have k2i:¬(k:Int)=2:=om
   have k3i:¬(k:Int)=3:=om
   have hl:lineF' k s body.length els.length=(s.isEmpty&&Nat.beq els.length 0):=by
    obtain rfl:k=4:=om
    rfl
   rw[hl]at hok
   rw[k4i]at ld m2
   simp only[sA,sB,seval,t0,t3,ln,hlt',ix,ld,m1,m2,fldA,fld0,l0 R2,l1 R2,k1i,k2i,k3i,k4i]
   refine (fname_spec s).mono ?_
   rintro _ K3 ⟨rfl,E3⟩
   have e3:=E3.next
   cases hn:nameF s with
   | true=>
    simp only[sA,sB,seval,nev_bool,ff_ne_tt]
    have hse:s.isEmpty=false:=by
     cases s with
     | nil=>rw[nameF_nil]at hn; exact absurd hn (by simp)
     | cons a b=>rfl
    exact bad (by rw[hok,hse]; simp) E3
   | false=>
   by_cases hse:s=[]
   rotate_left
   ·simp only[sA,sB,seval,nev_bool,ff_ne_ff,fldA,fld0,l1 E3,hse]
    exact bad (by rw[hok,show s.isEmpty=false by cases s <;> simp_all]; simp) E3
   simp only[sA,sB,seval,nev_bool,ff_ne_ff,fldA,fld0,l0 E3,l1 E3,l2 E3,k1i,k2i,k3i,k4i,hse]
   refine (fexpr_spec e.size rL om (x1.mono (kk (up2 E3)))).mono ?_
   rintro _ K4 ⟨rfl,E4⟩
   have e4:=E4.next
   have E24:=E3.trans (E4.less e3)
   cases hx:okE e with
   | false=>
    simp only[sA,sB,seval]
    exact bad (by rw[hok,hx,Bool.false_and,Bool.and_false]) E24
   | true=>
   rw[hx,Bool.true_and]at hok
   by_cases q7:(0:Int)<(els.length:Int)
   ·simp only[sA,sB,seval,fldA,fld0,l0 E24,l6 E24,l7 E24,le,q7,k1i,k2i,k3i,k4i]
    exact bad (by rw[hok,beq_dec els.length,show decide (els.length=0)=false from decide_eq_false om]; simp) E24
   by_cases q6:(0:Int)<(body.length:Int)
   ·simp only[sA,sB,seval,fldA,fld0,l0 E24,l6 E24,l7 E24,le,lb,q7,q6,k1i,k2i,k3i,k4i]
    refine (ih om om (y1.mono (kk (up2 E24))) (y2.mono (kk (up2 E24)))).mono ?_
    rintro _ K5 ⟨rfl,E5⟩
    have e5:=E5.next
    have E25:=E24.trans (E5.less om)
    cases hy:oksS body with
    | false=>
     simp only[sA,sB,seval]
     exact bad (by rw[hok,hy,Bool.false_and,Bool.and_false]) E25
    | true=>
    rw[hy,Bool.true_and]at hok
    simp only[sA,sB,seval,fldA,fld0,l7 E25]
    refine (ih om om (y3.mono (kk (up2 E25))) (y4.mono (kk (up2 E25)))).mono ?_
    rintro _ K6 ⟨rfl,E6⟩
    have e6:=E6.next
    have E26:=E25.trans (E6.less om)
    cases hz:oksS els with
    | false=>
     simp only[sA,sB,seval]
     exact bad (by rw[hok,hz,Bool.and_false]) E26
    | true=>
    simp only[sA,sB,seval,t0,t3,wi]
    exact⟨l.length-(i+1),om,i+1,rfl,om,tt,tt,EK.trans ((up2 E26).less eK),by rw[htk,hK,hok,hz,hse,show els.length=0 by omega]; rfl⟩
   ·simp only[sA,sB,seval,fldA,fld0,l0 E24,l6 E24,l7 E24,le,lb,q7,q6,k1i,k2i,k3i,k4i]
    refine (ih om om (y1.mono (kk (up2 E24))) (y2.mono (kk (up2 E24)))).mono ?_
    rintro _ K5 ⟨rfl,E5⟩
    have e5:=E5.next
    have E25:=E24.trans (E5.less om)
    cases hy:oksS body with
    | false=>
     simp only[sA,sB,seval]
     exact bad (by rw[hok,hy,Bool.false_and,Bool.and_false]) E25
    | true=>
    rw[hy,Bool.true_and]at hok
    simp only[sA,sB,seval,fldA,fld0,l7 E25]
    refine (ih om om (y3.mono (kk (up2 E25))) (y4.mono (kk (up2 E25)))).mono ?_
    rintro _ K6 ⟨rfl,E6⟩
    have e6:=E6.next
    have E26:=E25.trans (E6.less om)
    cases hz:oksS els with
    | false=>
     simp only[sA,sB,seval]
     exact bad (by rw[hok,hz,Bool.and_false]) E26
    | true=>
    simp only[sA,sB,seval,t0,t3,wi]
    exact⟨l.length-(i+1),om,i+1,rfl,om,tt,tt,EK.trans ((up2 E26).less eK),by rw[htk,hK,hok,hz,hse,show els.length=0 by omega]; rfl⟩
  by_cases kk5:k=5
  ·have k5i:(k:Int)=5:=om
   have k1i:¬(k:Int)=1:=om
   have k2i:¬(k:Int)=2:=om
   have k3i:¬(k:Int)=3:=om
   have k4i:¬(k:Int)=4:=om
   have hl:lineF' k s body.length els.length=(s.isEmpty&&(Nat.beq body.length 0&&Nat.beq els.length 0)):=by
    obtain rfl:k=5:=om
    rfl
   rw[hl]at hok
   rw[k5i]at ld m2
   simp only[sA,sB,seval,t0,t3,ln,hlt',ix,ld,m1,m2,fldA,fld0,l0 R2,l1 R2,k1i,k2i,k3i,k4i,k5i]
   refine (fname_spec s).mono ?_
   rintro _ K3 ⟨rfl,E3⟩
   have e3:=E3.next
   cases hn:nameF s with
   | true=>
    simp only[sA,sB,seval,nev_bool,ff_ne_tt]
    have hse:s.isEmpty=false:=by
     cases s with
     | nil=>rw[nameF_nil]at hn; exact absurd hn (by simp)
     | cons a b=>rfl
    exact bad (by rw[hok,hse]; simp) E3
   | false=>
   by_cases hse:s=[]
   rotate_left
   ·simp only[sA,sB,seval,nev_bool,ff_ne_ff,fldA,fld0,l1 E3,hse]
    exact bad (by rw[hok,show s.isEmpty=false by cases s <;> simp_all]; simp) E3
   simp only[sA,sB,seval,nev_bool,ff_ne_ff,fldA,fld0,l0 E3,l1 E3,l2 E3,k1i,k2i,k3i,k4i,k5i,hse]
   refine (fexpr_spec e.size rL om (x1.mono (kk (up2 E3)))).mono ?_
   rintro _ K4 ⟨rfl,E4⟩
   have e4:=E4.next
   have E24:=E3.trans (E4.less e3)
   cases hx:okE e with
   | false=>
    simp only[sA,sB,seval]
    exact bad (by rw[hok,hx,Bool.false_and,Bool.and_false]) E24
   | true=>
   rw[hx,Bool.true_and]at hok
   by_cases q7:(0:Int)<(els.length:Int)
   ·simp only[sA,sB,seval,fldA,fld0,l0 E24,l6 E24,l7 E24,le,q7,k1i,k2i,k3i,k4i,k5i]
    exact bad (by rw[hok,beq_dec els.length,show decide (els.length=0)=false from decide_eq_false om]; simp) E24
   by_cases q6:(0:Int)<(body.length:Int)
   ·simp only[sA,sB,seval,fldA,fld0,l0 E24,l6 E24,l7 E24,le,lb,q7,q6,k1i,k2i,k3i,k4i,k5i]
    exact bad (by rw[hok,beq_dec body.length,show decide (body.length=0)=false from decide_eq_false om]; simp) E24
   simp only[sA,sB,seval,fldA,fld0,l0 E24,l6 E24,l7 E24,le,lb,q7,q6,k1i,k2i,k3i,k4i,k5i]
   refine (ih om om (y1.mono (kk (up2 E24))) (y2.mono (kk (up2 E24)))).mono ?_
   rintro _ K5 ⟨rfl,E5⟩
   have e5:=E5.next
   have E25:=E24.trans (E5.less om)
   cases hy:oksS body with
   | false=>
    simp only[sA,sB,seval]
    exact bad (by rw[hok,hy,Bool.false_and,Bool.and_false]) E25
   | true=>
   rw[hy,Bool.true_and]at hok
   simp only[sA,sB,seval,fldA,fld0,l7 E25]
   refine (ih om om (y3.mono (kk (up2 E25))) (y4.mono (kk (up2 E25)))).mono ?_
   rintro _ K6 ⟨rfl,E6⟩
   have e6:=E6.next
   have E26:=E25.trans (E6.less om)
   cases hz:oksS els with
   | false=>
    simp only[sA,sB,seval]
    exact bad (by rw[hok,hz,Bool.and_false]) E26
   | true=>
   simp only[sA,sB,seval,t0,t3,wi]
   exact⟨l.length-(i+1),om,i+1,rfl,om,tt,tt,EK.trans ((up2 E26).less eK),by rw[htk,hK,hok,hz,hse,show body.length=0 by omega,show els.length=0 by omega]; rfl⟩
  have k1i:¬(k:Int)=1:=om
  have k2i:¬(k:Int)=2:=om
  have k3i:¬(k:Int)=3:=om
  have k4i:¬(k:Int)=4:=om
  have k5i:¬(k:Int)=5:=om
  have hl:lineF' k s body.length els.length=false:=by
   unfold lineF'
   rw[if_neg om,if_neg om,if_neg om,if_neg om]
  rw[hl]at hok
  simp only[sA,sB,seval,t0,t3,ln,hlt',ix,ld,m1,m2,fldA,fld0,l0 R2,l1 R2,k1i,k2i,k3i,k4i,k5i]
  refine (fname_spec s).mono ?_
  rintro _ K3 ⟨rfl,E3⟩
  have e3:=E3.next
  cases hn:nameF s with
  | true=>
   simp only[sA,sB,seval,nev_bool,ff_ne_tt]
   exact bad (by rw[hok]; simp) E3
  | false=>
  by_cases hse:s=[]
  rotate_left
  ·simp only[sA,sB,seval,nev_bool,ff_ne_ff,fldA,fld0,l1 E3,hse]
   exact bad (by rw[hok]; simp) E3
  by_cases k0:(k:Int)<1
  ·simp only[sA,sB,seval,nev_bool,ff_ne_ff,fldA,fld0,l0 E3,l1 E3,k0,hse]
   exact bad (by rw[hok]; simp) E3
  have k5:(5:Int)<(k:Int):=om
  simp only[sA,sB,seval,nev_bool,ff_ne_ff,fldA,fld0,l0 E3,l1 E3,k0,k5,hse]
  exact bad (by rw[hok]; simp) E3
theorem fright_spec{l:List St}{C:List AVal}{v:AVal}{H:AHeap}(z1:SlK (·<H.next) H 9 v l.length C)(z2:XSs (·<H.next) H l C)(hs:sizesS l≤1000000) :
  ACalls Tryz.prog natT 16 [v] H fun u H'=>u=.bool (rightF l)∧Ext H.next H H':=by
 refine acalls_ofN rfl za16 rfl ?_
 simp only[c16,sA,sB,seval]
 refine (ffits_spec z1 z2 hs).mono ?_
 rintro _ H1 ⟨rfl,E1⟩
 have hr:rightF l=(oksS l&&fitsF l):=rfl
 cases hf:fitsF l with
 | false=>
  rw[hr,hf,Bool.and_false]
  simp only[sA,sB,seval]
  exact⟨tt,E1⟩
 | true=>
  rw[hr,hf,Bool.and_true]
  have km:∀b,b<H.next→b<H1.next∧H1.get b=H.get b:=fun b hb=>⟨by have:=E1.next; omega,E1.old b hb⟩
  simp only[sA,sB,seval]
  refine (fstmts_spec (sizesS l) rL hs (z1.mono km) (z2.mono km)).mono ?_
  rintro _ H2 ⟨rfl,E2⟩
  simp only[sA,sB,seval]
  exact⟨tt,E1.trans (E2.less E1.next)⟩
open Go.Abs Go.Abs.S
noncomputable section
def c27:AFn:=⟨25,zq [zo 2 (.new [zI 0,zI 0])] (zr [zm 5 0,zx 6 15 [.t 5],zo 7 (.un .not (.t 6))] 7 (zq [zo 8 (.build [zI 0,zI 0] [(0,1,zi 103)]),zp (.store 2 (.t 2) (.t 8))] .ret) .skip (zq [zo 9 (.buildSl 4 [.str []] [(0,1,.c (.str [117])),(1,1,.c (.str [118])),(2,1,.c (.str [112])),(3,1,.c (.str [110]))]),zo 10 (.buildSl 4 [zU 0] [(0,1,zu 1),(1,1,zu 1),(2,1,zu 2),(3,1,zu 2)]),zo 11 (.build [zN,zN] [(0,1,.t 9),(1,1,.t 10)]),zo 12 (.box (.t 11)),zm 3 12] (.seq (zq [zm 13 3,zm 14 0,zx 15 54 [.t 13,.t 14],zo 4 (.new [zI 0,zI 0]),zp (.store 2 (.t 4) (.t 15))] (zq [zf 16 0 4,zl 17 16,zk 18 .neq 17 0] (.cond (.t 18) (zq [zt 19 2 4,zp (.store 2 (.t 2) (.t 19))] .ret) .skip))) (zr [zm 20 0,zx 21 55 [.t 20],zo 22 (.un .not (.t 21))] 22 (zq [zo 23 (.build [zI 0,zI 0] [(0,1,zi 113)]),zp (.store 2 (.t 2) (.t 23))] .ret) .skip (zq [zo 24 (.build [zI 0,zI 0] []),zp (.store 2 (.t 2) (.t 24))] .ret))))),[.cell true 2 2]⟩
theorem za27:cN Tryz.prog 27=some c27:=by kernel_rfl
def c54:AFn:=⟨76,.seq (.block 1000000 (zq [zo 2 (.box (.t 0)),zo 4 (.new [zI 0,zI 0])] (zq [zl 11 2,zc 12 11,zf 13 0 12,zl 14 13,zh 15 14,zo 5 (.new [zI 0]),zs 5 15] (zq [zo 16 (.mkFunc (.func 97) [] [.t 2,.t 5]),zo 77 (.pf .dset [.t 77,.t 16])] (.seq (zq [zm 17 1,zh 18 17,zo 19 (.mv (zi 0))] (.block 0 (.loop (zq [zb 20 .lss 19 18] (.seq (.cond (.t 20) .skip (.exit 0)) (.seq (.block 1 (zq [zm 21 19,zm 6 21] (zq [zm 22 1,zm 23 6,zo 24 (.idxA 9 (.t 22) (.t 23)),zm 7 24] (zr [zm 25 6,zk 26 .gtr 25 0,zm 27 26,zg 28 (.mv (.t 1)) 27 true,zg 29 (.mv (.t 6)) 27 true,zg 30 (.bin .sub (.t 29) (zi 1)) 27 true,zg 31 (.idxA 9 (.t 28) (.t 30)) 27 true,zg 32 (.fieldA 0 (.t 31)) 27 true,zg 33 (.load false 1 (.t 32)) 27 true,zg 34 (.bin .eql (.t 33) (zu 5)) 27 true,zo 35 (.pick (.t 27) (.t 34) (.c (.bool false)))] 35 (.seq (.draw [zm 36 7,zc 37 36,zf 38 8 37,zl 39 38,zp (.store 2 (.t 4) (.c (.agg [zI 0,zI 0]))),zf 40 0 4,zp (.store 1 (.t 40) (zi 113)),zf 41 1 4,zs 41 39] [[],[],[],[6,8],[],[],[],[],[]]) (.exit 1000000)) .skip (.seq (zq [zl 42 2,zm 43 7,zx 44 98 [.t 42,.t 43],zm 8 44] (zq [zm 45 8,zk 46 .neq 45 0] (.cond (.t 46) (.seq (.draw [zm 47 8,zm 48 7,zc 49 48,zf 50 8 49,zl 51 50,zp (.store 2 (.t 4) (.c (.agg [zI 0,zI 0]))),zf 52 0 4,zs 52 47,zf 53 1 4,zs 53 51] [[],[],[],[],[7,9],[],[],[],[],[]]) (.exit 1000000)) .skip))) (.seq (.seq (.draw [zl 54 2,zm 55 7,zc 56 55,zf 57 6 56,zl 58 57,zx 59 54 [.t 54,.t 58],zo 9 (.new [zI 0,zI 0]),zp (.store 2 (.t 9) (.t 59))] [[],[],[],[],[],[],[5],[]]) (zq [zf 60 0 9,zl 61 60,zk 62 .neq 61 0] (.cond (.t 62) (zq [zt 63 2 9,zp (.store 2 (.t 4) (.t 63))] (.exit 1000000)) .skip))) (.seq (.draw [zl 64 2,zm 65 7,zc 66 65,zf 67 7 66,zl 68 67,zx 69 54 [.t 64,.t 68],zo 10 (.new [zI 0,zI 0]),zp (.store 2 (.t 10) (.t 69))] [[],[],[],[],[],[],[5],[]]) (zq [zf 70 0 10,zl 71 70,zk 72 .neq 71 0] (.cond (.t 72) (zq [zt 73 2 10,zp (.store 2 (.t 4) (.t 73))] (.exit 1000000)) .skip))))))))) (.reg [zk 74 .add 19 1,zm 19 74]))))))) (zq [zo 75 (.build [zI 0,zI 0] []),zp (.store 2 (.t 4) (.t 75))] (.exit 1000000))))))) (zq [zo 78 (.pf .isU [.t 77])] (.cond (.t 78) (zq [zo 78 (.pf .isU [.t 76])] (.cond (.t 78) (zq [zt 80 2 4,zo 79 (.pf .tup [.t 80])] .ret) (.reg [zp .bad]))) (zq [zo 78 (.pf .isU [.t 76])] (.cond (.t 78) (zq [zo 78 (.pf (.isF 97 2) [.t 77]),zo 80 (.pf (.capt 0) [.t 77]),zo 81 (.pf (.capt 1) [.t 77]),zp (.call 3169 [.t 80,.t 81])] (zq [zt 80 2 4,zo 79 (.pf .tup [.t 80])] .ret)) (.reg [zp .bad]))))),[.t 79]⟩
theorem za54:cNE Tryz.prog (some ⟨[],(some (97,2,false))⟩) 54=some c54:=by kernel_rfl
def c98:AFn:=⟨96,zq [zo 4 (.mv (zi 0))] (zq [zm 9 1,zc 10 9,zf 11 2 10,zt 12 4 11,zm 13 0,zc 14 13,zf 15 0 14,zl 16 15,zm 17 0,zc 18 17,zf 19 1 18,zl 20 19,zx 21 128 [.t 12,.t 16,.t 20],zm 8 21,ze 22 0 8,ze 23 1 8,zm 5 22,zm 6 23] (zr [zm 24 6,zk 25 .neq 24 0] 25 (zq [zm 26 6,zm 4 26] .ret) .skip (.seq (zq [zm 27 1,zc 28 27,zf 29 0 28,zl 30 29] (.block 0 (zq [zo 32 (.bin .eql (.t 30) (zu 1)),zm 31 32] (.cond (.t 31) (zr [zm 33 0,zc 34 33,zf 35 0 34,zl 36 35,zm 37 1,zc 38 37,zf 39 1 38,zl 40 39,zx 41 99 [.t 36,.t 40]] 41 (zq [zo 4 (.mv (zi 110))] .ret) .skip (.seq (.draw [zm 42 0,zm 43 0,zm 44 0,zc 45 44,zf 46 0 45,zl 47 46,zm 48 1,zc 49 48,zf 50 1 49,zl 51 50,zo 52 (.hf (.fill 0 (.lit 1 [.str []] [(0,1)])) [.t 51]),zo 53 (.append 1 16 (.t 47) (.t 52)),zm 54 0,zc 55 54,zf 56 1 55,zl 57 56,zm 58 5,zo 59 (.hf (.fill 0 (.lit 1 [zU 0] [(0,1)])) [.t 58]),zy 60 57 59,zc 61 42,zf 62 0 61,zs 62 53,zc 63 43,zf 64 1 63,zs 64 60] [[],[],[],[],[],[11],[],[],[],[],[],[],[],[],[],[10,11,18],[],[],[],[],[],[],[],[],[]]) (.reg [zp (.pf .apart [.t 59,.t 52]),zp (.pf .apart [.t 59,.t 46]),zp (.pf .apart [.t 59,.t 50]),zp (.pf .apart [.t 59,.t 56]),zp (.pf .apart [.t 59,.t 47]),zp (.pf .apart [.t 59,.t 52]),zp (.pf .apart [.t 59,.t 53]),zp (.pf .apart [.t 59,.t 46]),zp (.pf .apart [.t 59,.t 50]),zp (.pf .apart [.t 59,.t 56])]))) (zq [zo 66 (.bin .eql (.t 30) (zu 2)),zm 65 66] (.cond (.t 65) (zq [zm 67 0,zc 68 67,zf 69 0 68,zl 70 69,zm 71 1,zc 72 71,zf 73 1 72,zl 74 73,zx 75 130 [.t 70,.t 74],zm 7 75] (zr [zm 76 7,zk 77 .lss 76 4] 77 (zq [zo 4 (.mv (zi 110))] .ret) .skip (zq [zm 78 0,zc 79 78,zf 80 1 79,zl 81 80,zm 82 7,zd 83 81 82,zl 84 83,zm 85 5,zb 86 .neq 84 85] (.cond (.t 86) (zq [zo 4 (.mv (zi 111))] .ret) .skip)))) (zr [zo 88 (.bin .eql (.t 30) (zu 3)),zm 87 88] 87 .skip (.reg [zo 89 (.bin .eql (.t 30) (zu 4)),zm 87 89]) (.cond (.t 87) (zq [zm 90 5,zo 91 (.bin .eql (.t 90) (zu 2))] (.cond (.t 91) (zq [zo 4 (.mv (zi 111))] .ret) .skip)) (zq [zo 93 (.bin .eql (.t 30) (zu 5)),zm 92 93] (.cond (.t 92) (zq [zm 94 5,zo 95 (.bin .eql (.t 94) (zu 1))] (.cond (.t 95) (zq [zo 4 (.mv (zi 111))] .ret) .skip)) .skip)))))))))) (zq [zo 4 (.mv (zi 0))] .ret)))),[.t 4]⟩
theorem za98:cN Tryz.prog 98=some c98:=by kernel_rfl
def c128:AFn:=⟨21,zq [zo 3 (.box (.t 0)),zo 6 (.mv (zu 0)),zo 7 (.mv (zi 0))] (zq [zm 9 1,zm 10 2,zx 11 167 [.t 9,.t 10],zm 8 11] (zr [zm 12 8,zf 13 3 3,zl 14 13,zx 15 168 [.t 12,.t 14,zi 1],zk 16 .lss 15 0] 16 (zq [zo 6 (.mv (zu 0)),zo 7 (.mv (zi 102))] .ret) .skip (zq [zm 17 8,zx 18 169 [.t 17,.t 3],ze 19 0 18,ze 20 1 18,zm 6 19,zm 7 20] .ret))),[.t 6,.t 7]⟩
theorem za128:cN Tryz.prog 128=some c128:=by kernel_rfl
def c167:AFn:=⟨22,zq [zo 4 (.mv (.c (.ptr none)))] (zq [zm 6 0,zh 7 6,zm 8 1,zh 9 8,zo 10 (.pf (.mm false) [.t 7,.t 9]),zm 5 10] (.seq (.draw [zm 11 0,zm 12 5,zo 13 (.sl 1 (.t 11) none (some (.t 12)) none),zm 14 1,zm 15 5,zo 16 (.sl 1 (.t 14) none (some (.t 15)) none),zx 17 188 [],zo 18 (.hf .mkMap []),zo 19 (.hf .mkMap []),zo 20 (.build [zN,zN,.map none,.map none,.map none] [(0,1,.t 13),(1,1,.t 16),(2,1,.t 17),(3,1,.t 18),(4,1,.t 19)]),zo 21 (.box (.t 20)),zm 4 21] [[],[],[],[],[],[],[],[6],[6],[],[],[]]) .ret)),[.t 4]⟩
theorem za167:cN Tryz.prog 167=some c167:=by kernel_rfl
def c188:AFn:=⟨33,zq [zo 0 (.mv (.c (.map none)))] (zq [zo 1 (.hf .mkMap []),zo 2 (.build [zU 0,zU 0,zU 0] [(0,1,zu 1),(1,1,zu 1),(2,1,zu 1)]),zo 3 (.build [zI 0,zU 0,zU 0,zU 0,zU 0] [(0,1,zi 3),(1,3,.t 2),(4,1,zu 2)]),zp (.hf (.mf (.upd .str)) [.t 1,.c (.str [118,101,99]),.t 3]),zo 4 (.build [zU 0,zU 0,zU 0] [(0,1,zu 2)]),zo 5 (.build [zI 0,zU 0,zU 0,zU 0,zU 0] [(0,1,zi 1),(1,3,.t 4),(4,1,zu 1)]),zp (.hf (.mf (.upd .str)) [.t 1,.c (.str [120]),.t 5]),zo 6 (.build [zU 0,zU 0,zU 0] [(0,1,zu 2)]),zo 7 (.build [zI 0,zU 0,zU 0,zU 0,zU 0] [(0,1,zi 1),(1,3,.t 6),(4,1,zu 1)]),zp (.hf (.mf (.upd .str)) [.t 1,.c (.str [121]),.t 7]),zo 8 (.build [zU 0,zU 0,zU 0] [(0,1,zu 2)]),zo 9 (.build [zI 0,zU 0,zU 0,zU 0,zU 0] [(0,1,zi 1),(1,3,.t 8),(4,1,zu 1)]),zp (.hf (.mf (.upd .str)) [.t 1,.c (.str [122]),.t 9]),zo 10 (.build [zU 0,zU 0,zU 0] [(0,1,zu 2),(1,1,zu 2)]),zo 11 (.build [zI 0,zU 0,zU 0,zU 0,zU 0] [(0,1,zi 2),(1,3,.t 10),(4,1,zu 1)]),zp (.hf (.mf (.upd .str)) [.t 1,.c (.str [100,111,116]),.t 11]),zo 12 (.build [zU 0,zU 0,zU 0] [(0,1,zu 2),(1,1,zu 2)]),zo 13 (.build [zI 0,zU 0,zU 0,zU 0,zU 0] [(0,1,zi 2),(1,3,.t 12),(4,1,zu 2)]),zp (.hf (.mf (.upd .str)) [.t 1,.c (.str [99,114,111,115,115]),.t 13]),zo 14 (.build [zU 0,zU 0,zU 0] [(0,1,zu 2)]),zo 15 (.build [zI 0,zU 0,zU 0,zU 0,zU 0] [(0,1,zi 1),(1,3,.t 14),(4,1,zu 2)]),zp (.hf (.mf (.upd .str)) [.t 1,.c (.str [117,110,105,116]),.t 15]),zo 16 (.build [zU 0,zU 0,zU 0] [(0,1,zu 1)]),zo 17 (.build [zI 0,zU 0,zU 0,zU 0,zU 0] [(0,1,zi 1),(1,3,.t 16),(4,1,zu 1)]),zp (.hf (.mf (.upd .str)) [.t 1,.c (.str [115,113,114,116]),.t 17]),zo 18 (.build [zU 0,zU 0,zU 0] [(0,1,zu 1)]),zo 19 (.build [zI 0,zU 0,zU 0,zU 0,zU 0] [(0,1,zi 1),(1,3,.t 18),(4,1,zu 1)]),zp (.hf (.mf (.upd .str)) [.t 1,.c (.str [115,105,110]),.t 19]),zo 20 (.build [zU 0,zU 0,zU 0] [(0,1,zu 1)]),zo 21 (.build [zI 0,zU 0,zU 0,zU 0,zU 0] [(0,1,zi 1),(1,3,.t 20),(4,1,zu 1)]),zp (.hf (.mf (.upd .str)) [.t 1,.c (.str [99,111,115]),.t 21]),zo 22 (.build [zU 0,zU 0,zU 0] [(0,1,zu 1)]),zo 23 (.build [zI 0,zU 0,zU 0,zU 0,zU 0] [(0,1,zi 1),(1,3,.t 22),(4,1,zu 1)]),zp (.hf (.mf (.upd .str)) [.t 1,.c (.str [97,98,115]),.t 23]),zo 24 (.build [zU 0,zU 0,zU 0] [(0,1,zu 1)]),zo 25 (.build [zI 0,zU 0,zU 0,zU 0,zU 0] [(0,1,zi 1),(1,3,.t 24),(4,1,zu 1)]),zp (.hf (.mf (.upd .str)) [.t 1,.c (.str [102,108,111,111,114]),.t 25]),zo 26 (.build [zU 0,zU 0,zU 0] [(0,1,zu 1),(1,1,zu 1)]),zo 27 (.build [zI 0,zU 0,zU 0,zU 0,zU 0] [(0,1,zi 2),(1,3,.t 26),(4,1,zu 1)]),zp (.hf (.mf (.upd .str)) [.t 1,.c (.str [109,105,110]),.t 27]),zo 28 (.build [zU 0,zU 0,zU 0] [(0,1,zu 1),(1,1,zu 1)]),zo 29 (.build [zI 0,zU 0,zU 0,zU 0,zU 0] [(0,1,zi 2),(1,3,.t 28),(4,1,zu 1)]),zp (.hf (.mf (.upd .str)) [.t 1,.c (.str [109,97,120]),.t 29]),zo 30 (.build [zU 0,zU 0,zU 0] [(0,1,zu 1),(1,1,zu 1)]),zo 31 (.build [zI 0,zU 0,zU 0,zU 0,zU 0] [(0,1,zi 2),(1,3,.t 30),(4,1,zu 2)]),zp (.hf (.mf (.upd .str)) [.t 1,.c (.str [115,97,109,112,108,101]),.t 31]),zm 32 1,zm 0 32] .ret),[.t 0]⟩
theorem za188:cN Tryz.prog 188=some c188:=by kernel_rfl
def c168:AFn:=⟨62,zq [zo 6 (.mv (zi 0))] (zr [zm 12 1,zh 13 12,zk 14 .eql 13 0] 14 (zq [zo 6 (.mv (zi 0))] .ret) .skip (zr [zm 15 2,zk 16 .geq 15 40] 16 (zq [zo 6 (.mv (.c (.int .i64 (.negSucc 0))))] .ret) .skip (zq [zm 17 1,zx 18 189 [.t 17],zo 7 (.new [.ptr none,zI 0]),zp (.store 2 (.t 7) (.t 18))] (zq [zm 20 0,zc 21 20,zf 22 3 21,zl 23 22,zt 24 2 7,zo 25 (.hf (.pLook (.p,.i) true (zI 0)) [.t 23,.t 24]),zm 19 25,ze 26 0 19,ze 27 1 19,zm 8 26,zm 9 27] (zr [zm 28 9] 28 (zr [zm 29 2,zm 30 8,zb 31 .add 29 30,zk 32 .gtr 31 40] 32 (zq [zo 6 (.mv (.c (.int .i64 (.negSucc 0))))] .ret) .skip (zq [zm 33 8,zm 6 33] .ret)) .skip (.seq (zq [zm 34 1,zh 35 34,zo 36 (.mv (zi 0))] (.block 0 (.loop (zq [zb 37 .lss 36 35] (.seq (.cond (.t 37) .skip (.exit 0)) (.seq (.block 1 (zq [zm 38 36,zm 10 38] (zq [zm 39 0,zm 40 1,zm 41 10,zo 42 (.idxA 4 (.t 40) (.t 41)),zf 43 3 42,zl 44 43,zm 45 2,zk 46 .add 45 1,zx 47 168 [.t 39,.t 44,.t 46],zm 11 47] (zr [zm 48 11,zk 49 .lss 48 0] 49 (zq [zo 6 (.mv (.c (.int .i64 (.negSucc 0))))] .ret) .skip (.reg [zm 50 8,zm 51 11,zk 52 .add 51 1,zo 53 (.pf (.mm true) [.t 50,.t 52]),zm 8 53]))))) (.reg [zk 54 .add 36 1,zm 36 54]))))))) (zq [zm 55 0,zc 56 55,zf 57 3 56,zl 58 57,zt 59 2 7,zm 60 8,zp (.hf (.pUpd (.p,.i)) [.t 58,.t 59,.t 60])] (zq [zm 61 8,zm 6 61] .ret)))))))),[.t 6]⟩
theorem za168:cN Tryz.prog 168=some c168:=by kernel_rfl
def c189:AFn:=⟨12,zq [zo 2 (.new [.ptr none,zI 0])] (zr [zm 3 0,zh 4 3,zk 5 .eql 4 0] 5 (zq [zo 6 (.build [.ptr none,zI 0] []),zp (.store 2 (.t 2) (.t 6))] .ret) .skip (zq [zm 7 0,zo 8 (.idxA 4 (.t 7) (zi 0)),zm 9 0,zh 10 9,zo 11 (.build [.ptr none,zI 0] [(0,1,.t 8),(1,1,.t 10)]),zp (.store 2 (.t 2) (.t 11))] .ret)),[.cell true 2 2]⟩
theorem za189:cN Tryz.prog 189=some c189:=by kernel_rfl
def c169:AFn:=⟨81,zq [zo 4 (.mv (zu 0)),zo 5 (.mv (zi 0))] (zq [zm 11 0,zm 12 1,zc 13 12,zf 14 3 13,zl 15 14,zx 16 190 [.t 11,.t 15],zm 10 16,ze 17 0 10,ze 18 1 10,zm 6 17,zm 7 18] (zr [zm 19 7,zk 20 .neq 19 0] 20 (zq [zm 21 7,zo 4 (.mv (zu 0)),zm 5 21] .ret) .skip (.seq (zq [zm 22 1,zc 23 22,zf 24 0 23,zl 25 24] (.block 0 (zq [zo 27 (.bin .eql (.t 25) (zu 1)),zm 26 27] (.cond (.t 26) (zq [zo 4 (.mv (zu 1)),zo 5 (.mv (zi 0))] .ret) (zq [zo 29 (.bin .eql (.t 25) (zu 2)),zm 28 29] (.cond (.t 28) (.seq (zq [zm 30 0,zc 31 30,zf 32 0 31,zl 33 32,zh 34 33,zk 35 .sub 34 1,zm 8 35] (.block 1 (.loop (zr [zm 36 8,zk 37 .geq 36 0] 37 .skip (.exit 1) (.seq (.block 2 (zq [zm 40 0,zc 41 40,zf 42 0 41,zl 43 42,zm 44 8,zd 45 43 44,zl 46 45,zm 47 1,zc 48 47,zf 49 1 48,zl 50 49,zb 51 .eql 46 50] (.cond (.t 51) (zq [zm 52 0,zc 53 52,zf 54 1 53,zl 55 54,zm 56 8,zd 57 55 56,zl 58 57,zm 4 58,zo 5 (.mv (zi 0))] .ret) .skip))) (.reg [zm 38 8,zk 39 .sub 38 1,zm 8 39])))))) (zq [zo 4 (.mv (zu 0)),zo 5 (.mv (zi 110))] .ret)) (zq [zo 60 (.bin .eql (.t 25) (zu 3)),zm 59 60] (.cond (.t 59) (zq [zm 61 1,zc 62 61,zf 63 1 62,zl 64 63,zm 65 6,zx 66 191 [.t 64,.t 65],zm 9 66] (zr [zm 67 9,zo 68 (.bin .eql (.t 67) (zu 0))] 68 (zq [zo 4 (.mv (zu 0)),zo 5 (.mv (zi 111))] .ret) .skip (zq [zm 69 9,zm 4 69,zo 5 (.mv (zi 0))] .ret))) (zq [zo 71 (.bin .eql (.t 25) (zu 4)),zm 70 71] (.cond (.t 70) (zq [zm 72 0,zm 73 1,zc 74 73,zf 75 1 74,zl 76 75,zm 77 6,zx 78 192 [.t 72,.t 76,.t 77],ze 79 0 78,ze 80 1 78,zm 4 79,zm 5 80] .ret) .skip)))))))))) (zq [zo 4 (.mv (zu 0)),zo 5 (.mv (zi 111))] .ret)))),[.t 4,.t 5]⟩
theorem za169:cN Tryz.prog 169=some c169:=by kernel_rfl
def c190:AFn:=⟨66,zq [zo 4 (.mv zn),zo 5 (.mv (zi 0))] (zr [zm 13 1,zh 14 13,zk 15 .eql 14 0] 15 (zq [zo 4 (.mv zn),zo 5 (.mv (zi 0))] .ret) .skip (zq [zm 16 1,zx 17 189 [.t 16],zo 6 (.new [.ptr none,zI 0]),zp (.store 2 (.t 6) (.t 17))] (.seq (.seq (.draw [zm 19 0,zc 20 19,zf 21 4 20,zl 22 21,zt 23 2 6,zo 24 (.hf (.pLook (.p,.i) true (.agg [zN,zI 0])) [.t 22,.t 23]),zm 18 24,ze 25 0 18,ze 26 1 18,zo 7 (.new [zN,zI 0]),zp (.store 2 (.t 7) (.t 25)),zm 8 26] [[],[],[],[],[],[],[],[],[],[5],[],[]]) (zq [zm 27 8] (.cond (.t 27) (zq [zf 28 0 7,zl 29 28,zf 30 1 7,zl 31 30,zm 4 29,zm 5 31] .ret) .skip))) (zq [zo 9 (.new [zN,zI 0])] (.seq (zq [zm 32 1,zh 33 32,zo 34 (.mv (zi 0))] (.block 0 (.loop (zq [zb 35 .lss 34 33] (.seq (.cond (.t 35) .skip (.exit 0)) (.seq (.block 1 (zq [zm 36 34,zm 10 36] (zq [zm 38 0,zm 39 1,zm 40 10,zo 41 (.idxA 4 (.t 39) (.t 40)),zx 42 169 [.t 38,.t 41],zm 37 42,ze 43 0 37,ze 44 1 37,zm 11 43,zm 12 44] (zr [zm 45 12,zk 46 .neq 45 0] 46 (zq [zm 47 12,zo 48 (.build [zN,zI 0] [(1,1,.t 47)]),zp (.store 2 (.t 9) (.t 48))] (.exit 0)) .skip (.reg [zf 49 0 9,zl 50 49,zm 51 11,zo 52 (.buildSl 1 [zU 0] [(0,1,.t 51)]),zy 53 50 52,zf 54 0 9,zs 54 53]))))) (.reg [zk 55 .add 34 1,zm 34 55]))))))) (zq [zm 56 0,zc 57 56,zf 58 4 57,zl 59 58,zt 60 2 6,zt 61 2 9,zp (.hf (.pUpd (.p,.i)) [.t 59,.t 60,.t 61])] (zq [zf 62 0 9,zl 63 62,zf 64 1 9,zl 65 64,zm 4 63,zm 5 65] .ret))))))),[.t 4,.t 5]⟩
theorem za190:cN Tryz.prog 190=some c190:=by kernel_rfl
def c191:AFn:=⟨34,zq [zo 4 (.mv (zu 0))] (.seq (zq [zm 5 1,zh 6 5] (.block 0 (zq [zk 8 .eql 6 1,zm 7 8] (.cond (.t 7) (zq [zm 9 0,zo 10 (.bin .eql (.t 9) (.c (.str [45]))),zm 11 10,zg 12 (.mv (.t 0)) 11 false,zg 13 (.bin .eql (.t 12) (.c (.str [33]))) 11 false,zg 14 (.mv (.t 13)) 11 false,zg 15 (.mv (.t 1)) 14 true,zg 16 (.idxA 1 (.t 15) (zi 0)) 14 true,zg 17 (.load false 1 (.t 16)) 14 true,zg 18 (.bin .eql (.t 17) (zu 1)) 14 true,zg 19 (.pick (.t 14) (.t 18) (.c (.bool false))) 11 false,zo 20 (.pick (.t 11) (.c (.bool true)) (.t 19))] (.cond (.t 20) (zq [zm 21 1,zo 22 (.idxA 1 (.t 21) (zi 0)),zl 23 22,zm 4 23] .ret) .skip)) (zq [zk 25 .eql 6 2,zm 24 25] (.cond (.t 24) (zq [zm 26 0,zm 27 1,zo 28 (.idxA 1 (.t 27) (zi 0)),zl 29 28,zm 30 1,zo 31 (.idxA 1 (.t 30) (zi 1)),zl 32 31,zx 33 205 [.t 26,.t 29,.t 32],zm 4 33] .ret) .skip)))))) (zq [zo 4 (.mv (zu 0))] .ret)),[.t 4]⟩
theorem za191:cN Tryz.prog 191=some c191:=by kernel_rfl
def c205:AFn:=⟨43,zq [zo 6 (.mv (zu 0))] (.seq (zq [zm 7 0] (.block 0 (zr [zo 9 (.bin .eql (.t 7) (.c (.str [124,124]))),zm 8 9] 8 .skip (zq [zo 10 (.bin .eql (.t 7) (.c (.str [38,38]))),zm 8 10] (.cond (.t 8) .skip (zq [zo 11 (.bin .eql (.t 7) (.c (.str [61,61]))),zm 8 11] (.cond (.t 8) .skip (zq [zo 12 (.bin .eql (.t 7) (.c (.str [33,61]))),zm 8 12] (.cond (.t 8) .skip (zq [zo 13 (.bin .eql (.t 7) (.c (.str [60,61]))),zm 8 13] (.cond (.t 8) .skip (zq [zo 14 (.bin .eql (.t 7) (.c (.str [62,61]))),zm 8 14] (.cond (.t 8) .skip (zq [zo 15 (.bin .eql (.t 7) (.c (.str [60]))),zm 8 15] (.cond (.t 8) .skip (.reg [zo 16 (.bin .eql (.t 7) (.c (.str [62]))),zm 8 16]))))))))))))) (.cond (.t 8) (zq [zm 17 1,zo 18 (.bin .eql (.t 17) (zu 1)),zm 19 18,zg 20 (.mv (.t 2)) 19 true,zg 21 (.bin .eql (.t 20) (zu 1)) 19 true,zo 22 (.pick (.t 19) (.t 21) (.c (.bool false)))] (.cond (.t 22) (zq [zo 6 (.mv (zu 1))] .ret) .skip)) (zr [zo 24 (.bin .eql (.t 7) (.c (.str [43]))),zm 23 24] 23 .skip (.reg [zo 25 (.bin .eql (.t 7) (.c (.str [45]))),zm 23 25]) (.cond (.t 23) (zq [zm 26 1,zm 27 2,zb 28 .eql 26 27] (.cond (.t 28) (zq [zm 29 1,zm 6 29] .ret) .skip)) (zq [zo 31 (.bin .eql (.t 7) (.c (.str [42]))),zm 30 31] (.cond (.t 30) (zr [zm 32 1,zo 33 (.bin .eql (.t 32) (zu 1))] 33 (zq [zm 34 2,zm 6 34] .ret) .skip (zq [zm 35 2,zo 36 (.bin .eql (.t 35) (zu 1))] (.cond (.t 36) (zq [zm 37 1,zm 6 37] .ret) .skip))) (zq [zo 39 (.bin .eql (.t 7) (.c (.str [47]))),zm 38 39] (.cond (.t 38) (zq [zm 40 2,zo 41 (.bin .eql (.t 40) (zu 1))] (.cond (.t 41) (zq [zm 42 1,zm 6 42] .ret) .skip)) .skip)))))))))) (zq [zo 6 (.mv (zu 0))] .ret)),[.t 6]⟩
theorem za205:cN Tryz.prog 205=some c205:=by kernel_rfl
def c192:AFn:=⟨35,zq [zo 6 (.mv (zu 0)),zo 7 (.mv (zi 0))] (zq [zm 11 0,zc 12 11,zf 13 2 12,zl 14 13,zm 15 1,zo 16 (.hf (.mLook .str true (.agg [zI 0,zU 0,zU 0,zU 0,zU 0])) [.t 14,.t 15]),zm 10 16,ze 17 0 10,ze 18 1 10,zo 8 (.new [zI 0,zU 0,zU 0,zU 0,zU 0]),zp (.store 5 (.t 8) (.t 17)),zm 9 18] (zr [zm 19 9,zo 20 (.un .not (.t 19))] 20 (zq [zo 6 (.mv (zu 0)),zo 7 (.mv (zi 110))] .ret) .skip (zr [zm 21 2,zh 22 21,zf 23 0 8,zl 24 23,zb 25 .neq 22 24] 25 (zq [zo 6 (.mv (zu 0)),zo 7 (.mv (zi 112))] .ret) .skip (zr [zm 26 2,zf 27 1 8,zf 28 0 8,zl 29 28,zo 30 (.slA 3 1 (.t 27) none (some (.t 29)) none),zx 31 206 [.t 26,.t 30],zo 32 (.un .not (.t 31))] 32 (zq [zo 6 (.mv (zu 0)),zo 7 (.mv (zi 111))] .ret) .skip (zq [zf 33 4 8,zl 34 33,zm 6 34,zo 7 (.mv (zi 0))] .ret))))),[.t 6,.t 7]⟩
theorem za192:cN Tryz.prog 192=some c192:=by kernel_rfl
def c206:AFn:=⟨26,zq [zo 4 (.mv (.c (.bool false)))] (zr [zm 6 0,zh 7 6,zm 8 1,zh 9 8,zb 10 .neq 7 9] 10 (zq [zo 4 (.mv (.c (.bool false)))] .ret) .skip (.seq (zq [zm 11 0,zh 12 11,zo 13 (.mv (zi 0))] (.block 0 (.loop (zq [zb 14 .lss 13 12] (.seq (.cond (.t 14) .skip (.exit 0)) (.seq (.block 1 (zq [zm 15 13,zm 5 15] (zq [zm 16 0,zm 17 5,zd 18 16 17,zl 19 18,zm 20 1,zm 21 5,zd 22 20 21,zl 23 22,zb 24 .neq 19 23] (.cond (.t 24) (zq [zo 4 (.mv (.c (.bool false)))] .ret) .skip)))) (.reg [zk 25 .add 13 1,zm 13 25]))))))) (zq [zo 4 (.mv (.c (.bool true)))] .ret))),[.t 4]⟩
theorem za206:cN Tryz.prog 206=some c206:=by kernel_rfl
def c55:AFn:=⟨32,zq [zo 2 (.mv (.c (.bool false)))] (zr [zm 4 0,zh 5 4,zk 6 .eql 5 0] 6 (zq [zo 2 (.mv (.c (.bool false)))] .ret) .skip (zq [zm 7 0,zm 8 0,zh 9 8,zk 10 .sub 9 1,zo 11 (.idxA 9 (.t 7) (.t 10)),zm 3 11] (.seq (zq [zm 12 3,zc 13 12,zf 14 0 13,zl 15 14] (.block 0 (zq [zo 17 (.bin .eql (.t 15) (zu 5)),zm 16 17] (.cond (.t 16) (zq [zo 2 (.mv (.c (.bool true)))] .ret) (zq [zo 19 (.bin .eql (.t 15) (zu 3)),zm 18 19] (.cond (.t 18) (zq [zm 20 3,zc 21 20,zf 22 6 21,zl 23 22,zx 24 55 [.t 23],zm 25 24,zg 26 (.mv (.t 3)) 25 true,zg 27 (.nilChk (.t 26)) 25 true,zg 28 (.fieldA 7 (.t 27)) 25 true,zg 29 (.load false 1 (.t 28)) 25 true,zg 30 (.call 55 [.t 29]) 25 true,zo 31 (.pick (.t 25) (.t 30) (.c (.bool false))),zm 2 31] .ret) .skip)))))) (zq [zo 2 (.mv (.c (.bool false)))] .ret)))),[.t 2]⟩
theorem za55:cN Tryz.prog 55=some c55:=by kernel_rfl
def c3169:AFn:=⟨20,.reg [zl 2 0,zl 3 0,zl 4 0,zc 5 4,zf 6 0 5,zl 7 6,zl 8 1,zo 9 (.sl 1 (.t 7) none (some (.t 8)) none),zl 10 0,zc 11 10,zf 12 1 11,zl 13 12,zl 14 1,zo 15 (.sl 1 (.t 13) none (some (.t 14)) none),zc 16 2,zf 17 0 16,zs 17 9,zc 18 3,zf 19 1 18,zs 19 15],[]⟩
theorem za3169:cNE Tryz.prog none 3169=some c3169:=by kernel_rfl
end
end Go.Proofs.Wo
namespace Go.Abs.S
open Go.Abs
theorem LinM.cut{m k:Nat}{H:AHeap}{s:AVal}{L:List AVal}(h:LinM m H s L k)(hm:0<m){n:Nat}(hn:n≤k) :
  ∃s',aSl m s none (some (.int .i64 (n:Int))) none=some s'∧LinM m H s' (L.take (n*m)) n∧∀P,Blk s P→Blk s' P:=by
 have b0:∀l c,n≤c→aBnd l c none (some (.int .i64 (n:Int))) none=some (0,n,none):=by
  intro l c hc
  show (match bdO (some (AVal.int .i64 (Int.ofNat n))) c l with | some h=>(match bdO none h 0 with | some l=>some (l,h,none) | none=>none) | none=>none)=_
  simp only[bdO,bd,Nat.ble_eq_true_of_le hc,cond_true]
 rcases h with⟨rfl,rfl,rfl⟩ | ⟨b,C,low,r,rfl,h2,h3,h4,h5,h6,h7,h8⟩
 ·obtain rfl:n=0:=om
  exact⟨nilS,rfl,.inl ⟨rfl,by simp,rfl⟩,fun P h=>h⟩
 ·have hnm:n*m≤k*m:=Nat.mul_le_mul_right _ hn
  have hL:C.take (n*m)=L.take (n*m):=by rw[← h5,List.take_take,Nat.min_eq_left hnm]
  have hLl:(L.take (n*m)).length=n*m:=by rw[List.length_take]; omega
  rcases h2 with rfl | ⟨cap,rfl,hkc,hcap⟩
  ·refine⟨.slice (some ⟨b,C.length,0⟩) n (.open_ m),?_,.inr ⟨b,C,low,.open_ m,rfl,.inl rfl,h3,h4,hL,hLl,om,h8⟩,fun P hP=>(have q:P b:=hP _ _ _ rfl; blk_some q)⟩
   have hd:n≤C.length / m:=by rw[Nat.le_div_iff_mul_le hm]; omega
   simp only[aSl,Nat.beq_refl,cond_true,b0 _ _ hd,Nat.zero_mul,Nat.zero_add,Nat.sub_zero,Nat.ble_eq_true_of_le (show n*m≤C.length by omega)]
  ·have hc:(bif Nat.beq cap 0 then some (AVal.slice (some ⟨b,C.length,0⟩) n (.known cap)) else some (AVal.slice (some ⟨b,C.length,0⟩) n (.known cap)))=some (AVal.slice (some ⟨b,C.length,0⟩) n (.known cap)):=by cases Nat.beq cap 0 <;> rfl
   refine⟨.slice (some ⟨b,C.length,0⟩) n (.known cap),?_,.inr ⟨b,C,low,.known cap,rfl,.inr ⟨cap,rfl,om,hcap⟩,h3,h4,hL,hLl,om,h8⟩,fun P hP=>(have q:P b:=hP _ _ _ rfl; blk_some q)⟩
   simp only[aSl,b0 _ _ (show n≤cap by omega),Option.getD_none,Nat.zero_mul,Nat.add_zero,Nat.sub_zero,hc]
end Go.Abs.S
namespace Go.Proofs.Wo
open Go.Abs Go.Abs.S
theorem bPl(x y:AVal)(hx:x.cells=[x])(hy:y.cells=[y]):aBuild [.ptr none,.int .i64 0] [(0,1,x),(1,1,y)]=some (.agg [x,y]):=by
 simp[aBuild,aFill,hx,hy,splice]
 rfl
theorem WhK.pos{P:Nat→Prop}{H:AHeap}{m k:Nat}{v:AVal}{C:List AVal}(h:WhK P H m v k C)(hk:0<k):∃b low r,v=.slice (some ⟨b,C.length,0⟩) k r∧P b∧H.get b=some (.cells C low false)∧low≤C.length∧C.length=m*k:=by
 rcases h with⟨_,h,_⟩ | h
 ·omega
 ·exact h
theorem tplace_spec{b n k:Nat}{r:Room}{H:AHeap}(hk:0<k):ACalls Tryz.prog natT 189 [.slice (some ⟨b,n,0⟩) k r] H fun u H'=>u=plKey b n k∧Ext H.next H H':=by
 refine acalls_ofN rfl za189 rfl ?_
 obtain⟨H1,m1,r1,n1,k1⟩:=row_newL H [.ptr none,.int .i64 0] (n:=2) rfl
 obtain⟨H2,m2,r2,n2,k2⟩:=row_storeN r1 (n:=2) rfl (xs:=[.ptr (some ⟨b,n,0⟩),.int .i64 (k:Int)]) rfl rfl
 have ln:aLenK false (.slice (some ⟨b,n,0⟩) k r)=some (.int .i64 (k:Int)):=rfl
 have hk0:¬(k:Int)=0:=om
 have ix:aIdxA 4 (.slice (some ⟨b,n,0⟩) k r) (.int .i64 0)=some (.ptr (some ⟨b,n,0⟩)):=by
  show (bif Nat.blt 0 k then some (AVal.ptr (some ⟨b,n,0+0*4⟩)) else none)=_
  rw[show Nat.blt 0 k=true by simpa[Nat.blt_eq] using hk]; rfl
 have bb:=bPl (.ptr (some ⟨b,n,0⟩)) (.int .i64 (k:Int)) rfl rfl
 have l2:oLoad true 2 H2 (cellR H.next 2 0)=some (.agg [.ptr (some ⟨b,n,0⟩),.int .i64 (k:Int)]):=row_loadN r2 rfl
 simp only[c189,sA,sB,seval,m1,ln,hk0,ix,bb,m2]
 refine fin_c1 _ _ _ _ (by simp only[sA,sB,seval]; exact l2) ?_
 exact⟨rfl,om,fun c hc=>by rw[k2 c om,k1 c om]⟩
def AskR(ab:Nat)(vn vk:AVal)(mb mt mk:Nat)(H:AHeap):Prop:=Row H ab [vn,vk,.map (some mb),.map (some mt),.map (some mk)]
def fTall(_:AHeap)(kids:List Ex)(x:AVal):Prop:=x=.int .i64 (deepsE kids:Int)
theorem deepsE_memT{e:Ex}{l:List Ex}(h:e∈l):e.deep≤deepsE l:=by
 induction l with
 | nil=>simp at h
 | cons x l ih=>
  simp only[deepsE]
  rcases List.mem_cons.1 h with rfl | h
  ·omega
  ·have:=ih h; omega
theorem sizesE_memT{e:Ex}{l:List Ex}(h:e∈l):e.size≤sizesE l:=by
 induction l with
 | nil=>simp at h
 | cons x l ih=>
  simp only[sizesE]
  rcases List.mem_cons.1 h with rfl | h
  ·omega
  ·have:=ih h; omega
theorem deepsE_pos{l:List Ex}(h:l≠[]):1≤deepsE l:=by
 cases l with
 | nil=>exact absurd rfl h
 | cons x l=>cases x; simp only[deepsE,Ex.deep]; omega
theorem theight_spec{ab mb mt mk n0:Nat}{vn vk:AVal}(hmt:n0≤mt)(hab:ab≠mt):∀(N:Nat) {kids:List Ex} {C:List AVal} {v:AVal} {H:AHeap} {deep:Nat},sizesE kids≤N→N≤1000000→AskR ab vn vk mb mt mk H→ab<H.next→n0≤H.next→MapOk (·<n0) fTall mt H→WhK (·<n0) H 4 v kids.length C→XEws (·<n0) H kids C→deep+deepsE kids≤40 →
  ACalls Tryz.prog natT 168 [cellR ab 5 0,v,.int .i64 (deep:Int)] H fun u H'=>u=.int .i64 (deepsE kids:Int)∧Fp mt H H'∧MapOk (·<n0) fTall mt H':=by
 intro N
 induction N with
 | zero=>
  intro kids C v H deep h hN hA _ _ hM z1 z2 hd
  have hk0:kids=[]:=by
   cases kids with
   | nil=>rfl
   | cons x l=>cases x; simp only[sizesE,Ex.size]at h; omega
  subst hk0
  have ln:=z1.sl.len
  have h0:(([]:List Ex).length:Int)=0:=rfl
  refine acalls_ofN rfl za168 rfl ?_
  simp only[c168,sA,sB,seval,ln,h0]
  exact⟨tt,Fp.refl _ _,hM⟩
 | succ N ih=>
  intro kids C v H deep h hN hA hab1 hn0 hM z1 z2 hd
  have ln:=z1.sl.len
  by_cases hk0:kids=[]
  ·subst hk0
   have h0:(([]:List Ex).length:Int)=0:=rfl
   refine acalls_ofN rfl za168 rfl ?_
   simp only[c168,sA,sB,seval,ln,h0]
   exact⟨tt,Fp.refl _ _,hM⟩
  have hkp:0<kids.length:=List.length_pos_iff.2 hk0
  have hkn:¬(kids.length:Int)=0:=om
  have hdp:=deepsE_pos hk0
  have hd40:¬(40:Int)≤(deep:Int):=om
  obtain⟨b,low,r,rfl,hb,hg,hlow,hC⟩:=z1.pos hkp
  refine acalls_ofN rfl za168 rfl ?_
  simp only[c168,sA,sB,seval,ln,hkn,hd40]
  refine (tplace_spec hkp).mono ?_
  rintro _ H1 ⟨rfl,E1⟩
  have e1:=E1.next
  have n1b:=E1.next
  obtain⟨H2,m2,r2,n2,k2⟩:=row_newL H1 [.ptr none,.int .i64 0] (n:=2) rfl
  obtain⟨H3,m3,r3,n3,k3⟩:=row_storeN r2 (n:=2) rfl (xs:=[.ptr (some ⟨b,C.length,0⟩),.int .i64 (kids.length:Int)]) rfl rfl
  have k13:∀c,c<H1.next→H3.get c=H1.get c:=fun c hc=>by rw[k3 c om,k2 c om]
  have k03:∀c,c<H.next→H3.get c=H.get c:=fun c hc=>by rw[k13 c om,E1.old c hc]
  have hA3:AskR ab vn vk mb mt mk H3:=hA.same (k03 ab hab1)
  have lt:oLoad false 1 H3 (cellR ab 5 3)=some (.map (some mt)):=row_load hA3 rfl rfl
  have lp:oLoad true 2 H3 (cellR H1.next 2 0)=some (plKey b C.length kids.length):=row_loadN r3 rfl
  have hmtn:=hM.1
  have km:∀c,c<n0→c<n0∧H3.get c=H.get c:=fun c hc=>⟨hc,k03 c om⟩
  have hM3:MapOk (·<n0) fTall mt H3:=hM.keep om (k03 mt hmtn) km fun _ _ q=>q
  have hg3:H3.get b=some (.cells C low false):=(k03 b (by have:b<n0:=hb; omega)).trans hg
  have z23:=z2.mono km
  have m3':oStore 2 H2 (cellR H1.next 2 0) (plKey b C.length kids.length)=some H3:=m3
  simp only[sA,sB,seval,m2,m3',nil_cell,fldA,lt,lp]
  rcases hM3.look hg3 z23 (.int .i64 0) with q | ⟨y,hy,q⟩
  case inr=>
   have q':aHf (.pLook (.p,.i) true (.int .i64 0)) H3 [.map (some mt),plKey b C.length kids.length]=some (.tuple [y,.bool true],H3):=q
   obtain rfl:y=.int .i64 (deepsE kids:Int):=hy
   have wd:IntKind.i64.wrap ((deep:Int)+(deepsE kids:Int))=((deep+deepsE kids:Nat):Int):=w64
   have hd':¬(40:Int)<((deep+deepsE kids:Nat):Int):=om
   simp only[sA,sB,seval,q',ext_0,ext_1,wd,hd']
   exact⟨tt,⟨om,fun c hc _=>k03 c hc⟩,hM3⟩
  have q':aHf (.pLook (.p,.i) true (.int .i64 0)) H3 [.map (some mt),plKey b C.length kids.length]=some (.tuple [.int .i64 0,.bool false],H3):=q
  have ln':aLenK false (.slice (some ⟨b,C.length,0⟩) kids.length r)=some (.int .i64 (kids.length:Int)):=rfl
  simp only[sA,sB,seval,q',ext_0,ext_1,ln']
  obtain⟨kb,hkb⟩:∃kb,kb=H1.next:=⟨_,rfl⟩
  rw[← hkb]at r3 lp m3'
  refine aw_loop (fun m (T:Env) K=>∃i:Nat,m=kids.length-i∧i≤kids.length∧T 0=cellR ab 5 0∧T 1=.slice (some ⟨b,C.length,0⟩) kids.length r∧T 2=.int .i64 (deep:Int)∧T 7=cellR kb 2 0∧T 8=.int .i64 (deepsE (kids.take i):Int)∧T 35=.int .i64 (kids.length:Int)∧T 36=.int .i64 (i:Int)∧Fp mt H3 K∧MapOk (·<n0) fTall mt K) kids.length
   ⟨0,rfl,Nat.zero_le _,by simp only[sA,sB,seval]; try rfl,by simp only[sA,sB,seval]; try rfl,by simp only[sA,sB,seval]; try rfl,by simp only[sA,sB,seval,hkb]; try rfl,by simp only[sA,sB,seval]; try rfl,by simp only[sA,sB,seval]; try rfl,by simp only[sA,sB,seval]; try rfl,Fp.refl _ _,hM3⟩ ?_
  rintro m T K ⟨i,rfl,hi,t0,t1,t2,t7,t8,t35,t36,FK,MK⟩
  have eK:=FK.next
  have hAK:AskR ab vn vk mb mt mk K:=hA3.same (FK.old ab om hab)
  have kmK:∀c,c<n0→c<n0∧K.get c=H3.get c:=fun c hc=>⟨hc,FK.old c om om⟩
  have hgK:K.get b=some (.cells C low false):=((kmK b hb).2).trans hg3
  by_cases hlt:i<kids.length
  case neg=>
   obtain rfl:i=kids.length:=om
   have hlt':¬(kids.length:Int)<(kids.length:Int):=om
   rw[List.take_length]at t8
   have ltK:oLoad false 1 K (cellR ab 5 3)=some (.map (some mt)):=row_load hAK rfl rfl
   have lpK:oLoad true 2 K (cellR kb 2 0)=some (plKey b C.length kids.length):=row_loadN (r3.same (FK.old kb om om)) rfl
   obtain⟨K2,u1,u2,u3,u4⟩:=MK.upd hgK (z23.mono kmK) hb (fun c hc=>by have:c<n0:=hc; omega) (y:=.int .i64 (deepsE kids:Int)) (by
    rintro H' _ _ k x (h | ⟨rfl,rfl⟩)
    ·exact h
    ·rfl)
   have u1':aHf (.pUpd (.p,.i)) K [.map (some mt),plKey b C.length kids.length,.int .i64 (deepsE kids:Int)]=some (.tuple [],K2):=u1
   simp only[sA,sB,seval,t0,t1,t2,t7,t8,t35,t36,hlt',nil_cell,fldA,ltK,lpK,u1']
   exact⟨tt,⟨om,fun c hc hne=>by rw[u4 c hne,FK.old c om hne,k03 c hc]⟩,u2⟩
  have hlt':(i:Int)<(kids.length:Int):=om
  obtain⟨e,he⟩:∃e,kids[i]?=some e:=⟨_,List.getElem?_eq_getElem hlt⟩
  have hts:kids.take (i+1)=kids.take i++[e]:=by rw[List.take_add_one,he]; rfl
  have hmem:=List.mem_of_getElem? he
  have hsm:=sizesE_memT hmem
  have hdm:=deepsE_memT hmem
  have z1K:WhK (·<n0) K 4 (.slice (some ⟨b,C.length,0⟩) kids.length r) kids.length C:=.inr ⟨b,low,r,rfl,hb,hgK,hlow,hC⟩
  have ix:=z1K.sl.idx hlt
  have pt:=z1K.sl.pt hlt
  have fl3:=pt.fld 3
  have hx:=(z23.mono kmK).at he
  obtain⟨ek,es,en,ekids⟩:=e
  obtain⟨v',C',hc,y1,y2⟩:=hx
  rw[hc]at pt
  have l3:oLoad false 1 K (fp (placeK 4 (.slice (some ⟨b,C.length,0⟩) kids.length r) i) 3)=some v':=pt.load (o:=3) rfl
  have hsz:(Ex.mk ek es en ekids).size=sizesE ekids+1:=rfl
  have hdp2:(Ex.mk ek es en ekids).deep=deepsE ekids+1:=rfl
  have wd:IntKind.i64.wrap ((deep:Int)+1)=((deep+1:Nat):Int):=w64
  have wi:IntKind.i64.wrap ((i:Int)+1)=((i+1:Nat):Int):=addN i 1 (by have:=len_sizesE kids; omega)
  have wk:IntKind.i64.wrap ((deepsE ekids:Int)+1)=((deepsE ekids+1:Nat):Int):=w64
  have hneg:¬(deepsE ekids:Int)<0:=om
  simp only[sA,sB,seval,t0,t1,t2,t7,t8,t35,t36,hlt',ix,fl3,l3,wd]
  refine (ih (deep:=deep+1) om om hAK om om MK y1 y2 om).mono ?_
  rintro _ K2 ⟨rfl,F2,M2⟩
  simp only[sA,sB,seval,t0,t1,t2,t7,t8,t35,t36,hneg,wk,pf_maxN,wi]
  refine⟨kids.length-(i+1),om,i+1,rfl,om,tt,tt,tt,tt,?_,tt,tt,FK.trans F2,M2⟩
  rw[hts,deepsE_app]
  simp only[deepsE,hdp2,Nat.max_zero]
end Go.Proofs.Wo
