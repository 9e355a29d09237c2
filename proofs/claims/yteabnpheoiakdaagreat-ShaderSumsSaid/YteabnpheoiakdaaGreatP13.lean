/- Part of a proof (QE4 QE5 QE6 QE7 QE8 QM0); no condition. -/
import Derived.Test.YteabnpheoiakdaaGreatP10
import Derived.Test.YteabnpheoiakdaaGreatP12
set_option linter.unusedSimpArgs false
set_option linter.unusedVariables false
set_option linter.unnecessarySimpa false
namespace Go.Proofs.Wo
open Go.Abs Go.Abs.S
theorem Qx(f:Int):aL [.slice none 0 (.known 0),.int .i64 0] [(1,1,.int .i64 f)]=some (.agg [bJ,.int .i64 f]):=rfl
theorem GL(ts:List Nat)(t:Nat):uJ ts++[di t]=uJ (ts++[t]):=by simp[uJ]
theorem NJ{l:List Ex}(h:gU l=true){e:Ex}(he:e∈l):qX e=true:=by
 induction l with
 | nil=>simp at he
 | cons x l ih=>
  simp only[gU,SE]at h
  rcases List.mem_cons.1 he with rfl | he
  ·exact h.1
  ·exact ih h.2 he
theorem NF{E:bC}{n0 n1 ab mb mt mk:Nat}{vn vk:aa}:JM E n0 n1 ab vn vk mb mt mk 0:=by
 intro kids C v H Q hsz A z1 z2 hok
 have hk0:kids=[]:=by
  cases kids with
  | nil=>rfl
  | cons x l=>cases x; simp only[bZ,Ex.size]at hsz; omega
 subst hk0
 have ln:=z1.sl.len
 have h0:(([]:List Ex).length:Int)=0:=rfl
 refine aj rfl LX rfl ?_
 simp only[Oc,sA,sB,seval,ln,h0]
 exact⟨⟨bJ,tt,.inl ⟨rfl,rfl,rfl⟩,mF _⟩,Fp.refl _ _,A.ext rL (fun _ _ _=>rfl) (fun b hb=>.inl hb) (A.qx rL rL)⟩
theorem PT{E:bC}(hE:uH E){n0 n1 ab mb mt mk:Nat}{vn vk:aa}{N:Nat}(hN:N<=1000000)(ih:QM E n0 n1 ab vn vk mb mt mk N):JM E n0 n1 ab vn vk mb mt mk N:=by
 intro kids C v H Q hsz A z1 z2 hok
 have ln:=z1.sl.len
 by_cases hk0:kids=[]
 ·subst hk0
  exact NF (by simp[bZ]) A z1 z2 hok
 have hkp:0<kids.length:=List.length_pos_iff.2 hk0
 have hkn:¬(kids.length:Int)=0:=om
 obtain⟨b,low,r,rfl,hb,hg,hlow,hC⟩:=z1.pos hkp
 have hmk:=A.kn.1
 have hab:=A.abl
 have hmb:=A.mbl
 have hn0:=A.n0l
 have hn1:=A.n1l
 refine aj rfl LX rfl ?_
 simp only[Oc,sA,sB,seval,ln,hkn]
 refine (qy hkp).mono ?_
 rintro _ H1 ⟨rfl,E1⟩
 have e1:=E1.next
 obtain⟨H2,m2,r2,n2,k2⟩:=aw H1 [.ptr none,.int .i64 0] (n:=2) rfl
 obtain⟨H3,m3,r3,n3,k3⟩:=ak r2 (n:=2) rfl (xs:=[.ptr (some ⟨b,C.length,0⟩),.int .i64 (kids.length:Int)]) rfl rfl
 have m3':bu 2 H2 (af H1.next 2 0) (dP b C.length kids.length)=some H3:=m3
 obtain⟨kb,hkb⟩:∃kb,kb=H1.next:=⟨_,rfl⟩
 rw[<- hkb]at r3 m3' m2 k2 k3
 obtain⟨H4,hH4⟩:∃J,J=H3.push (.cells [.slice none 0 (.known 0),.int .i64 0] 0 false):=⟨_,rfl⟩
 have n4:H4.next=H3.next+1:=by rw[hH4]; rfl
 have g4:H4.get H3.next=some (.cells [.slice none 0 (.known 0),.int .i64 0] 0 false):=by rw[hH4,ae.get_push,if_pos rfl]
 have k04:∀c,c<H.next->H4.get c=H.get c:=fun c hc=>by rw[hH4,aI om,k3 c om,k2 c om,E1.old c hc]
 have A4:iq E n0 n1 ab vn vk mb mt mk Q H4:=A.ext om (fun c hc _=>k04 c hc) (fun b hb=>hb) (fun b hb=>by have:=A.hQ b hb; omega)
 have lm:au false 1 H4 (af ab 5 4)=some (.map (some mk)):=am A4.ask rfl rfl
 have r34:a6 H4 kb [.ptr (some ⟨b,C.length,0⟩),.int .i64 (kids.length:Int)]:=r3.same (by rw[hH4,aI om])
 have lp:au true 2 H4 (af kb 2 0)=some (dP b C.length kids.length):=aA r34 rfl
 have hgt:∀{K:ae},(∀c,c<n0->K.get c=H.get c)->K.get b=some (.cells C low false):=fun h=>(h b hb).trans hg
 have z24:dF (·<n0) H4 kids C:=z2.mono fun c hc=>⟨hc,k04 c (by have:c<n0:=hc; omega)⟩
 have hg4:=hgt (K:=H4) fun c hc=>k04 c om
 have cl4:dy H4 H3.next _ none=some (af H3.next 2 0):=eO g4 rfl
 rcases A4.kn.look hg4 z24 (.agg [.slice none 0 (.known 0),.int .i64 0]) with q | ⟨y,hy,q⟩
 case inr=>
  have q':mV (.pLook (.p,.i) true (.agg [.slice none 0 (.known 0),.int .i64 0])) H4 [.map (some mk),dP b C.length kids.length]=some (.tuple [y,.bool true],H4):=q
  obtain⟨y0,y1,rfl,hone⟩:∃y0 y1,y=.agg [y0,y1]/\[y0,y1].all aa.one=true:=by
   unfold AF at hy
   split at hy
   ·obtain⟨w,rfl,h2,_⟩:=hy
    exact⟨_,_,rfl,by simp only[List.all_cons,List.all_nil,h2.one]; rfl⟩
   ·exact⟨_,_,hy,rfl⟩
  obtain⟨H5,m5,r5,n5,k5⟩:=ak (H:=H4) (b:=H3.next) ⟨0,g4,Nat.zero_le _⟩ (n:=2) rfl (xs:=[y0,y1]) rfl hone
  have l50:au false 1 H5 (af H3.next 2 0)=some y0:=am r5 rfl rfl
  have l51:au false 1 H5 (af H3.next 2 1)=some y1:=am r5 rfl rfl
  simp only[sA,sB,seval,m2,m3',aF]
  refine fq ?_
  simp only[aB,cG,aQ,jY,iO,<- hH4]
  simp only[sR,sA,sB,seval,aF,aZ,lm,lp,q',bA,bx,fh,cl4,m5]
  simp only[bG,bH,bg,eh,bI,co,and_true,true_and,List.map_cons,List.map_nil,sA,sB,seval]
  refine⟨⟨_,rfl,fun _=>⟨_,cl4,eo _ _ _⟩⟩,?_⟩
  simp only[sA,sB,seval,fld0,aZ,l50,l51]
  have F5:Fp mk H H5:=⟨om,fun c hc _=>by rw[k5 c om,k04 c hc]⟩
  have A5:iq E n0 n1 ab vn vk mb mt mk (QX Q H.next H5.next) H5:=A.ext om (fun c hc _=>by rw[k5 c om,k04 c hc]) (fun b hb=>.inl hb) (A.qx rL om)
  have hy5:AF E Q H5 kids (.agg [y0,y1]):=hy.keep om fun b hb hl=>⟨hb,k5 b (by have:=A.hQ b hb; omega)⟩
  refine⟨?_,F5,A5⟩
  unfold AF at hy5
  split at hy5
  ·obtain⟨w,e,h2,h3⟩:=hy5
   simp only[aa.agg.injEq,List.cons.injEq,and_true]at e
   obtain⟨rfl,rfl⟩:=e
   exact⟨y0,tt,h2,h3.mono fun b hb=>.inl hb⟩
  ·simp only[aa.agg.injEq,List.cons.injEq,and_true]at hy5
   obtain⟨rfl,rfl⟩:=hy5
   exact tt
 have q':mV (.pLook (.p,.i) true (.agg [.slice none 0 (.known 0),.int .i64 0])) H4 [.map (some mk),dP b C.length kids.length]=some (.tuple [.agg [.slice none 0 (.known 0),.int .i64 0],.bool false],H4):=q
 obtain⟨H5,m5,r5,n5,k5⟩:=ak (H:=H4) (b:=H3.next) ⟨0,g4,Nat.zero_le _⟩ (n:=2) rfl (xs:=[.slice none 0 (.known 0),.int .i64 0]) rfl rfl
 obtain⟨H6,m6,r6,n6,k6⟩:=aw H5 [.slice none 0 (.known 0),.int .i64 0] (n:=2) rfl
 have ln':iT false (.slice (some ⟨b,C.length,0⟩) kids.length r)=some (.int .i64 (kids.length:Int)):=rfl
 simp only[sA,sB,seval,m2,m3',aF]
 refine fq ?_
 simp only[aB,cG,aQ,jY,iO,<- hH4]
 simp only[sR,sA,sB,seval,aF,aZ,lm,lp,q',bA,bx,fh,cl4,m5]
 simp only[bG,bH,bg,eh,bI,co,and_true,true_and,List.map_cons,List.map_nil,sA,sB,seval]
 refine⟨⟨_,rfl,fun _=>⟨_,cl4,eo _ _ _⟩⟩,?_⟩
 obtain⟨cb,hcb⟩:∃cb,cb=H5.next:=⟨_,rfl⟩
 rw[<- hcb]at m6 r6 k6
 have k06:∀c,c<H.next->H6.get c=H.get c:=fun c hc=>by rw[k6 c om,k5 c om,k04 c hc]
 have done:∀(K:ae) (y0 y1:aa),H6.next<=K.next->(∀c,c<H6.next->c≠mk->c≠cb->K.get c=H6.get c)->a6 K cb [y0,y1]->iq E n0 n1 ab vn vk mb mt mk (QX Q H6.next K.next) K->AF E (QX Q H6.next K.next) K kids (.agg [y0,y1]) ->
   ∃K2,mV (.pUpd (.p,.i)) K [.map (some mk),dP b C.length kids.length,.agg [y0,y1]]=some (.tuple [],K2)/\au false 1 K (af ab 5 4)=some (.map (some mk))/\au true 2 K (af kb 2 0)=some (dP b C.length kids.length)/\au true 2 K (af cb 2 0)=some (.agg [y0,y1]) /\
    au false 1 K2 (af cb 2 0)=some y0/\au false 1 K2 (af cb 2 1)=some y1/\Ng E n0 n1 ab vn vk mb mt mk Q H kids (.tuple [y0,y1]) K2:=by
  intro K y0 y1 nK hK hr AK hf
  have rkb:a6 K kb [.ptr (some ⟨b,C.length,0⟩),.int .i64 (kids.length:Int)]:=r34.same (by rw[hK kb om om om,k6 kb om,k5 kb om])
  have z2K:dF (·<n0) K kids C:=z2.mono fun c hc=>⟨hc,by have:c<n0:=hc; rw[hK c om om om,k06 c om]⟩
  have hgK:=hgt (K:=K) fun c hc=>by rw[hK c om om om,k06 c om]
  obtain⟨K2,u1,u2,u3,u4⟩:=AK.kn.upd hgK z2K hb (fun c hc=>by have:c<n0:=hc; omega) (y:=.agg [y0,y1]) (by
   rintro H' o1 o2 k x (h | ⟨rfl,rfl⟩)
   ·exact h.keep om fun b hb _=>⟨hb,o1 b (AK.hQ b hb).2⟩
   ·exact hf.keep om fun b hb _=>⟨hb,o1 b (AK.hQ b hb).2⟩)
  have hr2:a6 K2 cb [y0,y1]:=hr.same (u4 cb om)
  have F:Fp mk H K2:=⟨om,fun c hc hne=>by rw[u4 c hne,hK c om hne om,k06 c hc]⟩
  have A2:iq E n0 n1 ab vn vk mb mt mk (QX Q H6.next K.next) K2:=AK.step om (u4 ab hab.2) (u4 mb hmb.2) (fun c hc=>u4 c om) u2 fun b hb=>by have:=AK.hQ b hb; omega
  have A3:iq E n0 n1 ab vn vk mb mt mk (QX Q H.next K2.next) K2:=A2.ext rL (fun _ _ _=>rfl) (fun b hb=>hb.sub om om) (A.qx rL om)
  have hf2:AF E (QX Q H.next K2.next) K2 kids (.agg [y0,y1]):=hf.keep om fun b hb _=>⟨hb.sub om om,u4 b (AK.hQ b hb).2⟩
  refine⟨K2,u1,am AK.ask rfl rfl,aA rkb rfl,aA hr rfl,am hr2 rfl rfl,am hr2 rfl rfl,?_,F,A3⟩
  unfold AF at hf2
  split at hf2
  ·obtain⟨w,e,h2,h3⟩:=hf2
   simp only[aa.agg.injEq,List.cons.injEq,and_true]at e
   obtain⟨rfl,rfl⟩:=e
   exact⟨y0,tt,h2,h3⟩
  ·simp only[aa.agg.injEq,List.cons.injEq,and_true]at hf2
   obtain⟨rfl,rfl⟩:=hf2
   exact tt
 have A6:iq E n0 n1 ab vn vk mb mt mk Q H6:=A.ext om (fun c hc _=>k06 c hc) (fun b hb=>hb) (fun b hb=>by have:=A.hQ b hb; omega)
 simp only[sA,sB,seval,m6,ln']
 refine cg (fun m (T:cD) K=>∃(i:Nat) (s:aa) (ts:List Nat),m=kids.length-i/\i<=kids.length/\T 0=af ab 5 0/\T 1=.slice (some ⟨b,C.length,0⟩) kids.length r/\T 6=af kb 2 0/\T 9=af cb 2 0/\T 33=.int .i64 (kids.length:Int)/\T 34=.int .i64 (i:Int) /\
   ez E (kids.take i)=.ok ts/\a6 K cb [s,.int .i64 0]/\cp 1 K s (uJ ts) ts.length/\da s (H6.next<=·)/\iq E n0 n1 ab vn vk mb mt mk (fun x=>QX Q H6.next K.next x/\da s (x≠·)) K/\H6.next<=K.next/\∀c,c<H6.next->c≠mk->c≠cb->K.get c=H6.get c) kids.length
  ⟨0,bJ,[],rfl,Nat.zero_le _,by simp only[sA,sB,seval]; try rfl,by simp only[sA,sB,seval]; try rfl,by simp only[sA,sB,seval,hkb]; try rfl,by simp only[sA,sB,seval]; try rfl,by simp only[sA,sB,seval]; try rfl,by simp only[sA,sB,seval]; try rfl,rfl,r6,.inl ⟨rfl,rfl,rfl⟩,mF _,A6.ext rL (fun _ _ _=>rfl) (fun b hb=>⟨.inl hb,mF _⟩) (fun b hb=>A6.qx rL rL b hb.1),Nat.le_refl _,fun _ _ _ _=>rfl⟩ ?_
 rintro m T K ⟨i,s,ts,rfl,hi,t0,t1,t6,t9,t33,t34,hty,rK,lK,bK,AK,nK,hK⟩
 have hlen:ts.length=i:=by rw[sC hty,SZ]; omega
 have AK':iq E n0 n1 ab vn vk mb mt mk (QX Q H6.next K.next) K:=AK.ext rL (fun _ _ _=>rfl) (fun b hb=>hb.1) (A6.qx rL nK)
 have bsK:=lK.blk
 by_cases hlt:i<kids.length
 case neg=>
  have hi':i=kids.length:=om
  have hlt':¬(i:Int)<(kids.length:Int):=om
  rw[hi',List.take_length]at hty
  have hf:AF E (QX Q H6.next K.next) K kids (.agg [s,.int .i64 0]):=by
   unfold AF
   rw[hty]
   exact⟨s,rfl,lK,fun a j r e=>.inr ⟨bK a j r e,bsK a j r e⟩⟩
  obtain⟨K2,u1,u2,u3,u4,u5,u6,u7⟩:=done K s (.int .i64 0) nK hK rK AK' hf
  simp only[sA,sB,seval,t0,t1,t6,t9,t33,t34,hlt',aF,aZ,fld0,u1,u2,u3,u4,u5,u6]
  exact u7
 have hlt':(i:Int)<(kids.length:Int):=om
 obtain⟨e,he⟩:∃e,kids[i]?=some e:=⟨_,SB hlt⟩
 have hts:kids.take (i+1)=kids.take i++[e]:=by rw[List.take_add_one,he]; rfl
 have hmem:=SJ he
 have hsm:=qC hmem
 have kmK:∀c,c<n0->c<n0/\K.get c=H.get c:=fun c hc=>⟨hc,by rw[hK c om om om,k06 c om]⟩
 have hgK:=hgt (K:=K) fun c hc=>(kmK c hc).2
 have z1K:ql (·<n0) K 4 (.slice (some ⟨b,C.length,0⟩) kids.length r) kids.length C:=.inr ⟨b,low,r,rfl,hb,hgK,hlow,hC⟩
 have ix:=z1K.sl.idx hlt
 have pt:=z1K.sl.pt hlt
 have pb:=z1K.sl.blk hlt
 have hx:=(z2.mono kmK).at he
 have h4l:=hx.len
 have wi:IntKind.i64.wrap ((i:Int)+1)=((i+1:Nat):Int):=Oo i 1 (by have:=iK kids; omega)
 simp only[sA,sB,seval,t0,t1,t6,t9,t33,t34,hlt',ix]
 refine (ih om AK pt (fun a e=>by have:a.b<n0:=pb a e; omega) hx (NJ hok hmem)).mono ?_
 rintro u K2 ⟨rfl,F2,A2⟩
 have e2:=F2.next
 have rK2:a6 K2 cb [s,.int .i64 0]:=rK.same (F2.old cb om om)
 have lK2:cp 1 K2 s (uJ ts) ts.length:=lK.same e2 fun a j r e=>F2.old _ (bsK a j r e) (by have:=bK a j r e; omega)
 have hK2:∀c,c<H6.next->c≠mk->c≠cb->K2.get c=H6.get c:=fun c h1 h2 h3=>by rw[F2.old c om h2,hK c h1 h2 h3]
 cases hte:rz E e with
 | error f=>
  have hf0:=ry hte
  have hf':¬(f:Int)=0:=om
  have hbad:ez E kids=.error f:=GM i ⟨ts,hty⟩ he hte
  obtain⟨K3,m3,r3,n3,k3⟩:=ak rK2 (n:=2) rfl (xs:=[bJ,.int .i64 (f:Int)]) rfl rfl
  have A3:iq E n0 n1 ab vn vk mb mt mk (QX Q H6.next K3.next) K3:=A2.ext om (fun c hc hq=>k3 c (by
   rcases hq with hq | hq | hq | hq | hq | hq
   ·rintro rfl
    rcases hq with⟨hq,_⟩ | ⟨hq,_⟩
    ·rcases hq with hq | ⟨hq,_⟩
     ·have:=A.hQ _ hq; omega
     ·omega
    ·omega
   all_goals omega)) (fun b hb=>by
    rcases hb with⟨hb,_⟩ | hb
    ·exact hb.sub rL om
    ·exact .inr ⟨om,om⟩) (A6.qx rL om)
  have hf:AF E (QX Q H6.next K3.next) K3 kids (.agg [bJ,.int .i64 (f:Int)]):=by
   unfold AF
   rw[hbad]
  obtain⟨K4,u1,u2,u3,u4,u5,u6,u7⟩:=done K3 bJ (.int .i64 (f:Int)) om (fun c h1 h2 h3=>by rw[k3 c h3,hK2 c h1 h2 h3]) r3 A3 hf
  simp only[sA,sB,seval,Me,bA,bx,hf',Qx,t0,t1,t6,t9,t33,t34,m3,aF,aZ,fld0,u1,u2,u3,u4,u5,u6]
  exact u7
 | ok t=>
  have ls:au false 1 K2 (af cb 2 0)=some s:=am rK2 rfl rfl
  have bs:cA 1 [.int .u8 0] K2 [(0,1,di t)]=some (.slice (some ⟨K2.next,[di t].length,0⟩) 1 (.known 1),K2.push (.cells [di t] 0 false)):=rfl
  obtain⟨s',K3,a1,a2,a3,a4,a5⟩:=lK2.add (j:=1) (xs:=[di t]) rfl rfl om (bytes:=1) (by have:=iK kids; omega) om
  have bcb:da s (cb≠·):=fun a j r e=>by have:=bK a j r e; omega
  obtain⟨K4,m4,r4,n4,k4⟩:=cu (H:=K3) (rK2.same (a5 cb om bcb)) (n:=2) rfl (i:=0) om (x:=s') a2.one (l':=[s',.int .i64 0]) rfl
  have ty2:ez E (kids.take (i+1))=.ok (ts++[t]):=by rw[hts,ED hty,hte]
  rw[GL]at a2
  have lK4:cp 1 K4 s' (uJ (ts++[t])) (ts++[t]).length:=by
   rw[lA]
   refine a2.same om fun a j r e=>k4 _ ?_
   rcases a4 _ bK a j r e with q | q <;> omega
  have bs':da s' (H6.next<=·):=(a4 _ bK).mono fun x hx=>om
  simp only[sA,sB,seval,Me,bA,bx,Int.cast_ofNat_Int,t0,t1,t6,t9,t33,t34,fld0,ls,bs,a1,m4,wi]
  refine⟨kids.length-(i+1),om,i+1,s',ts++[t],rfl,om,tt,tt,tt,tt,tt,tt,ty2,r4,lK4,bs',?_,om,?_⟩
  ·refine A2.kn.1 |> fun hmk2=>?_
   have keepQ:∀x,QX (fun x=>QX Q H6.next K.next x/\da s (x≠·)) K.next K2.next x->x<K2.next->(QX Q H6.next K4.next x/\da s' (x≠·))/\K4.get x=K2.get x:=by
    intro x hx hl
    have hxs:da s (x≠·):=by
     rcases hx with⟨_,hx⟩ | hx
     ·exact hx
     ·exact bsK.mono fun c hc=>om
    have hxc:x≠cb:=by
     rintro rfl
     rcases hx with⟨hq,_⟩ | ⟨hq,_⟩
     ·rcases hq with hq | ⟨hq,_⟩
      ·have:=A.hQ _ hq; omega
      ·omega
     ·omega
    refine⟨⟨?_,(a4 _ hxs).mono fun c hc=>om⟩,by rw[k4 x hxc,a5 x hl hxs]⟩
    rcases hx with⟨hx,_⟩ | hx
    ·exact hx.sub rL om
    ·exact .inr ⟨om,om⟩
   have old4:∀c,c<H6.next->c≠cb->K4.get c=K2.get c:=fun c h1 h2=>by rw[k4 c h2,a5 c om fun a j r e=>by have:=bK a j r e; omega]
   refine A2.step om (old4 ab om om) (old4 mb om om) (fun c hc=>old4 c om om) (A2.kn.keep om (old4 mk om om) (fun c hc=>⟨hc,old4 c (by have:c<n0:=hc; omega) (by have:c<n0:=hc; omega)⟩) fun k y q=>q.keep om fun x hx hl=>keepQ x hx hl) fun x hx=>A6.qx rL om x hx.1
  ·intro c h1 h2 h3
   rw[k4 c h3,a5 c om fun a j r e=>by have:=bK a j r e; omega,hK2 c h1 h2 h3]
open Go.Abs Go.Abs.S
theorem Sc{E:bC}{n0 n1 ab mb mt mk:Nat}{vn vk:aa}:QM E n0 n1 ab vn vk mb mt mk 0:=by
 intro e c p H Q h
 have:=EN e
 omega
theorem Mv{E:bC}(hE:uH E)(hEl:E.length<=1000000){n0 n1 ab mb mt mk:Nat}{vn vk:aa}:∀N,N<=1000000->QM E n0 n1 ab vn vk mb mt mk N
 | 0,_=>Sc
 | N+1,h=>ofP hE hEl om (PT hE om (Mv hE hEl N om))
theorem I1(b:Nat)(z:List aa)(s:Option (Nat×Nat)):rl b z s (.hf .mkMap [])=.claim b z s:=_root_.id rfl
theorem HD:sY [] (some (1,0))=.map [] 0:=_root_.id rfl
theorem mE{H:ae}{b:Nat}(h:H.get b=some (.map [] 0)):dy H b [] (some (1,0))=some (.map (some b)):=by
 unfold dy
 simp only[h]
 rfl
theorem EF{E:bC}{vn vk:aa}{n0 n1:Nat}{H:ae}(ln:cp 1 H vn (vM E) E.length)(lk:cp 1 H vk (xK E) E.length)(bn:da vn (·<n1))(bk:da vk (·<n1))(h1:n1<=H.next)(h0:n0<=H.next) :
  az Tryz.prog aH 126 [vn,vk] H fun u H'=>u=af (H.next+3) 5 0/\(∃vn' vk',iq E n0 n1 (H.next+3) vn' vk' (H.next+2) H.next (H.next+1) (fun _=>False) H')/\gn (·<n0) zP H.next H'/\H'.next=H.next+4/\∀c,c<H.next->H'.get c=H.get c:=by
 refine aj rfl Pb rfl ?_
 obtain⟨H2,hH2⟩:∃J,J=(H.push (.map [] 0)).push (.map [] 0):=⟨_,rfl⟩
 have n2:H2.next=H.next+2:=by rw[hH2]; rfl
 have k2:∀c,c<H.next->H2.get c=H.get c:=fun c hc=>by rw[hH2,ae.get_push,if_neg (by rw[bp]; omega),aI hc]
 have g2t:H2.get H.next=some (.map [] 0):=by rw[hH2,ae.get_push,if_neg (by rw[bp]; omega),ae.get_push,if_pos rfl]
 have g2k:H2.get (H.next+1)=some (.map [] 0):=by rw[hH2,ae.get_push,if_pos (by rw[bp])]
 obtain⟨vn',sn,ln',bn'⟩:=ln.cut om (n:=E.length) rL
 obtain⟨vk',sk,lk',bk'⟩:=lk.cut om (n:=E.length) rL
 rw[Nat.mul_one,List.take_of_length_le (by rw[oH]; omega)]at ln'
 rw[Nat.mul_one,List.take_of_length_le (by rw[xJ]; omega)]at lk'
 have cn:=(cp.cel1 ln' (bn' _ bn)).1
 have ck:=(cp.cel1 lk' (bk' _ bk)).1
 have lnn:=ln.len
 have lkk:=lk.len
 simp only[Qh,sA,sB,seval,lnn,lkk,ite_self]
 refine fq ?_
 simp only[aB,cG,aQ,HD,I1,<- hH2]
 simp only[sR,sA,sB,seval,ite_self,sn,sk]
 refine EG.mono ?_
 rintro _ H3 ⟨rfl,hB,n3,k3⟩
 have k03:∀c,c<H.next->H3.get c=H.get c:=fun c hc=>by rw[k3 c om,k2 c hc]
 have cl3:=mE ((k3 H.next om).trans g2t)
 have cl4:=mE ((k3 (H.next+1) om).trans g2k)
 have bb:aL [.slice none 0 (.known 0),.slice none 0 (.known 0),.map none,.map none,.map none] [(0,1,vn'),(1,1,vk'),(2,1,.map (some H2.next)),(3,1,.map (some H.next)),(4,1,.map (some (H.next+1)))]=some (.agg [vn',vk',.map (some H2.next),.map (some H.next),.map (some (H.next+1))]):=by
  have q1:vn'.cells=[vn']:=by
   rcases ln' with⟨rfl,_⟩ | ⟨_,_,_,_,rfl,_⟩ <;> rfl
  have q2:vk'.cells=[vk']:=by
   rcases lk' with⟨rfl,_⟩ | ⟨_,_,_,_,rfl,_⟩ <;> rfl
  simp[aL,js,q1,q2,nd]
  rfl
 obtain⟨H4,m4,r4,n4,k4⟩:=aw H3 [vn',vk',.map (some H2.next),.map (some H.next),.map (some (H.next+1))] (n:=5) rfl
 simp only[sR,sA,sB,seval,fh,cl3,cl4,bb,cB,m4]
 simp only[bG,bH,bg,eh,bI,co,and_true,true_and,List.map_cons,List.map_nil,sA,sB,seval]
 refine⟨⟨⟨_,rfl,fun _=>⟨_,mE g2t,by simp[aeq]⟩⟩,⟨_,rfl,fun _=>⟨_,mE g2k,by simp[aeq]⟩⟩⟩,?_⟩
 have e3:H3.next=H.next+3:=om
 have e2:H2.next=H.next+2:=n2
 rw[e2]at r4 hB
 rw[e3]at r4
 have k04:∀c,c<H.next->H4.get c=H.get c:=fun c hc=>by rw[k4 c om,k03 c hc]
 have E4:cZ n1 H H4:=⟨om,fun c hc=>k04 c om⟩
 have gk4:H4.get (H.next+1)=some (.map [] 0):=by rw[k4 _ om,k3 _ om]; exact g2k
 have gt4:H4.get H.next=some (.map [] 0):=by rw[k4 _ om,k3 _ om]; exact g2t
 refine⟨by simp only[sA,sB,seval,e3],⟨vn',vk',r4,⟨om,om⟩,⟨om,om⟩,(k4 _ om).trans hB,⟨om,om⟩,⟨om,om⟩,cn.ext E4,ck.ext E4,.new gk4 om,fun _ h=>h.elim⟩,.new gt4 om,om,k04⟩
theorem GZ{E:bC}(hE:uH E)(hEl:E.length<=1000000){e:Ex}{c:List aa}{vn vk:aa}{n0 n1:Nat}{H:ae}(ln:cp 1 H vn (vM E) E.length)(lk:cp 1 H vk (xK E) E.length)(bn:da vn (·<n1))(bk:da vk (·<n1))(h1:n1<=H.next)(h0:n0<=H.next)(hx:lU (·<n0) H e c)(hok:qX e=true)(hs:e.size<=1000)(hd:e.deep<=40) :
  az Tryz.prog aH 79 [.agg c,vn,vk] H fun u H'=>u=Me (rz E e)/\cZ H.next H H':=by
 refine aj rfl QW rfl ?_
 have hx0:=hx
 have hone:=hx.xe.one
 obtain⟨k,s,n,kids⟩:=e
 obtain⟨v,C,rfl,z1,z2⟩:=hx
 have hs1:(Ex.mk k s n kids).size=bZ kids+1:=rfl
 have hd1:(Ex.mk k s n kids).deep=bV kids+1:=rfl
 obtain⟨H1,m1,r1,n1',k1⟩:=aw H [.int .u8 (k:Int),.str s,.int .i64 n,v] (n:=4) rfl
 have k1':∀c,c<H.next->H1.get c=H.get c:=fun c hc=>k1 c om
 have km1:∀c,c<n0->c<n0/\H1.get c=H.get c:=fun c hc=>⟨hc,k1' c om⟩
 have ln1:=ln.same (H':=H1) om (bn.mono fun c hc=>k1' c om)
 have lk1:=lk.same (H':=H1) om (bk.mono fun c hc=>k1' c om)
 simp only[c79,sA,sB,seval,cB,m1]
 refine (EF ln1 lk1 bn bk om (n0:=n0) om).mono ?_
 rintro _ H2 ⟨rfl,⟨vn',vk',A2⟩,M2,n2,k2⟩
 have km2:∀c,c<n0->c<n0/\H2.get c=H.get c:=fun c hc=>⟨hc,by rw[k2 c om,k1' c om]⟩
 have l3:au false 1 H2 (af H.next 4 3)=some v:=am (r1.same (k2 _ om)) rfl rfl
 have hc1:((1:Nat):Int)=1:=rfl
 simp only[sA,sB,seval,aZ,l3]
 refine (w8 (deep:=1) (n0:=n0) (mt:=H1.next) om om (bZ kids) rL om A2.ask A2.abl.1 A2.n0l.2 M2 (z1.mono km2) (z2.mono km2) om).mono ?_
 rintro _ H3 ⟨rfl,F3,M3⟩
 have e3:=F3.next
 have hneg:¬(bV kids:Int)<0:=om
 have A3:iq E n0 n1 (H1.next+3) vn' vk' (H1.next+2) H1.next (H1.next+1) (fun _=>False) H3:=A2.ext e3 (fun c hc hq=>F3.old c hc (by
  rcases hq with hq | hq | hq | hq | hq | hq
  ·exact hq.elim
  all_goals omega)) (fun b hb=>hb) (fun _ hb=>hb.elim)
 have r3:a6 H3 H.next [.int .u8 (k:Int),.str s,.int .i64 n,v]:=r1.same (by rw[F3.old _ om om,k2 _ om])
 have pt:nU H3 (af H.next 4 0) [.int .u8 (k:Int),.str s,.int .i64 n,v]:=⟨⟨H.next,4,0⟩,rfl,by
  have:=sZ r3 (n:=4) rfl (i:=0) (k:=4) om
  simpa using this⟩
 have km3:∀c,c<n0->c<n0/\H3.get c=H.get c:=fun c hc=>⟨hc,by rw[F3.old c om om,k2 c om,k1' c om]⟩
 simp only[sA,sB,seval,hneg]
 refine (Mv hE hEl 1000 om om A3 pt (fun a e=>?_) (hx0.mono km3) hok).mono ?_
 ·simp only[af,aa.ptr.injEq,sJ]at e
  rw[<- e]
  show H.next<H3.next/\H.next≠H1.next+1
  omega
 rintro _ H4 ⟨rfl,F4,_⟩
 have e4:=F4.next
 have E4:cZ H.next H H4:=⟨om,fun c hc=>by rw[F4.old c om om,F3.old c om om,k2 c om,k1' c hc]⟩
 cases hte:rz E (.mk k s n kids) with
 | ok t=>
  simp only[sA,sB,seval,Me,bA,bx]
  exact⟨tt,E4⟩
 | error f=>
  simp only[sA,sB,seval,Me,bA,bx]
  exact⟨tt,E4⟩
open Go.Abs Go.Abs.S
structure ru(E:bC)(cb n0:Nat)(vn vk:aa)(H:ae):Prop where
 row:a6 H cb [vn,vk]
 lt:cb<H.next
 n0l:n0<=cb
 ln:cp 1 H vn (vM E) E.length
 lk:cp 1 H vk (xK E) E.length
 bn:da vn fun b=>n0<=b/\b≠cb
 bk:da vk fun b=>n0<=b/\b≠cb
 ap:da vn fun a=>da vk (a≠·)
structure mX(cb:Nat)(vn vk:aa)(H:ae)(vn' vk':aa)(H':ae):Prop where
 next:H.next<=H'.next
 old:∀c,c<H.next->c≠cb->da vn (c≠·)->da vk (c≠·)->H'.get c=H.get c
 bn:∀P:Nat->Prop,da vn P->da vn' fun b=>P b∨H.next<=b
 bk:∀P:Nat->Prop,da vk P->da vk' fun b=>P b∨H.next<=b
theorem mX.trans{cb:Nat}{vn vk vn1 vk1 vn2 vk2:aa}{H H1 H2:ae}(a:mX cb vn vk H vn1 vk1 H1)(b:mX cb vn1 vk1 H1 vn2 vk2 H2):mX cb vn vk H vn2 vk2 H2:=by
 have n1:=a.next
 have n2:=b.next
 refine⟨om,fun c h1 h2 h3 h4=>?_,fun P h=>?_,fun P h=>?_⟩
 ·rw[b.old c om h2 ((a.bn _ h3).mono fun x hx=>om) ((a.bk _ h4).mono fun x hx=>om),a.old c h1 h2 h3 h4]
 ·exact (b.bn _ (a.bn P h)).mono fun x hx=>by
   rcases hx with (hx | hx) | hx
   ·exact .inl hx
   ·exact .inr hx
   ·exact .inr om
 ·exact (b.bk _ (a.bk P h)).mono fun x hx=>by
   rcases hx with (hx | hx) | hx
   ·exact .inl hx
   ·exact .inr hx
   ·exact .inr om
theorem ru.ext{E:bC}{cb n0:Nat}{vn vk:aa}{H H':ae}(A:ru E cb n0 vn vk H)(hn:H.next<=H'.next)(hc:H'.get cb=H.get cb)(h1:da vn fun b=>H'.get b=H.get b)(h2:da vk fun b=>H'.get b=H.get b):ru E cb n0 vn vk H':=
 ⟨A.row.same hc,by have:=A.lt; omega,A.n0l,A.ln.same hn h1,A.lk.same hn h2,A.bn,A.bk,A.ap⟩
theorem ru.exts{E:bC}{cb n0:Nat}{vn vk:aa}{H H':ae}(A:ru E cb n0 vn vk H)(e:cZ H.next H H'):ru E cb n0 vn vk H':=
 A.ext e.next (e.old _ A.lt) (A.ln.blk.mono fun b hb=>e.old b hb) (A.lk.blk.mono fun b hb=>e.old b hb)
theorem mX.exts{cb:Nat}{vn vk:aa}{H H':ae}(e:cZ H.next H H'):mX cb vn vk H vn vk H':=
 ⟨e.next,fun c h _ _ _=>e.old c h,fun _ h=>h.mono fun _ q=>.inl q,fun _ h=>h.mono fun _ q=>.inl q⟩
theorem mX.low{cb n0:Nat}{E:bC}{vn vk vn' vk':aa}{H H':ae}(A:ru E cb n0 vn vk H)(f:mX cb vn vk H vn' vk' H'){c:Nat}(hc:c<n0):H'.get c=H.get c:=by
 have:=A.lt
 have:=A.n0l
 exact f.old c om om (A.bn.mono fun x hx=>om) (A.bk.mono fun x hx=>om)
theorem Gc{x y:aa}(h:Gd x y=true):gJ .apart [x,y]=some (.bool true):=by
 show (bif Gd x y then some (aa.bool true) else none)=_
 rw[h]; rfl
theorem LI{x:aa}{a b n:Nat}{i:Nat}(r:uy)(hx:∀c,du x=some c->b≠c):Gd (.slice (some ⟨b,n,i⟩) a r) x=true:=by
 unfold Gd
 cases hb:du x with
 | none=>rfl
 | some c=>
  show (!Nat.beq b c)=true
  rw[show Nat.beq b c=false by rw[cE]; exact decide_eq_false (hx c hb)]; rfl
theorem wA{v:aa}{P:Nat->Prop}(h:da v P){m k:Nat}{H:ae}{L:List aa}(l:cp m H v L k):∀c,du v=some c->P c:=by
 intro c hc
 rcases l with⟨rfl,_⟩ | ⟨b,C,low,r,rfl,_⟩
 ·simp[bJ,du]at hc
 ·simp only[du,sJ]at hc
  rw[<- hc]; exact h _ _ _ rfl
theorem FW{p:aa}{P:Nat->Prop}(h:∀a,p=.ptr (some a)->P a.b)(o:Nat):∀c,du (fp p o)=some c->P c:=by
 intro c hc
 unfold fp at hc
 split at hc
 ·simp only[du,sJ]at hc
  rw[<- hc]; exact h _ rfl
 ·simp[aR,du]at hc
theorem Le{k:Nat}{s:Bs}{a b:Nat}(h:cX k s a b=true):k=1∨k=2∨k=3∨k=4∨k=5:=by
 unfold cX at h
 by_cases h1:k=1∨k=2
 ·omega
 rw[if_neg h1]at h
 by_cases h3:k=3
 ·omega
 rw[if_neg h3]at h
 by_cases h4:k=4
 ·omega
 rw[if_neg h4]at h
 by_cases h5:k=5
 ·omega
 ·rw[if_neg h5]at h; simp at h
theorem Ku(E:bC)(s:Bs)(t:Nat):vM E++[.str s]=vM (E++[(s,t)]):=by simp[vM]
theorem Kv(E:bC)(s:Bs)(t:Nat):xK E++[di t]=xK (E++[(s,t)]):=by simp[xK]
theorem Dd{H:ae}{b len:Nat}{z:List aa}{ofs:List (Nat×Nat)}{l xs:List aa}(g:H.get b=some (.cells [] 0 false))(h:js (rD z len) (Em ofs l)=some xs) :
  ∃H',mV (.fill b (.lit len z ofs)) H l=some (.slice (some ⟨b,xs.length,0⟩) len (.known len),H')/\H'.next=H.next/\H'.get b=some (.cells xs 0 false)/\∀c,c≠b->H'.get c=H.get c:=
 ⟨H.set b (.cells xs 0 false),by simp only[mV,gG,g,lG,h],gQ ..,by rw[ae.get_set,if_pos rfl],fun c hc=>by rw[ae.get_set,if_neg hc]⟩
theorem Cw{H:ae}{b:Nat}{x:aa}(g:H.get b=some (.cells [x] 0 false)):jO 1 H (.slice (some ⟨b,1,0⟩) 1 (.known 1))=some (1,[x]):=by
 have:=gR (H:=H) (b:=b) (l:=[x]) (low:=0) (ro:=false) g (Nat.zero_le _)
 simp only[SF,SG,Nat.zero_add]at this
 simp only[jO,Nat.one_mul,this]
theorem xX{H:ae}{v:aa}{l:List Bs}{n:Nat}(c:po n H v (l.map aa.str))(x:Bs)(hl:l.length<=1000000):az Tryz.prog aH 59 [v,.str x] H fun u H'=>u=.bool (l.contains x)/\H=H':=by
 have hE:l=(l.map fun y=>(y,0)).map (·.1):=by simp[Function.comp_def]
 have c':po n H v (vM (l.map fun y=>(y,0))):=by unfold vM; rw[<- hE]; exact c
 refine aj rfl OU rfl ?_
 simp only[Sk,sA,sB,seval]
 refine (Cx c' x (by simpa using hl)).mono ?_
 rintro _ _ ⟨rfl,rfl⟩
 have hi:decide (0<=FA x (l.map fun y=>(y,0)))=l.contains x:=by
  unfold FA
  cases hf:cy x (l.map fun y=>(y,0)) with
  | none=>
   have:=lE.1 hf
   rw[<- hE]at this
   simp[this]
  | some i=>
   have hn:¬(x∉(l.map fun y=>(y,0)).map (·.1)):=fun q=>by rw[lE.2 q]at hf; simp at hf
   rw[<- hE]at hn
   simp only[Classical.not_not]at hn
   simp[hn]
 simp only[sA,sB,seval,hi]
 exact⟨tt,tt⟩
theorem cp.aeq{m k:Nat}{H:ae}{s:aa}{L:List aa}(h:cp m H s L k):Go.Abs.aeq s s=true:=by
 rcases h with⟨rfl,_⟩ | ⟨b,C,low,r,rfl,_⟩
 ·exact uj
 ·cases r <;> simp[Go.Abs.aeq]
def StO(E:bC)(cb n0:Nat)(vn vk:aa)(H:ae)(o:Except Nat bC)(u:aa)(H':ae):Prop:=∃vn' vk',(match o with
  | .ok E'=>u=.int .i64 0/\ru E' cb n0 vn' vk' H'
  | .error f=>u=.int .i64 (f:Int)/\ru E cb n0 vn' vk' H')/\mX cb vn vk H vn' vk' H'
theorem qz{E:bC}(hE:uH E)(hEl:E.length<=100000){cb n0:Nat}{vn vk p:aa}{H:ae}(A:ru E cb n0 vn vk H){k:Nat}{s:Bs}{e:Ex}{body els:List St}{line:Int}{ce:List aa}{vb ve:aa}
  (pt:nU H p (.int .u8 (k:Int)::.str s::(ce++[vb,ve,.int .i64 line]))) (hp:∀a,p=.ptr (some a)->a.b<n0) (hx:lU (·<n0) H e ce) (hok:qX e=true) (hk:k=1∨k=2∨k=3∨k=4∨k=5) (hs:e.size<=1000) (hd:e.deep<=40) :
  az Tryz.prog aH 74 [af cb 2 0,p] H (StO E cb n0 vn vk H (Cu E k s e)):=by
 obtain⟨c0,c1,c2,c3,rfl⟩:∃a b c d,ce=[a,b,c,d]:=by
  have:=hx.len
  match ce,this with
  | [a,b,c,d],_=>exact⟨a,b,c,d,rfl⟩
 have hlt:=A.lt
 have hn0:=A.n0l
 refine aj rfl Q1 rfl ?_
 have nc:=pt.chk
 have f2:=pt.fld 2
 have le:au true 4 H (fp p 2)=some (.agg [c0,c1,c2,c3]):=by
  obtain⟨a,ea,hrd⟩:=pt.part (o:=2) (k:=4) (by simp)
  rw[ea]
  simp only[au]
  have hrd':bE H a 4=some [c0,c1,c2,c3]:=hrd
  rw[hrd']; rfl
 have l0:au false 1 H (af cb 2 0)=some vn:=am A.row rfl rfl
 have l1:au false 1 H (af cb 2 1)=some vk:=am A.row rfl rfl
 simp only[c74,sA,sB,seval,nc,f2,le,aF,fld0,aZ,l0,l1]
 refine (GZ hE om A.ln A.lk A.ln.blk A.lk.blk rL om hx hok hs hd).mono ?_
 rintro _ H1 ⟨rfl,E1⟩
 have e1:=E1.next
 have A1:=A.exts E1
 have F1:mX cb vn vk H vn vk H1:=mX.exts E1
 have pt1:=pt.same (H':=H1) fun a ea=>E1.old _ (by have:=hp a ea; omega)
 have g0:=pt1.fld0
 have g1:=pt1.fld 1
 have q0:au false 1 H1 p=some (.int .u8 (k:Int)):=pt1.load0 rfl
 have q1:au false 1 H1 (fp p 1)=some (.str s):=pt1.load (o:=1) rfl
 have l10:au false 1 H1 (af cb 2 0)=some vn:=am A1.row rfl rfl
 have l11:au false 1 H1 (af cb 2 1)=some vk:=am A1.row rfl rfl
 unfold Cu
 cases hty:rz E e with
 | error f=>
  have hf:=ry hty
  have hf':¬(f:Int)=0:=om
  simp only[sA,sB,seval,Me,bA,bx,hf']
  exact⟨vn,vk,⟨tt,A1⟩,F1⟩
 | ok t=>
 have ht2:=wZ hE hty
 simp only[sA,sB,seval,Me,bA,bx,nc,g0,q0]
 have cn:=(cp.cel1 A1.ln A1.ln.blk).1
 have ck:=(cp.cel1 A1.lk A1.lk.blk).1
 rcases hk with rfl | rfl | rfl | rfl | rfl
 ·-- let
  have hh:lC E 1 s t=if s∈E.map (·.1) then .error 110 else .ok (E++[(s,t)]):=rfl
  have cnn:po H1.next H1 vn ((E.map (·.1)).map aa.str):=cn
  simp only[sA,sB,seval,Int.cast_ofNat_Int,nc,aF,fld0,l10,g1,q1]
  refine (xX cnn s (by simp; omega)).mono ?_
  rintro _ _ ⟨rfl,rfl⟩
  rw[hh]
  by_cases hin:s∈E.map (·.1)
  ·have hc:(E.map (·.1)).contains s=true:=by simpa using hin
   simp only[sA,sB,seval,hc,hin,if_true]
   exact⟨vn,vk,⟨tt,A1⟩,F1⟩
  have hc:(E.map (·.1)).contains s=false:=by simpa using hin
  obtain⟨Hr,hHr⟩:∃J,J=(H1.push (.cells [] 0 false)).push (.cells [] 0 false):=⟨_,rfl⟩
  have nr:Hr.next=H1.next+2:=by rw[hHr]; rfl
  have kr:∀c,c<H1.next->Hr.get c=H1.get c:=fun c hc=>by rw[hHr,ae.get_push,if_neg (by rw[bp]; omega),aI hc]
  have gr0:Hr.get H1.next=some (.cells [] 0 false):=by rw[hHr,ae.get_push,if_neg (by rw[bp]; omega),ae.get_push,if_pos rfl]
  have gr1:Hr.get (H1.next+1)=some (.cells [] 0 false):=by rw[hHr,ae.get_push,if_pos (by rw[bp])]
  have Er:cZ H1.next H1 Hr:=⟨om,kr⟩
  have Ar:=A1.exts Er
  obtain⟨H2,fl1,n2,g2,k2⟩:=Dd gr0 (len:=1) (z:=[.str []]) (ofs:=[(0,1)]) (l:=[.str s]) (xs:=[.str s]) rfl
  have bN:=A1.ln.blk
  have bK:=A1.lk.blk
  have A2:ru E cb n0 vn vk H2:=Ar.ext om (k2 cb om) (bN.mono fun b hb=>k2 b om) (bK.mono fun b hb=>k2 b om)
  have s2:jO 1 H2 (.slice (some ⟨H1.next,1,0⟩) 1 (.known 1))=some (1,[.str s]):=Cw g2
  obtain⟨vn',H3,a3,L3,n3,b3,k3⟩:=A2.ln.many s2 rfl rfl om (bytes:=16) om om
  have k3':∀c,c<H2.next->da vn (c≠·)->H3.get c=H2.get c:=k3
  have bcb:da vn (cb≠·):=A.bn.mono fun b hb=>om
  have r3:a6 H3 cb [vn,vk]:=A2.row.same (k3 cb om bcb)
  have gr13:H3.get (H1.next+1)=some (.cells [] 0 false):=by rw[k3 _ om (bN.mono fun b hb=>om),k2 _ om]; exact gr1
  have lk3:cp 1 H3 vk (xK E) E.length:=A2.lk.same n3 fun a j r e=>k3 _ (by have:=bK a j r e; omega) (A.ap.mono fun b hb=>(hb a j r e).symm)
  obtain⟨H4,fl2,n4,g4,k4⟩:=Dd gr13 (len:=1) (z:=[.int .u8 0]) (ofs:=[(0,1)]) (l:=[di t]) (xs:=[di t]) rfl
  have s4:jO 1 H4 (.slice (some ⟨H1.next+1,1,0⟩) 1 (.known 1))=some (1,[di t]):=Cw g4
  have lk4:cp 1 H4 vk (xK E) E.length:=lk3.same om (bK.mono fun b hb=>k4 b om)
  obtain⟨vk',H5,a5,L5,n5,b5,k5⟩:=lk4.many s4 rfl rfl om (bytes:=1) om om
  have ckb:da vk (cb≠·):=A.bk.mono fun b hb=>om
  have r5:a6 H5 cb [vn,vk]:=r3.same (by rw[k5 cb om ckb,k4 cb om])
  obtain⟨H6,m6,r6,n6,k6⟩:=cu r5 (n:=2) rfl (i:=0) om (x:=vn') L3.one (l':=[vn',vk]) rfl
  obtain⟨H7,m7,r7,n7,k7⟩:=cu r6 (n:=2) rfl (i:=1) om (x:=vk') L5.one (l':=[vn',vk']) rfl
  have fl1':mV (.fill H1.next (.lit 1 [.str []] [(0,1)])) Hr [.str s]=some (.slice (some ⟨H1.next,1,0⟩) 1 (.known 1),H2):=fl1
  have fl2':mV (.fill (H1.next+1) (.lit 1 [.int .u8 0] [(0,1)])) H3 [di t]=some (.slice (some ⟨H1.next+1,1,0⟩) 1 (.known 1),H4):=fl2
  have ptr:nU Hr p _:=pt1.same fun a ea=>kr _ (by have:=hp a ea; omega)
  have qr1:au false 1 Hr (fp p 1)=some (.str s):=ptr.load (o:=1) rfl
  have lr0:au false 1 Hr (af cb 2 0)=some vn:=am Ar.row rfl rfl
  have lr1:au false 1 Hr (af cb 2 1)=some vk:=am Ar.row rfl rfl
  have l20:au false 1 H2 (af cb 2 0)=some vn:=am A2.row rfl rfl
  have l21:au false 1 H2 (af cb 2 1)=some vk:=am A2.row rfl rfl
  have l31:au false 1 H3 (af cb 2 1)=some vk:=am r3 rfl rfl
  have l41:au false 1 H4 (af cb 2 1)=some vk:=am (r3.same (k4 cb om)) rfl rfl
  have bv3:=b3 (fun x=>x<H1.next/\(n0<=x/\x≠cb)/\da vk (x≠·)) (fun a j r e=>⟨bN a j r e,A.bn a j r e,A.ap a j r e⟩)
  have bv5:=b5 (fun x=>x<H1.next/\(n0<=x/\x≠cb)) (fun a j r e=>⟨bK a j r e,A.bk a j r e⟩)
  have apN:∀{x:aa},(∀c,du x=some c->H1.next+1≠c)->gJ .apart [.slice (some ⟨H1.next+1,1,0⟩) 1 (.known 1),x]=some (.bool true):=fun h=>Gc (LI _ h)
  have p1:=apN (x:=.slice (some ⟨H1.next,1,0⟩) 1 (.known 1)) fun c hc=>by simp only[du,sJ]at hc; omega
  have p2:=apN (x:=af cb 2 0) fun c hc=>by simp only[du,af,sJ]at hc; omega
  have p3:=apN (x:=af cb 2 1) fun c hc=>by simp only[du,af,sJ]at hc; omega
  have p4:=apN (x:=fp p 1) fun c hc=>by have:c<n0:=FW (P:=(·<n0)) hp 1 c hc; omega
  have p5:=apN (x:=vn) fun c hc=>by have:=wA bN A1.ln c hc; omega
  have p6:=apN (x:=vn') fun c hc=>by
   have:=wA bv3 L3 c hc
   rcases this with⟨this,_⟩ | this <;> omega
  simp only[sA,sB,seval,hc,hin,if_false]
  refine fq ?_
  simp only[aB,cG,aQ,jY,wt,<- hHr]
  simp only[sR,sA,sB,seval,nc,aF,fld0,aZ,lr0,g1,qr1,fl1',a3,l31,fl2',a5,m6,m7]
  simp only[bG,bH,bg,eh,bI,co,and_true,true_and,List.map_cons,List.map_nil,sA,sB,seval,nc,aF,fld0,aZ]
  have aN:=cp.aeq A1.ln
  have aK:=cp.aeq A1.lk
  refine⟨⟨⟨_,rfl,fun _=>⟨_,l20,aN⟩⟩,⟨_,rfl,fun _=>⟨_,lr1,aK⟩⟩,⟨_,rfl,fun _=>⟨_,l21,aK⟩⟩,⟨_,rfl,fun _=>⟨_,l41,aK⟩⟩⟩,?_⟩
  simp only[sA,sB,seval,p1,p2,p3,p4,p5,p6]
  have hL3:=L3.blk
  have hL5:=L5.blk
  rw[Ku E s t]at L3
  rw[Kv]at L5
  have kn:da vn' fun c=>H7.get c=H3.get c:=fun a j r e=>by
   have h3:=hL3 a j r e
   have hc:=bv3 a j r e
   have hb:a.b≠cb:=by
    rcases hc with⟨_,⟨_,hc⟩,_⟩ | hc <;> omega
   have hv:da vk (a.b≠·):=by
    rcases hc with⟨_,_,hc⟩ | hc
    ·exact hc
    ·exact bK.mono fun b hb=>om
   have h1:a.b≠H1.next+1:=by
    rcases hc with⟨hc,_⟩ | hc <;> omega
   show H7.get a.b=H3.get a.b
   rw[k7 _ hb,k6 _ hb,k5 _ om hv,k4 _ h1]
  have kk:da vk' fun c=>H7.get c=H5.get c:=fun a j r e=>by
   have hc:=bv5 a j r e
   have hb:a.b≠cb:=by
    rcases hc with⟨_,_,hc⟩ | hc <;> omega
   show H7.get a.b=H5.get a.b
   rw[k7 _ hb,k6 _ hb]
  have hEl2:(E++[(s,t)]).length=E.length+1:=by simp
  refine⟨vn',vk',⟨tt,⟨r7,om,hn0,by rw[hEl2]; exact L3.same om kn,by rw[hEl2]; exact L5.same om kk,?_,?_,?_⟩⟩,F1.trans ⟨om,?_,?_,?_⟩⟩
  ·exact bv3.mono fun x hx=>by
    rcases hx with⟨_,hx,_⟩ | hx
    ·exact hx
    ·exact⟨om,om⟩
  ·exact bv5.mono fun x hx=>by
    rcases hx with⟨_,hx⟩ | hx
    ·exact hx
    ·exact⟨om,om⟩
  ·intro a j r e
   have h3:=hL3 a j r e
   have hc:=bv3 a j r e
   refine (b5 (a.b≠·) ?_).mono fun x hx=>?_
   ·rcases hc with⟨_,_,hc⟩ | hc
    ·exact hc
    ·exact bK.mono fun b hb=>om
   ·rcases hx with hx | hx
    ·exact hx
    ·omega
  ·intro c h1 h2 h3 h4
   rw[k7 c h2,k6 c h2,k5 c om h4,k4 c om,k3 c om h3,k2 c om,kr c h1]
  ·intro P hP
   exact (b3 P hP).mono fun x hx=>by
    rcases hx with hx | hx
    ·exact .inl hx
    ·exact .inr om
  ·intro P hP
   exact (b5 P hP).mono fun x hx=>by
    rcases hx with hx | hx
    ·exact .inl hx
    ·exact .inr om
 ·-- set
  have hh:lC E 2 s t=(match cy s E with
   | none=>.error 110
   | some i=>if i<4 then .error 110 else match E[i]? with
    | some x=>if x.2=t then .ok E else .error 111
    | none=>.error 110):=rfl
  simp only[sA,sB,seval,Int.cast_ofNat_Int,nc,aF,fld0,l10,g1,q1]
  refine (Cx cn s om).mono ?_
  rintro _ _ ⟨rfl,rfl⟩
  rw[hh]
  unfold FA
  cases hf:cy s E with
  | none=>
   simp only[sA,sB,seval]
   exact⟨vn,vk,⟨tt,A1⟩,F1⟩
  | some i=>
   by_cases h4:i<4
   ·have h4':(i:Int)<4:=om
    simp only[sA,sB,seval,h4',h4,if_true]
    exact⟨vn,vk,⟨tt,A1⟩,F1⟩
   ·have h4':¬(i:Int)<4:=om
    obtain⟨ty,hty2⟩:=we hf
    have hil:=(SC.1 hty2).1
    have i2:=ck.idx .i64 (i:=i) (by rw[xJ]; omega)
    have q2:=ck.load (i:=i) (x:=di ty) (by simp[xK,hty2])
    simp only[di]at q2
    simp only[sA,sB,seval,h4',h4,if_false,aF,aZ,l11,i2,q2,hty2,di]
    by_cases he:ty=t
    ·subst he
     simp only[sA,sB,seval]
     exact⟨vn,vk,⟨tt,A1⟩,F1⟩
    ·have he':¬(ty:Int)=(t:Int):=om
     simp only[sA,sB,seval,he',he]
     exact⟨vn,vk,⟨tt,A1⟩,F1⟩
 ·have hh:lC E 3 s t=if t=2 then .error 111 else .ok E:=rfl
  rw[hh]
  rcases ht2 with rfl | rfl
  ·simp only[sA,sB,seval,Int.cast_ofNat_Int,di]
   exact⟨vn,vk,⟨tt,A1⟩,F1⟩
  ·simp only[sA,sB,seval,Int.cast_ofNat_Int,di]
   exact⟨vn,vk,⟨tt,A1⟩,F1⟩
 ·have hh:lC E 4 s t=if t=2 then .error 111 else .ok E:=rfl
  rw[hh]
  rcases ht2 with rfl | rfl
  ·simp only[sA,sB,seval,Int.cast_ofNat_Int,di]
   exact⟨vn,vk,⟨tt,A1⟩,F1⟩
  ·simp only[sA,sB,seval,Int.cast_ofNat_Int,di]
   exact⟨vn,vk,⟨tt,A1⟩,F1⟩
 ·have hh:lC E 5 s t=if t=1 then .error 111 else .ok E:=rfl
  rw[hh]
  rcases ht2 with rfl | rfl
  ·simp only[sA,sB,seval,Int.cast_ofNat_Int,di]
   exact⟨vn,vk,⟨tt,A1⟩,F1⟩
  ·simp only[sA,sB,seval,Int.cast_ofNat_Int,di]
   exact⟨vn,vk,⟨tt,A1⟩,F1⟩
open Go.Abs Go.Abs.S
theorem KQ(E:bC)(n:Nat):(vM E).take n=vM (E.take n):=by simp[vM,List.map_take]
theorem Li(E:bC)(n:Nat):(xK E).take n=xK (E.take n):=by simp[xK,List.map_take]
theorem IZ{E:bC}{cb n0 ob sb n:Nat}{vn vk:aa}{H:ae}(A:ru E cb n0 vn vk H)(ho:a6 H ob [af cb 2 0])(hs:a6 H sb [.int .i64 (n:Int)])(hob:ob≠cb)(hsb:sb≠cb)(hn:n<=E.length) :
  az Tryz.prog aH 3145 [af ob 1 0,af sb 1 0] H fun _ H'=>∃vn' vk',ru (E.take n) cb n0 vn' vk' H'/\mX cb vn vk H vn' vk' H'/\H'.next=H.next/\∀c,c≠cb->H'.get c=H.get c:=by
 refine gF rfl Nk rfl ?_
 have lo:au false 1 H (af ob 1 0)=some (af cb 2 0):=am ho rfl rfl
 have ls:au false 1 H (af sb 1 0)=some (.int .i64 (n:Int)):=am hs rfl rfl
 have l0:au false 1 H (af cb 2 0)=some vn:=am A.row rfl rfl
 have l1:au false 1 H (af cb 2 1)=some vk:=am A.row rfl rfl
 obtain⟨vn',sn,ln',bn'⟩:=A.ln.cut om hn
 obtain⟨vk',sk,lk',bk'⟩:=A.lk.cut om hn
 rw[Nat.mul_one,KQ]at ln'
 rw[Nat.mul_one,Li]at lk'
 obtain⟨H1,m1,r1,n1,k1⟩:=cu A.row (n:=2) rfl (i:=0) om (x:=vn') ln'.one (l':=[vn',vk]) rfl
 obtain⟨H2,m2,r2,n2,k2⟩:=cu r1 (n:=2) rfl (i:=1) om (x:=vk') lk'.one (l':=[vn',vk']) rfl
 simp only[MS,sA,sB,seval,aF,fld0,aZ,lo,ls,l0,l1,sn,sk,m1,m2]
 have k12:∀c,c≠cb->H2.get c=H.get c:=fun c hc=>by rw[k2 c hc,k1 c hc]
 have b1:=bn' _ A.bn
 have b2:=bk' _ A.bk
 have ht:(E.take n).length=n:=by rw[SZ]; omega
 refine⟨_,rfl,vn',vk',⟨r2,by have:=A.lt; omega,A.n0l,by rw[ht]; exact ln'.same om (b1.mono fun x hx=>k12 x hx.2),by rw[ht]; exact lk'.same om (b2.mono fun x hx=>k12 x hx.2),b1,b2,(bn' _ A.ap).mono fun x hx=>bk' _ hx⟩,⟨om,fun c _ h _ _=>k12 c h,fun P hP=>(bn' P hP).mono fun _ q=>.inl q,fun P hP=>(bk' P hP).mono fun _ q=>.inl q⟩,om,k12⟩
def rj(f:vd):List aa:=[.int .i64 (f.1:Int),.int .i64 f.2]
def eB{α:Type}(o:Except vd α):vd:=match o with
 | .ok _=>(0,0)
 | .error f=>f
def LiO(E:bC)(cb n0:Nat)(vn vk:aa)(H:ae)(f:vd)(u:aa)(H':ae):Prop:=u=.agg (rj f)/\∃vn' vk',ru E cb n0 vn' vk' H'/\mX cb vn vk H vn' vk' H'
def Sx(N:Nat):Prop:=∀{l:List St} {C:List aa} {v:aa} {E:bC} {cb n0:Nat} {vn vk:aa} {H:ae},aS l<=N->ru E cb n0 vn vk H->jt (·<n0) H 9 v l.length C->dL (·<n0) H l C->eq l=true->dR l<=40->uH E->E.length+aS l<=100000 ->
 az Tryz.prog aH 42 [af cb 2 0,v] H (LiO E cb n0 vn vk H (eB (ib E false l)))
theorem xg{E:bC}{k:Nat}{s:Bs}{e:Ex}{f:Nat}(h:Cu E k s e=.error f):f≠0:=by
 unfold Cu at h
 cases he:rz E e with
 | error g=>
  rw[he]at h
  simp only[Except.error.injEq]at h
  subst h
  exact ry he
 | ok t=>
  rw[he]at h
  simp only[lC]at h
  repeat' split at h
  all_goals first | (simp at h; done) | (simp only[Except.error.injEq]at h; omega)
mutual
theorem Ly{E:bC}:∀{x:St} {f:vd},Gw E x=.error f->f.1≠0
 | .mk k s e body els line,f,h=>by
  simp only[Gw]at h
  cases hs:Cu E k s e with
  | error g=>
   simp only[hs,Except.error.injEq]at h
   subst h
   exact xg hs
  | ok E'=>
   cases hb:ib E' false body with
   | error g=>
    simp only[hs,hb,Except.error.injEq]at h
    subst h
    exact jo hb
   | ok _=>
    cases he:ib E' false els with
    | error g=>
     simp only[hs,hb,he,Except.error.injEq]at h
     subst h
     exact jo he
    | ok _=>simp[hs,hb,he]at h
theorem jo{E:bC}:∀{b:Bool} {l:List St} {f:vd},ib E b l=.error f->f.1≠0
 | b,[],f,h=>by simp[ib]at h
 | b,x::l,f,h=>by
  simp only[ib]at h
  by_cases hb:b=true
  ·rw[if_pos hb]at h
   simp only[Except.error.injEq]at h
   subst h
   simp
  ·rw[if_neg hb]at h
   cases hs:Gw E x with
   | error g=>
    rw[hs]at h
    simp only[Except.error.injEq]at h
    subst h
    exact Ly hs
   | ok E'=>
    rw[hs]at h
    exact jo h
end
theorem Ct{E E':bC}{k:Nat}{s:Bs}{e:Ex}(h:Cu E k s e=.ok E'):E.length<=E'.length/\E'.length<=E.length+1:=by
 unfold Cu at h
 cases he:rz E e with
 | error g=>rw[he]at h; simp at h
 | ok t=>
  rw[he]at h
  simp only[lC]at h
  repeat' split at h
  all_goals first | (simp at h; done) | (simp only[Except.ok.injEq]at h; subst h; simp)
theorem jE{E E':bC}{k n:Nat}{s:Bs}{e:Ex}(h:Cu E k s e=.ok E')(hn:n<=E.length):E'.take n=E.take n:=by
 unfold Cu at h
 cases he:rz E e with
 | error g=>rw[he]at h; simp at h
 | ok t=>
  rw[he]at h
  simp only[lC]at h
  repeat' split at h
  all_goals first | (simp at h; done) | (simp only[Except.ok.injEq]at h; subst h; first | rfl | rw[List.take_append_of_le_length hn])
def qF(l:List St):Nat->Bool
 | 0=>false
 | i+1=>match l[i]? with
  | some x=>decide (x.kind=5)
  | none=>false
theorem ru.other{E:bC}{cb n0:Nat}{vn vk:aa}{H H':ae}(A:ru E cb n0 vn vk H)(b:Nat)(k:∀c,c≠b->H'.get c=H.get c)(hn:H.next<=H'.next)(hb:b≠cb)(h1:da vn (·≠b))(h2:da vk (·≠b)):ru E cb n0 vn vk H':=
 A.ext hn (k cb (fun e=>hb e.symm)) (h1.mono fun x hx=>k x hx) (h2.mono fun x hx=>k x hx)
theorem mX.otherF{cb:Nat}{vn vk vn' vk':aa}{H H1 H2:ae}(F:mX cb vn vk H vn' vk' H1)(b:Nat)(k:∀c,c≠b->H2.get c=H1.get c)(hn:H1.next<=H2.next)(hb:H.next<=b):mX cb vn vk H vn' vk' H2:=
 ⟨Nat.le_trans F.next hn,fun c h1 h2 h3 h4=>by rw[k c om,F.old c h1 h2 h3 h4],F.bn,F.bk⟩
theorem jf(g:Nat)(x y:aa):gJ (.isF g 2) [.func (.func g) [] [x,y]]=some (.bool true):=by
 simp[gJ,JD]
theorem fJ(f:Fn)(x y:aa):gJ (.capt 0) [.func f [] [x,y]]=some x:=_root_.id rfl
theorem fI(f:Fn)(x y:aa):gJ (.capt 1) [.func f [] [x,y]]=some y:=_root_.id rfl
theorem je(x:aa):gJ .tup [x]=some x:=_root_.id rfl
theorem Fg{k:Nat}{s:Bs}{e:Ex}{body els:List St}{line:Int}(h:Gu (.mk k s e body els line)=true):cX k s body.length els.length=true/\qX e=true/\eq body=true/\eq els=true:=by
 simpa[Gu,and_assoc] using h
theorem NA{l:List St}(h:eq l=true){e:St}(he:e∈l):Gu e=true:=by
 induction l with
 | nil=>simp at he
 | cons x l ih=>
  simp only[eq,SE]at h
  rcases List.mem_cons.1 he with rfl | he
  ·exact h.1
  ·exact ih h.2 he
theorem BK{l:List St}{e:St}(he:e∈l):e.deep<=dR l:=by
 induction l with
 | nil=>simp at he
 | cons x l ih=>
  simp only[dR]
  rcases List.mem_cons.1 he with rfl | he
  ·omega
  ·have:=ih he; omega
theorem CU{H:ae}{ob cb:Nat}(h:a6 H ob [af cb 2 0]):au false 1 H (af ob 1 0)=some (af cb 2 0):=am h rfl rfl
set_option maxHeartbeats 1000000 in
theorem Lf{N:Nat}(hN:N<=1000)(ih:∀M,M<N->Sx M):Sx N:=by
 intro l C v E cb n0 vn vk H hsz A z1 z2 hok hd hE hl
 have hlt:=A.lt
 have hn0:=A.n0l
 obtain⟨H1,m1,r1,n1,k1⟩:=aw H [af cb 2 0] (n:=1) rfl
 obtain⟨H2,m2,r2,n2,k2⟩:=aw H1 [.int .i64 0,.int .i64 0] (n:=2) rfl
 obtain⟨H3,m3,r3,n3,k3⟩:=aw H2 [.int .i64 0] (n:=1) rfl
 obtain⟨H4,m4,r4,n4,k4⟩:=cu r3 (n:=1) rfl (i:=0) om (x:=.int .i64 (E.length:Int)) rfl (l':=[.int .i64 (E.length:Int)]) rfl
 have E2:cZ H.next H H2:=⟨om,fun c hc=>by rw[k2 c om,k1 c om]⟩
 have E4:cZ H.next H H4:=⟨om,fun c hc=>by rw[k4 c om,k3 c om,E2.old c hc]⟩
 have A4:=A.exts E4
 obtain⟨ob,hob⟩:∃b,b=H.next:=⟨_,rfl⟩
 obtain⟨fb,hfb⟩:∃b,b=H1.next:=⟨_,rfl⟩
 obtain⟨sb,hsb⟩:∃b,b=H2.next:=⟨_,rfl⟩
 rw[<- hob]at m1 r1 k1
 rw[<- hfb]at m2 r2 k2
 rw[<- hsb]at m3 r3 k3 m4 r4 k4
 have ro4:a6 H4 ob [af cb 2 0]:=r1.same (by rw[k4 _ om,k3 _ om,k2 _ om])
 have rf4:a6 H4 fb [.int .i64 0,.int .i64 0]:=r2.same (by rw[k4 _ om,k3 _ om])
 have lo2:au false 1 H2 (af ob 1 0)=some (af cb 2 0):=am (r1.same (k2 _ om)) rfl rfl
 have lN2:au false 1 H2 (af cb 2 0)=some vn:=am (A.exts E2).row rfl rfl
 have lnn:=A.ln.len
 have lv:=z1.len
 have g77:mL [af cb 2 0,v] 77=.tuple []:=rfl
 have g76:mL [af cb 2 0,v] 76=.tuple []:=rfl
 have eD:∀(K:ae) (E':bC) (vn1 vk1:aa) (f:vd),ru E' cb n0 vn1 vk1 K->mX cb vn vk H vn1 vk1 K->E'.take E.length=E->E.length<=E'.length->a6 K ob [af cb 2 0]->a6 K sb [.int .i64 (E.length:Int)]->a6 K fb (rj f)->H.next<=fb->eB (ib E false l)=f ->
   az Tryz.prog aH 3145 [af ob 1 0,af sb 1 0] K fun _ K'=>au true 2 K' (af fb 2 0)=some (.agg (rj f))/\LiO E cb n0 vn vk H (eB (ib E false l)) (.agg (rj f)) K':=by
  intro K E' vn1 vk1 f AK FK htk hlE rO rS rF hfb2 hf
  have hlK:=AK.lt
  refine (IZ AK rO rS om om hlE).mono ?_
  rintro _ K' ⟨vn2,vk2,A2,F2,n2,k2⟩
  rw[htk]at A2
  exact⟨aA (rF.same (k2 _ om)) rfl,by rw[hf],vn2,vk2,A2,FK.trans F2⟩
 have bq0:da vn fun b=>b<H.next:=A.ln.blk
 have bq1:da vk fun b=>b<H.next:=A.lk.blk
 refine gF rfl Rp rfl ?_
 simp only[c42,sA,sB,seval,fN,m1,m2,lo2,aF,fld0,lN2,lnn,m3,m4,g77,xw,lv]
 refine cg (fun m (T:cD) K=>∃(i:Nat) (Ei:bC) (vn1 vk1:aa),m=l.length-i/\i<=l.length/\T 1=v/\T 2=af ob 1 0/\T 4=af fb 2 0/\T 5=af sb 1 0/\T 18=.int .i64 (l.length:Int)/\T 19=.int .i64 (i:Int)/\T 76=.tuple []/\T 77=.func (.func 73) [] [af ob 1 0,af sb 1 0] /\
   ru Ei cb n0 vn1 vk1 K/\mX cb vn vk H vn1 vk1 K/\(da vn1 fun b=>b<H.next∨H4.next<=b)/\(da vk1 fun b=>b<H.next∨H4.next<=b)/\Ei.take E.length=E/\E.length<=Ei.length/\uH Ei/\Ei.length<=E.length+aS (l.take i)/\H4.next<=K.next/\a6 K ob [af cb 2 0]/\a6 K sb [.int .i64 (E.length:Int)]/\a6 K fb [.int .i64 0,.int .i64 0]/\ib E false l=ib Ei (qF l i) (l.drop i)) l.length
  ⟨0,E,vn,vk,rfl,Nat.zero_le _,by simp only[sA,sB,seval]; try rfl,by simp only[sA,sB,seval]; try rfl,by simp only[sA,sB,seval]; try rfl,by simp only[sA,sB,seval]; try rfl,by simp only[sA,sB,seval]; try rfl,by simp only[sA,sB,seval]; try rfl,by simp only[sA,sB,seval,g76]; try rfl,by simp only[sA,sB,seval]; try rfl,A4,mX.exts E4,bq0.mono fun x hx=>.inl hx,bq1.mono fun x hx=>.inl hx,by rw[List.take_length],Nat.le_refl _,hE,by simp[aS],Nat.le_refl _,ro4,r4,rf4,rfl⟩ ?_
 rintro m T K ⟨i,Ei,vn1,vk1,rfl,hi,t1,t2,t4,t5,t18,t19,t76,t77,AK,FK,bq3,bq4,htk,hEl2,hEi,hEil,nK,ro,rs,rf,hck⟩
 have nf:∀x,(x<H.next∨H4.next<=x)->x≠fb:=fun x hx=>om
 by_cases hlt:i<l.length
 case neg=>
  obtain rfl:i=l.length:=om
  have hlt':¬(l.length:Int)<(l.length:Int):=om
  have bz:aL [.int .i64 0,.int .i64 0] []=some (.agg [.int .i64 0,.int .i64 0]):=rfl
  obtain⟨K5,m5,r5,n5,k5⟩:=ak rf (n:=2) rfl (xs:=[.int .i64 0,.int .i64 0]) rfl rfl
  have ff:eB (ib E false l)=(0,0):=by rw[hck,List.drop_length]; rfl
  simp only[sA,sB,seval,t1,t2,t4,t5,t18,t19,t76,t77,hlt',bz,m5,eG,dm,gX,jf,fJ,fI]
  refine (eD K5 Ei vn1 vk1 (0,0) (AK.other fb k5 om om (bq3.mono nf) (bq4.mono nf)) (FK.otherF fb k5 om om) htk hEl2 (ro.same (k5 _ om)) (rs.same (k5 _ om)) r5 om ff).mono ?_
  rintro _ K6 ⟨l6,o6⟩
  simp only[sA,sB,seval,t4,l6,je]
  exact o6
 have hlt':(i:Int)<(l.length:Int):=om
 obtain⟨x,he⟩:∃e,l[i]?=some e:=⟨_,SB hlt⟩
 have hts:l.take (i+1)=l.take i++[x]:=by rw[List.take_add_one,he]; rfl
 have hdrop:l.drop i=x::l.drop (i+1):=by
  rw[<- (SC.1 he).2,<- List.drop_eq_getElem_cons hlt]
 have hmem:=SJ he
 have hsm:=ml hmem
 have hdm:=BK hmem
 have hlenl:=nC l
 have lowK:∀c,c<n0->c<n0/\K.get c=H.get c:=fun c hc=>⟨hc,FK.low A hc⟩
 have z1K:=z1.mono lowK
 have z2K:=z2.mono lowK
 have ix:=z1K.idx hlt
 have pt:=z1K.pt hlt
 have pblk:=z1K.blk hlt
 have wi:IntKind.i64.wrap ((i:Int)+1)=((i+1:Nat):Int):=Oo i 1 om
 have hx3:=z2K.at he
 have hokx:=NA hok hmem
 have hszt:aS (l.take i)+x.size<=aS l:=by
  have:aS (l.take (i+1))<=aS l:=by
   conv=>rhs; rw[<- List.take_append_drop (i+1) l,fx]
   omega
  rw[hts,fx]at this
  simp only[aS]at this
  omega
 have joinF:∀{vn2 vk2:aa} {K2:ae},mX cb vn1 vk1 K vn2 vk2 K2->mX cb vn vk H vn2 vk2 K2/\(da vn2 fun b=>b<H.next∨H4.next<=b)/\(da vk2 fun b=>b<H.next∨H4.next<=b):=fun F=>⟨FK.trans F,(F.bn _ bq3).mono fun x hx=>by rcases hx with (hx | hx) | hx <;> omega,(F.bk _ bq4).mono fun x hx=>by rcases hx with (hx | hx) | hx <;> omega⟩
 have keep:∀{vn2 vk2:aa} {K2:ae} {c:Nat},mX cb vn1 vk1 K vn2 vk2 K2->c<K.next->c≠cb->(H.next<=c/\c<H4.next)->K2.get c=K.get c:=fun F h1 h2 h3=>F.old _ h1 h2 (bq3.mono fun x hx=>om) (bq4.mono fun x hx=>om)
 obtain⟨k,sx,e,body,els,line⟩:=x
 obtain⟨ce,vb,Cb,ve,Ce,hcell,x1,y1,y2,y3,y4⟩:=hx3
 rw[hcell]at pt
 obtain⟨hlf,hokE,hokB,hokL⟩:=Fg hokx
 have hk5:=Le hlf
 have hsz:(St.mk k sx e body els line).size=e.size+aS body+aS els+1:=rfl
 have hdp:(St.mk k sx e body els line).deep=max e.deep (max (dR body) (dR els))+1:=rfl
 have hnx:qF l (i+1)=decide (k=5):=by simp only[qF,he]; rfl
 have nc:=pt.chk
 have fl8:=pt.fld 8
 obtain⟨c0,c1,c2,c3,rfl⟩:∃a b c d,ce=[a,b,c,d]:=by
  have:=x1.len
  match ce,this with
  | [a,b,c,d],_=>exact⟨a,b,c,d,rfl⟩
 by_cases hi0:i=0
 ·have h0:¬(0:Int)<(i:Int):=om
  have hprev:qF l i=false:=by rw[hi0]; rfl
  simp only[sA,sB,seval,t1,t2,t4,t5,t18,t19,t76,t77,hlt',ix,h0,CU ro]
  refine (qz hEi om AK (vb:=vb) (ve:=ve) (body:=body) (els:=els) (line:=line) pt (fun a e=>pblk a e) x1 hokE hk5 om om).mono ?_
  rintro u K2 ⟨vn2,vk2,ho,F2⟩
  have e2:=F2.next
  obtain⟨FH2,q1,q2⟩:=joinF F2
  have low2:∀c,c<n0->K2.get c=K.get c:=fun c hc=>F2.low AK hc
  have pt2:=pt.same (H':=K2) fun a e=>low2 _ (pblk a e)
  have ro2:a6 K2 ob [af cb 2 0]:=ro.same (keep F2 om om om)
  have rs2:a6 K2 sb [.int .i64 (E.length:Int)]:=rs.same (keep F2 om om om)
  have rf2:a6 K2 fb [.int .i64 0,.int .i64 0]:=rf.same (keep F2 om om om)
  cases hst:Cu Ei k sx e with
  | error f=>
   rw[hst]at ho
   obtain⟨rfl,A2⟩:=ho
   have hf0:f≠0:=xg hst
   have hf':¬(f:Int)=0:=om
   have ff:eB (ib E false l)=(f,line):=by rw[hck,hdrop]; simp only[ib,Gw,hprev,hst]; rfl
   obtain⟨K3,m3,r3,n3,k3⟩:=ak rf2 (n:=2) rfl (xs:=[.int .i64 0,.int .i64 0]) rfl rfl
   obtain⟨K4,m4,r4,n4,k4⟩:=cu r3 (n:=2) rfl (i:=0) om (x:=.int .i64 (f:Int)) rfl (l':=[.int .i64 (f:Int),.int .i64 0]) rfl
   obtain⟨K5,m5,r5,n5,k5⟩:=cu r4 (n:=2) rfl (i:=1) om (x:=.int .i64 line) rfl (l':=rj (f,line)) rfl
   have k25:∀c,c≠fb->K5.get c=K2.get c:=fun c hc=>by rw[k5 c hc,k4 c hc,k3 c hc]
   have pl2:au false 1 K2 (fp (cC 9 v i) 8)=some (.int .i64 line):=pt2.load (o:=8) rfl
   have pl3:au false 1 K3 (fp (cC 9 v i) 8)=some (.int .i64 line):=(pt2.same (H':=K3) fun a e=>k3 _ (by have:=pblk a e; omega)).load (o:=8) rfl
   have pl4:au false 1 K4 (fp (cC 9 v i) 8)=some (.int .i64 line):=(pt2.same (H':=K4) fun a e=>by rw[k4 _ (by have:=pblk a e; omega),k3 _ (by have:=pblk a e; omega)]).load (o:=8) rfl
   simp only[sA,sB,seval,t1,t2,t4,t5,t18,t19,t76,t77,hf']
   refine cI rfl ?_
   simp only[sR,sA,sB,seval,t1,t2,t4,t5,t18,t19,t76,t77,nc,fl8,aF,fld0,aZ,pl2,m3,m4,m5]
   simp only[bG,bH,bg,bI,co,and_true,true_and,List.map_cons,List.map_nil,sA,sB,seval,t1,t2,t4,t5,t18,t19,t76,t77,nc,fl8,aF,fld0,aZ]
   refine⟨⟨⟨_,rfl,fun _=>⟨_,pl3,dE _ _⟩⟩,⟨_,rfl,fun _=>⟨_,pl4,dE _ _⟩⟩⟩,?_⟩
   simp only[sA,sB,seval,t2,t4,t5,t76,t77,eG,dm,gX,jf,fJ,fI]
   refine (eD K5 Ei vn2 vk2 (f,line) (A2.other fb k25 om om (q1.mono nf) (q2.mono nf)) (FH2.otherF fb k25 om om) htk hEl2 (ro2.same (k25 _ om)) (rs2.same (k25 _ om)) r5 om ff).mono ?_
   rintro _ K6 ⟨l6,o6⟩
   simp only[sA,sB,seval,t4,l6,je]
   exact o6
  | ok E2=>
  rw[hst]at ho
  obtain⟨rfl,A2⟩:=ho
  have hE2:=Cs hEi hst
  have hlen2:=Ct hst
  have z0:(0:Int)=0:=rfl
  have lb2:au false 1 K2 (fp (cC 9 v i) 6)=some vb:=pt2.load (o:=6) rfl
  simp only[sA,sB,seval,t1,t2,t4,t5,t18,t19,t76,t77]
  obtain⟨Kr,hKr⟩:∃J,J=K2.push (.cells [.int .i64 0,.int .i64 0] 0 false):=⟨_,rfl⟩
  have nr:Kr.next=K2.next+1:=by rw[hKr]; rfl
  have gr:Kr.get K2.next=some (.cells [.int .i64 0,.int .i64 0] 0 false):=by rw[hKr,ae.get_push,if_pos rfl]
  have Er:cZ K2.next K2 Kr:=⟨om,fun c hc=>by rw[hKr,aI hc]⟩
  have Ar:=A2.exts Er
  have lor:au false 1 Kr (af ob 1 0)=some (af cb 2 0):=am (ro2.same (Er.old _ om)) rfl rfl
  have lbr:au false 1 Kr (fp (cC 9 v i) 6)=some vb:=(pt2.same (H':=Kr) fun a e=>Er.old _ (by have:=pblk a e; omega)).load (o:=6) rfl
  have lowr:∀c,c<n0->c<n0/\Kr.get c=K.get c:=fun c hc=>⟨hc,by rw[Er.old c om,low2 c hc]⟩
  have fl6:=pt.fld 6
  refine fq ?_
  simp only[aB,cG,aQ,jY,iO,<- hKr]
  simp only[sR,sA,sB,seval,t1,t2,t4,t5,t18,t19,t76,t77,lor,nc,fl6,lbr]
  refine (ih (aS body) om rL Ar (y1.mono lowr) (y2.mono lowr) hokB om hE2 om).mono ?_
  rintro _ K3 ⟨rfl,vn3,vk3,A3,F3⟩
  have e3:=F3.next
  have F23:mX cb vn2 vk2 K2 vn3 vk3 K3:=(mX.exts Er).trans F3
  obtain⟨FH3,q3,q4⟩:=joinF (F2.trans F23)
  have gr3:a6 K3 K2.next [.int .i64 0,.int .i64 0]:=⟨0,(F3.old _ om om (A2.ln.blk.mono fun x hx=>om) (A2.lk.blk.mono fun x hx=>om)).trans gr,Nat.zero_le _⟩
  have clr:dy Kr K2.next _ none=some (af K2.next 2 0):=eO gr rfl
  have clg:∀{J:ae},J.get K2.next=some (.cells [.int .i64 0,.int .i64 0] 0 false)->dy J K2.next [.int .i64 0,.int .i64 0] none=some (af K2.next 2 0):=fun h=>eO h rfl
  have cl3:=clg ((F3.old _ om om (A2.ln.blk.mono fun x hx=>om) (A2.lk.blk.mono fun x hx=>om)).trans gr)
  obtain⟨K4,m4,r4,n4,k4⟩:=ak gr3 (n:=2) rfl (xs:=rj (eB (ib E2 false body))) rfl rfl
  have A4:ru E2 cb n0 vn3 vk3 K4:=A3.other K2.next k4 om om (by
   exact (F3.bn (·≠K2.next) (A2.ln.blk.mono fun x hx=>om)).mono fun x hx=>om) (by
   exact (F3.bk (·≠K2.next) (A2.lk.blk.mono fun x hx=>om)).mono fun x hx=>om)
  have F24:mX cb vn2 vk2 K2 vn3 vk3 K4:=⟨om,fun c h1 h2 h3 h4=>by rw[k4 c om,F23.old c h1 h2 h3 h4],F23.bn,F23.bk⟩
  have F4:=F2.trans F24
  obtain⟨FH4,q5,q6⟩:=joinF F4
  have ro4:a6 K4 ob [af cb 2 0]:=ro.same (keep F4 om om om)
  have rs4:a6 K4 sb [.int .i64 (E.length:Int)]:=rs.same (keep F4 om om om)
  have rf4:a6 K4 fb [.int .i64 0,.int .i64 0]:=rf.same (keep F4 om om om)
  have lf0:au false 1 K4 (af K2.next 2 0)=some (.int .i64 ((eB (ib E2 false body)).1:Int)):=am r4 rfl rfl
  have lfa:au true 2 K4 (af K2.next 2 0)=some (.agg (rj (eB (ib E2 false body)))):=aA r4 rfl
  simp only[sR,sA,sB,seval,t1,t2,t4,t5,t18,t19,t76,t77,fh,cl3,m4]
  simp only[bG,bH,bg,eh,bI,co,and_true,true_and,List.map_cons,List.map_nil,sA,sB,seval,t1,t2,t4,t5,t18,t19,t76,t77]
  refine⟨⟨_,rfl,fun _=>⟨_,clr,eo _ _ _⟩⟩,?_⟩
  simp only[sA,sB,seval,fld0,lf0]
  cases hb:ib E2 false body with
  | error f=>
   have hf0:f.1≠0:=jo hb
   have hf':¬(f.1:Int)=0:=om
   have ff:eB (ib E false l)=f:=by rw[hck,hdrop]; simp only[ib,Gw,hprev,hst,hb]; rfl
   rw[hb]at lfa
   obtain⟨K5,m5,r5,n5,k5⟩:=ak rf4 (n:=2) rfl (xs:=rj f) rfl rfl
   simp only[sA,sB,seval,eB,hf',t1,t2,t4,t5,t18,t19,t76,t77,lfa,m5,eG,dm,gX,jf,fJ,fI]
   refine (eD K5 E2 vn3 vk3 f (A4.other fb k5 om om (q5.mono nf) (q6.mono nf)) (FH4.otherF fb k5 om om) (by rw[jE hst hEl2]; exact htk) om (ro4.same (k5 _ om)) (rs4.same (k5 _ om)) r5 om ff).mono ?_
   rintro _ K6 ⟨l6,o6⟩
   simp only[sA,sB,seval,t4,l6,je]
   exact o6
  | ok Eb=>
  simp only[sA,sB,seval,eB,Int.cast_ofNat_Int,t1,t2,t4,t5,t18,t19,t76,t77]
  have low4:∀c,c<n0->K4.get c=K.get c:=fun c hc=>F4.low AK hc
  have pt4:=pt.same (H':=K4) fun a e=>low4 _ (pblk a e)
  obtain⟨Ks,hKs⟩:∃J,J=K4.push (.cells [.int .i64 0,.int .i64 0] 0 false):=⟨_,rfl⟩
  have ns:Ks.next=K4.next+1:=by rw[hKs]; rfl
  have gs:Ks.get K4.next=some (.cells [.int .i64 0,.int .i64 0] 0 false):=by rw[hKs,ae.get_push,if_pos rfl]
  have Es:cZ K4.next K4 Ks:=⟨om,fun c hc=>by rw[hKs,aI hc]⟩
  have As:=A4.exts Es
  have los:au false 1 Ks (af ob 1 0)=some (af cb 2 0):=am (ro4.same (Es.old _ om)) rfl rfl
  have les:au false 1 Ks (fp (cC 9 v i) 7)=some ve:=(pt4.same (H':=Ks) fun a e=>Es.old _ (by have:=pblk a e; omega)).load (o:=7) rfl
  have lows:∀c,c<n0->c<n0/\Ks.get c=K.get c:=fun c hc=>⟨hc,by rw[Es.old c om,low4 c hc]⟩
  have fl7:=pt.fld 7
  refine fq ?_
  simp only[aB,cG,aQ,jY,iO,<- hKs]
  simp only[sR,sA,sB,seval,t1,t2,t4,t5,t18,t19,t76,t77,los,nc,fl7,les]
  refine (ih (aS els) om rL As (y3.mono lows) (y4.mono lows) hokL om hE2 om).mono ?_
  rintro _ K5 ⟨rfl,vn5,vk5,A5,F5⟩
  have e5:=F5.next
  have gs5:=(F5.old _ om om (A4.ln.blk.mono fun x hx=>om) (A4.lk.blk.mono fun x hx=>om)).trans gs
  have cls:∀{J:ae},J.get K4.next=some (.cells [.int .i64 0,.int .i64 0] 0 false)->dy J K4.next [.int .i64 0,.int .i64 0] none=some (af K4.next 2 0):=fun h=>eO h rfl
  have cl5:=cls gs5
  obtain⟨K6,m6,r6,n6,k6⟩:=ak (H:=K5) (b:=K4.next) ⟨0,gs5,Nat.zero_le _⟩ (n:=2) rfl (xs:=rj (eB (ib E2 false els))) rfl rfl
  have A6:ru E2 cb n0 vn5 vk5 K6:=A5.other K4.next k6 om om (by
   exact (F5.bn (·≠K4.next) (A4.ln.blk.mono fun x hx=>om)).mono fun x hx=>om) (by
   exact (F5.bk (·≠K4.next) (A4.lk.blk.mono fun x hx=>om)).mono fun x hx=>om)
  have F46:mX cb vn3 vk3 K4 vn5 vk5 K6:=by
   have F45:=(mX.exts (cb:=cb) (vn:=vn3) (vk:=vk3) Es).trans F5
   exact⟨om,fun c h1 h2 h3 h4=>by rw[k6 c om,F45.old c h1 h2 h3 h4],F45.bn,F45.bk⟩
  have F6:=F4.trans F46
  obtain⟨FH6,q7,q8⟩:=joinF F6
  have ro6:a6 K6 ob [af cb 2 0]:=ro.same (keep F6 om om om)
  have rs6:a6 K6 sb [.int .i64 (E.length:Int)]:=rs.same (keep F6 om om om)
  have rf6:a6 K6 fb [.int .i64 0,.int .i64 0]:=rf.same (keep F6 om om om)
  have lg0:au false 1 K6 (af K4.next 2 0)=some (.int .i64 ((eB (ib E2 false els)).1:Int)):=am r6 rfl rfl
  have lga:au true 2 K6 (af K4.next 2 0)=some (.agg (rj (eB (ib E2 false els)))):=aA r6 rfl
  simp only[sR,sA,sB,seval,t1,t2,t4,t5,t18,t19,t76,t77,fh,cl5,m6]
  simp only[bG,bH,bg,eh,bI,co,and_true,true_and,List.map_cons,List.map_nil,sA,sB,seval,t1,t2,t4,t5,t18,t19,t76,t77]
  refine⟨⟨_,rfl,fun _=>⟨_,cls gs,eo _ _ _⟩⟩,?_⟩
  simp only[sA,sB,seval,fld0,lg0]
  cases hc:ib E2 false els with
  | error f=>
   have hf0:f.1≠0:=jo hc
   have hf':¬(f.1:Int)=0:=om
   have ff:eB (ib E false l)=f:=by rw[hck,hdrop]; simp only[ib,Gw,hprev,hst,hb,hc]; rfl
   rw[hc]at lga
   obtain⟨K7,m7,r7,n7,k7⟩:=ak rf6 (n:=2) rfl (xs:=rj f) rfl rfl
   simp only[sA,sB,seval,eB,hf',t1,t2,t4,t5,t18,t19,t76,t77,lga,m7,eG,dm,gX,jf,fJ,fI]
   refine (eD K7 E2 vn5 vk5 f (A6.other fb k7 om om (q7.mono nf) (q8.mono nf)) (FH6.otherF fb k7 om om) (by rw[jE hst hEl2]; exact htk) om (ro6.same (k7 _ om)) (rs6.same (k7 _ om)) r7 om ff).mono ?_
   rintro _ K8 ⟨l8,o8⟩
   simp only[sA,sB,seval,t4,l8,je]
   exact o8
  | ok Ec=>
  simp only[sA,sB,seval,eB,Int.cast_ofNat_Int,t1,t2,t4,t5,t18,t19,t76,t77,wi]
  refine⟨l.length-(i+1),om,i+1,E2,vn5,vk5,rfl,om,tt,tt,tt,tt,tt,tt,tt,tt,A6,FH6,q7,q8,by rw[jE hst hEl2]; exact htk,om,hE2,?_,om,ro6,rs6,rf6,?_⟩
  ·rw[hts,fx]; simp only[aS]; omega
  ·rw[hck,hdrop,hnx]
   simp only[ib,Gw,hprev,hst,hb,hc]
   rfl
 obtain⟨j,hj⟩:∃j,i=j+1:=⟨i-1,om⟩
 have h0:(0:Int)<(i:Int):=om
 have wj:IntKind.i64.wrap ((i:Int)-1)=(j:Int):=kJ
 have hjl:j<l.length:=om
 obtain⟨y,hy⟩:∃e,l[j]?=some e:=⟨_,SB hjl⟩
 have ixj:=z1K.idx hjl
 have ptj:=z1K.pt hjl
 have hyx:=z2K.at hy
 obtain⟨k',s',e',body',els',line'⟩:=y
 obtain⟨ce',vb',Cb',ve',Ce',hcell',_⟩:=hyx
 rw[hcell']at ptj
 have fj0:=ptj.fld0
 have ldj:au false 1 K (cC 9 v j)=some (.int .u8 (k':Int)):=ptj.load0 rfl
 have hpv:qF l i=decide (k'=5):=by rw[hj]; simp only[qF,hy]; rfl
 by_cases hk':k'=5
 ·subst hk'
  have hprev:qF l i=true:=by rw[hpv]; rfl
  simp only[Int.cast_ofNat_Int]at ldj
  have ff:eB (ib E false l)=(113,line):=by rw[hck,hdrop]; simp only[ib,hprev]; rfl
  obtain⟨K3,m3,r3,n3,k3⟩:=ak rf (n:=2) rfl (xs:=[.int .i64 0,.int .i64 0]) rfl rfl
  obtain⟨K4,m4,r4,n4,k4⟩:=cu r3 (n:=2) rfl (i:=0) om (x:=.int .i64 113) rfl (l':=[.int .i64 113,.int .i64 0]) rfl
  obtain⟨K5,m5,r5,n5,k5⟩:=cu r4 (n:=2) rfl (i:=1) om (x:=.int .i64 line) rfl (l':=rj (113,line)) rfl
  have k25:∀c,c≠fb->K5.get c=K.get c:=fun c hc=>by rw[k5 c hc,k4 c hc,k3 c hc]
  have pl2:au false 1 K (fp (cC 9 v i) 8)=some (.int .i64 line):=pt.load (o:=8) rfl
  have pl3:au false 1 K3 (fp (cC 9 v i) 8)=some (.int .i64 line):=(pt.same (H':=K3) fun a e=>k3 _ (by have:=pblk a e; omega)).load (o:=8) rfl
  have pl4:au false 1 K4 (fp (cC 9 v i) 8)=some (.int .i64 line):=(pt.same (H':=K4) fun a e=>by rw[k4 _ (by have:=pblk a e; omega),k3 _ (by have:=pblk a e; omega)]).load (o:=8) rfl
  simp only[sA,sB,seval,t1,t2,t4,t5,t18,t19,t76,t77,hlt',ix,h0,wj,ixj,fj0,ldj]
  refine cI rfl ?_
  simp only[sR,sA,sB,seval,t1,t2,t4,t5,t18,t19,t76,t77,nc,fl8,aF,fld0,aZ,pl2,m3,m4,m5]
  simp only[bG,bH,bg,bI,co,and_true,true_and,List.map_cons,List.map_nil,sA,sB,seval,t1,t2,t4,t5,t18,t19,t76,t77,nc,fl8,aF,fld0,aZ]
  refine⟨⟨⟨_,rfl,fun _=>⟨_,pl3,dE _ _⟩⟩,⟨_,rfl,fun _=>⟨_,pl4,dE _ _⟩⟩⟩,?_⟩
  simp only[sA,sB,seval,t2,t4,t5,t76,t77,eG,dm,gX,jf,fJ,fI]
  refine (eD K5 Ei vn1 vk1 (113,line) (AK.other fb k25 om om (bq3.mono nf) (bq4.mono nf)) (FK.otherF fb k25 om om) htk hEl2 (ro.same (k25 _ om)) (rs.same (k25 _ om)) r5 om ff).mono ?_
  rintro _ K6 ⟨l6,o6⟩
  simp only[sA,sB,seval,t4,l6,je]
  exact o6
 ·have hprev:qF l i=false:=by rw[hpv]; exact decide_eq_false hk'
  have hk5':¬(k':Int)=5:=om
  simp only[sA,sB,seval,t1,t2,t4,t5,t18,t19,t76,t77,hlt',ix,h0,wj,ixj,fj0,ldj,hk5',CU ro]
  refine (qz hEi om AK (vb:=vb) (ve:=ve) (body:=body) (els:=els) (line:=line) pt (fun a e=>pblk a e) x1 hokE hk5 om om).mono ?_
  rintro u K2 ⟨vn2,vk2,ho,F2⟩
  have e2:=F2.next
  obtain⟨FH2,q1,q2⟩:=joinF F2
  have low2:∀c,c<n0->K2.get c=K.get c:=fun c hc=>F2.low AK hc
  have pt2:=pt.same (H':=K2) fun a e=>low2 _ (pblk a e)
  have ro2:a6 K2 ob [af cb 2 0]:=ro.same (keep F2 om om om)
  have rs2:a6 K2 sb [.int .i64 (E.length:Int)]:=rs.same (keep F2 om om om)
  have rf2:a6 K2 fb [.int .i64 0,.int .i64 0]:=rf.same (keep F2 om om om)
  cases hst:Cu Ei k sx e with
  | error f=>
   rw[hst]at ho
   obtain⟨rfl,A2⟩:=ho
   have hf0:f≠0:=xg hst
   have hf':¬(f:Int)=0:=om
   have ff:eB (ib E false l)=(f,line):=by rw[hck,hdrop]; simp only[ib,Gw,hprev,hst]; rfl
   obtain⟨K3,m3,r3,n3,k3⟩:=ak rf2 (n:=2) rfl (xs:=[.int .i64 0,.int .i64 0]) rfl rfl
   obtain⟨K4,m4,r4,n4,k4⟩:=cu r3 (n:=2) rfl (i:=0) om (x:=.int .i64 (f:Int)) rfl (l':=[.int .i64 (f:Int),.int .i64 0]) rfl
   obtain⟨K5,m5,r5,n5,k5⟩:=cu r4 (n:=2) rfl (i:=1) om (x:=.int .i64 line) rfl (l':=rj (f,line)) rfl
   have k25:∀c,c≠fb->K5.get c=K2.get c:=fun c hc=>by rw[k5 c hc,k4 c hc,k3 c hc]
   have pl2:au false 1 K2 (fp (cC 9 v i) 8)=some (.int .i64 line):=pt2.load (o:=8) rfl
   have pl3:au false 1 K3 (fp (cC 9 v i) 8)=some (.int .i64 line):=(pt2.same (H':=K3) fun a e=>k3 _ (by have:=pblk a e; omega)).load (o:=8) rfl
   have pl4:au false 1 K4 (fp (cC 9 v i) 8)=some (.int .i64 line):=(pt2.same (H':=K4) fun a e=>by rw[k4 _ (by have:=pblk a e; omega),k3 _ (by have:=pblk a e; omega)]).load (o:=8) rfl
   simp only[sA,sB,seval,t1,t2,t4,t5,t18,t19,t76,t77,hf']
   refine cI rfl ?_
   simp only[sR,sA,sB,seval,t1,t2,t4,t5,t18,t19,t76,t77,nc,fl8,aF,fld0,aZ,pl2,m3,m4,m5]
   simp only[bG,bH,bg,bI,co,and_true,true_and,List.map_cons,List.map_nil,sA,sB,seval,t1,t2,t4,t5,t18,t19,t76,t77,nc,fl8,aF,fld0,aZ]
   refine⟨⟨⟨_,rfl,fun _=>⟨_,pl3,dE _ _⟩⟩,⟨_,rfl,fun _=>⟨_,pl4,dE _ _⟩⟩⟩,?_⟩
   simp only[sA,sB,seval,t2,t4,t5,t76,t77,eG,dm,gX,jf,fJ,fI]
   refine (eD K5 Ei vn2 vk2 (f,line) (A2.other fb k25 om om (q1.mono nf) (q2.mono nf)) (FH2.otherF fb k25 om om) htk hEl2 (ro2.same (k25 _ om)) (rs2.same (k25 _ om)) r5 om ff).mono ?_
   rintro _ K6 ⟨l6,o6⟩
   simp only[sA,sB,seval,t4,l6,je]
   exact o6
  | ok E2=>
  rw[hst]at ho
  obtain⟨rfl,A2⟩:=ho
  have hE2:=Cs hEi hst
  have hlen2:=Ct hst
  have z0:(0:Int)=0:=rfl
  have lb2:au false 1 K2 (fp (cC 9 v i) 6)=some vb:=pt2.load (o:=6) rfl
  simp only[sA,sB,seval,t1,t2,t4,t5,t18,t19,t76,t77]
  obtain⟨Kr,hKr⟩:∃J,J=K2.push (.cells [.int .i64 0,.int .i64 0] 0 false):=⟨_,rfl⟩
  have nr:Kr.next=K2.next+1:=by rw[hKr]; rfl
  have gr:Kr.get K2.next=some (.cells [.int .i64 0,.int .i64 0] 0 false):=by rw[hKr,ae.get_push,if_pos rfl]
  have Er:cZ K2.next K2 Kr:=⟨om,fun c hc=>by rw[hKr,aI hc]⟩
  have Ar:=A2.exts Er
  have lor:au false 1 Kr (af ob 1 0)=some (af cb 2 0):=am (ro2.same (Er.old _ om)) rfl rfl
  have lbr:au false 1 Kr (fp (cC 9 v i) 6)=some vb:=(pt2.same (H':=Kr) fun a e=>Er.old _ (by have:=pblk a e; omega)).load (o:=6) rfl
  have lowr:∀c,c<n0->c<n0/\Kr.get c=K.get c:=fun c hc=>⟨hc,by rw[Er.old c om,low2 c hc]⟩
  have fl6:=pt.fld 6
  refine fq ?_
  simp only[aB,cG,aQ,jY,iO,<- hKr]
  simp only[sR,sA,sB,seval,t1,t2,t4,t5,t18,t19,t76,t77,lor,nc,fl6,lbr]
  refine (ih (aS body) om rL Ar (y1.mono lowr) (y2.mono lowr) hokB om hE2 om).mono ?_
  rintro _ K3 ⟨rfl,vn3,vk3,A3,F3⟩
  have e3:=F3.next
  have F23:mX cb vn2 vk2 K2 vn3 vk3 K3:=(mX.exts Er).trans F3
  obtain⟨FH3,q3,q4⟩:=joinF (F2.trans F23)
  have gr3:a6 K3 K2.next [.int .i64 0,.int .i64 0]:=⟨0,(F3.old _ om om (A2.ln.blk.mono fun x hx=>om) (A2.lk.blk.mono fun x hx=>om)).trans gr,Nat.zero_le _⟩
  have clr:dy Kr K2.next _ none=some (af K2.next 2 0):=eO gr rfl
  have clg:∀{J:ae},J.get K2.next=some (.cells [.int .i64 0,.int .i64 0] 0 false)->dy J K2.next [.int .i64 0,.int .i64 0] none=some (af K2.next 2 0):=fun h=>eO h rfl
  have cl3:=clg ((F3.old _ om om (A2.ln.blk.mono fun x hx=>om) (A2.lk.blk.mono fun x hx=>om)).trans gr)
  obtain⟨K4,m4,r4,n4,k4⟩:=ak gr3 (n:=2) rfl (xs:=rj (eB (ib E2 false body))) rfl rfl
  have A4:ru E2 cb n0 vn3 vk3 K4:=A3.other K2.next k4 om om (by
   exact (F3.bn (·≠K2.next) (A2.ln.blk.mono fun x hx=>om)).mono fun x hx=>om) (by
   exact (F3.bk (·≠K2.next) (A2.lk.blk.mono fun x hx=>om)).mono fun x hx=>om)
  have F24:mX cb vn2 vk2 K2 vn3 vk3 K4:=⟨om,fun c h1 h2 h3 h4=>by rw[k4 c om,F23.old c h1 h2 h3 h4],F23.bn,F23.bk⟩
  have F4:=F2.trans F24
  obtain⟨FH4,q5,q6⟩:=joinF F4
  have ro4:a6 K4 ob [af cb 2 0]:=ro.same (keep F4 om om om)
  have rs4:a6 K4 sb [.int .i64 (E.length:Int)]:=rs.same (keep F4 om om om)
  have rf4:a6 K4 fb [.int .i64 0,.int .i64 0]:=rf.same (keep F4 om om om)
  have lf0:au false 1 K4 (af K2.next 2 0)=some (.int .i64 ((eB (ib E2 false body)).1:Int)):=am r4 rfl rfl
  have lfa:au true 2 K4 (af K2.next 2 0)=some (.agg (rj (eB (ib E2 false body)))):=aA r4 rfl
  simp only[sR,sA,sB,seval,t1,t2,t4,t5,t18,t19,t76,t77,fh,cl3,m4]
  simp only[bG,bH,bg,eh,bI,co,and_true,true_and,List.map_cons,List.map_nil,sA,sB,seval,t1,t2,t4,t5,t18,t19,t76,t77]
  refine⟨⟨_,rfl,fun _=>⟨_,clr,eo _ _ _⟩⟩,?_⟩
  simp only[sA,sB,seval,fld0,lf0]
  cases hb:ib E2 false body with
  | error f=>
   have hf0:f.1≠0:=jo hb
   have hf':¬(f.1:Int)=0:=om
   have ff:eB (ib E false l)=f:=by rw[hck,hdrop]; simp only[ib,Gw,hprev,hst,hb]; rfl
   rw[hb]at lfa
   obtain⟨K5,m5,r5,n5,k5⟩:=ak rf4 (n:=2) rfl (xs:=rj f) rfl rfl
   simp only[sA,sB,seval,eB,hf',t1,t2,t4,t5,t18,t19,t76,t77,lfa,m5,eG,dm,gX,jf,fJ,fI]
   refine (eD K5 E2 vn3 vk3 f (A4.other fb k5 om om (q5.mono nf) (q6.mono nf)) (FH4.otherF fb k5 om om) (by rw[jE hst hEl2]; exact htk) om (ro4.same (k5 _ om)) (rs4.same (k5 _ om)) r5 om ff).mono ?_
   rintro _ K6 ⟨l6,o6⟩
   simp only[sA,sB,seval,t4,l6,je]
   exact o6
  | ok Eb=>
  simp only[sA,sB,seval,eB,Int.cast_ofNat_Int,t1,t2,t4,t5,t18,t19,t76,t77]
  have low4:∀c,c<n0->K4.get c=K.get c:=fun c hc=>F4.low AK hc
  have pt4:=pt.same (H':=K4) fun a e=>low4 _ (pblk a e)
  obtain⟨Ks,hKs⟩:∃J,J=K4.push (.cells [.int .i64 0,.int .i64 0] 0 false):=⟨_,rfl⟩
  have ns:Ks.next=K4.next+1:=by rw[hKs]; rfl
  have gs:Ks.get K4.next=some (.cells [.int .i64 0,.int .i64 0] 0 false):=by rw[hKs,ae.get_push,if_pos rfl]
  have Es:cZ K4.next K4 Ks:=⟨om,fun c hc=>by rw[hKs,aI hc]⟩
  have As:=A4.exts Es
  have los:au false 1 Ks (af ob 1 0)=some (af cb 2 0):=am (ro4.same (Es.old _ om)) rfl rfl
  have les:au false 1 Ks (fp (cC 9 v i) 7)=some ve:=(pt4.same (H':=Ks) fun a e=>Es.old _ (by have:=pblk a e; omega)).load (o:=7) rfl
  have lows:∀c,c<n0->c<n0/\Ks.get c=K.get c:=fun c hc=>⟨hc,by rw[Es.old c om,low4 c hc]⟩
  have fl7:=pt.fld 7
  refine fq ?_
  simp only[aB,cG,aQ,jY,iO,<- hKs]
  simp only[sR,sA,sB,seval,t1,t2,t4,t5,t18,t19,t76,t77,los,nc,fl7,les]
  refine (ih (aS els) om rL As (y3.mono lows) (y4.mono lows) hokL om hE2 om).mono ?_
  rintro _ K5 ⟨rfl,vn5,vk5,A5,F5⟩
  have e5:=F5.next
  have gs5:=(F5.old _ om om (A4.ln.blk.mono fun x hx=>om) (A4.lk.blk.mono fun x hx=>om)).trans gs
  have cls:∀{J:ae},J.get K4.next=some (.cells [.int .i64 0,.int .i64 0] 0 false)->dy J K4.next [.int .i64 0,.int .i64 0] none=some (af K4.next 2 0):=fun h=>eO h rfl
  have cl5:=cls gs5
  obtain⟨K6,m6,r6,n6,k6⟩:=ak (H:=K5) (b:=K4.next) ⟨0,gs5,Nat.zero_le _⟩ (n:=2) rfl (xs:=rj (eB (ib E2 false els))) rfl rfl
  have A6:ru E2 cb n0 vn5 vk5 K6:=A5.other K4.next k6 om om (by
   exact (F5.bn (·≠K4.next) (A4.ln.blk.mono fun x hx=>om)).mono fun x hx=>om) (by
   exact (F5.bk (·≠K4.next) (A4.lk.blk.mono fun x hx=>om)).mono fun x hx=>om)
  have F46:mX cb vn3 vk3 K4 vn5 vk5 K6:=by
   have F45:=(mX.exts (cb:=cb) (vn:=vn3) (vk:=vk3) Es).trans F5
   exact⟨om,fun c h1 h2 h3 h4=>by rw[k6 c om,F45.old c h1 h2 h3 h4],F45.bn,F45.bk⟩
  have F6:=F4.trans F46
  obtain⟨FH6,q7,q8⟩:=joinF F6
  have ro6:a6 K6 ob [af cb 2 0]:=ro.same (keep F6 om om om)
  have rs6:a6 K6 sb [.int .i64 (E.length:Int)]:=rs.same (keep F6 om om om)
  have rf6:a6 K6 fb [.int .i64 0,.int .i64 0]:=rf.same (keep F6 om om om)
  have lg0:au false 1 K6 (af K4.next 2 0)=some (.int .i64 ((eB (ib E2 false els)).1:Int)):=am r6 rfl rfl
  have lga:au true 2 K6 (af K4.next 2 0)=some (.agg (rj (eB (ib E2 false els)))):=aA r6 rfl
  simp only[sR,sA,sB,seval,t1,t2,t4,t5,t18,t19,t76,t77,fh,cl5,m6]
  simp only[bG,bH,bg,eh,bI,co,and_true,true_and,List.map_cons,List.map_nil,sA,sB,seval,t1,t2,t4,t5,t18,t19,t76,t77]
  refine⟨⟨_,rfl,fun _=>⟨_,cls gs,eo _ _ _⟩⟩,?_⟩
  simp only[sA,sB,seval,fld0,lg0]
  cases hc:ib E2 false els with
  | error f=>
   have hf0:f.1≠0:=jo hc
   have hf':¬(f.1:Int)=0:=om
   have ff:eB (ib E false l)=f:=by rw[hck,hdrop]; simp only[ib,Gw,hprev,hst,hb,hc]; rfl
   rw[hc]at lga
   obtain⟨K7,m7,r7,n7,k7⟩:=ak rf6 (n:=2) rfl (xs:=rj f) rfl rfl
   simp only[sA,sB,seval,eB,hf',t1,t2,t4,t5,t18,t19,t76,t77,lga,m7,eG,dm,gX,jf,fJ,fI]
   refine (eD K7 E2 vn5 vk5 f (A6.other fb k7 om om (q7.mono nf) (q8.mono nf)) (FH6.otherF fb k7 om om) (by rw[jE hst hEl2]; exact htk) om (ro6.same (k7 _ om)) (rs6.same (k7 _ om)) r7 om ff).mono ?_
   rintro _ K8 ⟨l8,o8⟩
   simp only[sA,sB,seval,t4,l8,je]
   exact o8
  | ok Ec=>
  simp only[sA,sB,seval,eB,Int.cast_ofNat_Int,t1,t2,t4,t5,t18,t19,t76,t77,wi]
  refine⟨l.length-(i+1),om,i+1,E2,vn5,vk5,rfl,om,tt,tt,tt,tt,tt,tt,tt,tt,A6,FH6,q7,q8,by rw[jE hst hEl2]; exact htk,om,hE2,?_,om,ro6,rs6,rf6,?_⟩
  ·rw[hts,fx]; simp only[aS]; omega
  ·rw[hck,hdrop,hnx]
   simp only[ib,Gw,hprev,hst,hb,hc]
   rfl
open Go.Abs Go.Abs.S
theorem NH(N:Nat):N<=1000->Sx N:=by
 induction N using Nat.strongRecOn with
 | _ N ih=>exact fun h=>Lf h fun M hM=>ih M hM om
theorem vC(x:St):∀l:List St,qV (l++[x])=Kx x
 | []=>rfl
 | [_]=>rfl
 | _::y::l=>by
  have:=vC x (y::l)
  simp only[SX]at this ⊢
  simp only[qV]
  exact this
theorem Lh{l:List St}(h:l≠[]):∃x j,l.length=j+1/\l[j]?=some x/\qV l=Kx x:=by
 obtain⟨l',x,rfl⟩:∃l' x,l=l'++[x]:=⟨l.dropLast,l.getLast h,(List.dropLast_concat_getLast h).symm⟩
 exact⟨x,l'.length,by simp,by simp,vC x l'⟩
theorem uK:∀(N:Nat) {l:List St} {C:List aa} {v:aa} {P:Nat->Prop} {H:ae},aS l<=N->N<=1000000->jt P H 9 v l.length C->uu P H l C->az Tryz.prog aH 43 [v] H fun u H'=>u=.bool (qV l)/\H=H':=by
 intro N
 induction N with
 | zero=>
  intro l C v P H hsz hN z1 z2
  have hl0:l=[]:=by
   cases l with
   | nil=>rfl
   | cons x l=>have:=vy x; simp only[aS]at hsz; omega
  subst hl0
  have ln:=z1.len
  have h0:(([]:List St).length:Int)=0:=rfl
  refine aj rfl Nj rfl ?_
  simp only[OP,sA,sB,seval,ln,h0]
  exact⟨tt,tt⟩
 | succ N ih=>
  intro l C v P H hsz hN z1 z2
  have ln:=z1.len
  by_cases hl0:l=[]
  ·subst hl0
   have h0:(([]:List St).length:Int)=0:=rfl
   refine aj rfl Nj rfl ?_
   simp only[OP,sA,sB,seval,ln,h0]
   exact⟨tt,tt⟩
  obtain⟨x,j,hj,he,hr⟩:=Lh hl0
  have hjl:j<l.length:=om
  have hlen:=nC l
  have hn0:¬(l.length:Int)=0:=om
  have wj:IntKind.i64.wrap ((l.length:Int)-1)=(j:Int):=kJ
  have ix:=z1.idx hjl
  have pt:=z1.pt hjl
  have hsm:=ml (SJ he)
  have hx:=z2.at he
  obtain⟨k,s,e,body,els,line⟩:=x
  obtain⟨ce,vb,Cb,ve,Ce,hcell,x1,y1,y2,y3,y4⟩:=hx
  obtain⟨c0,c1,c2,c3,rfl⟩:∃a b c d,ce=[a,b,c,d]:=by
   have:=x1.len
   match ce,this with
   | [a,b,c,d],_=>exact⟨a,b,c,d,rfl⟩
  rw[hcell]at pt
  have hsz2:(St.mk k s e body els line).size=e.size+aS body+aS els+1:=rfl
  have hrs:Kx (.mk k s e body els line)=(decide (k=5)||(decide (k=3)&&(qV body&&qV els))):=rfl
  have nc:=pt.chk
  have f0:=pt.fld0
  have f6:=pt.fld 6
  have f7:=pt.fld 7
  have l0:au false 1 H (cC 9 v j)=some (.int .u8 (k:Int)):=pt.load0 rfl
  have l6:au false 1 H (fp (cC 9 v j) 6)=some vb:=pt.load (o:=6) rfl
  have l7:au false 1 H (fp (cC 9 v j) 7)=some ve:=pt.load (o:=7) rfl
  rw[hr,hrs]
  refine aj rfl Nj rfl ?_
  by_cases h5:k=5
  ·subst h5
   simp only[OP,sA,sB,seval,ln,hn0,wj,ix,nc,f0,l0,Int.cast_ofNat_Int]
   exact⟨tt,tt⟩
  have h5':¬(k:Int)=5:=om
  by_cases h3:k=3
  ·subst h3
   simp only[OP,sA,sB,seval,ln,hn0,wj,ix,nc,f0,l0,Int.cast_ofNat_Int,f6,l6]
   refine (ih om om y1 y2).mono ?_
   rintro _ _ ⟨rfl,rfl⟩
   cases hb:qV body with
   | false=>
    simp only[sA,sB,seval]
    exact⟨tt,tt⟩
   | true=>
    simp only[sA,sB,seval,nc,f7,l7]
    refine (ih om om y3 y4).mono ?_
    rintro _ _ ⟨rfl,rfl⟩
    simp only[sA,sB,seval]
    exact⟨by simp,tt⟩
  ·have h3':¬(k:Int)=3:=om
   simp only[OP,sA,sB,seval,ln,hn0,wj,ix,nc,f0,l0,h5',h3',h5,h3]
   exact⟨tt,tt⟩
theorem yD{l:List St}{C:List aa}{v:aa}{n0:Nat}{H:ae}(z1:jt (·<n0) H 9 v l.length C)(z2:dL (·<n0) H l C)(hn:n0<=H.next) :
  az Tryz.prog aH 18 [v] H fun u H'=>u=.agg (rj (jy l))/\cZ H.next H H':=by
 refine aj rfl RI rfl ?_
 obtain⟨H1,m1,r1,n1,k1⟩:=aw H [.int .i64 0,.int .i64 0] (n:=2) rfl
 have k1':∀c,c<H.next->H1.get c=H.get c:=fun c hc=>k1 c om
 have km1:∀b,b<n0->b<H1.next/\H1.get b=H.get b:=fun b hb=>⟨om,k1' b om⟩
 obtain⟨rb,hrb⟩:∃b,b=H.next:=⟨_,rfl⟩
 rw[<- hrb]at m1 r1 k1
 simp only[c18,sA,sB,seval,m1]
 refine (qJ (z1.mono km1) (z2.xss.mono km1)).mono ?_
 rintro _ H2 ⟨rfl,E2⟩
 have e2:=E2.next
 have r2:=r1.same (E2.old rb om)
 unfold jy
 cases hr:iD l with
 | false=>
  have bb:aL [.int .i64 0,.int .i64 0] [(0,1,.int .i64 103)]=some (.agg [.int .i64 103,.int .i64 0]):=rfl
  obtain⟨H3,m3,r3,n3,k3⟩:=ak r2 (n:=2) rfl (xs:=[.int .i64 103,.int .i64 0]) rfl rfl
  simp only[sA,sB,seval,bb,m3]
  refine tK _ _ _ _ (v:=.agg [.int .i64 103,.int .i64 0]) (by simp only[sA,sB,seval]; exact aA r3 rfl) ?_
  exact⟨rfl,om,fun c hc=>by rw[k3 c om,E2.old c om,k1' c hc]⟩
 | true=>
 have hok:eq l=true:=by simp only[iD,SE]at hr; exact hr.1
 have hfit:aS l<=1000/\dR l<=40:=by simp only[iD,tJ,SE,SP]at hr; exact hr.2
 obtain⟨H3,hH3⟩:∃J,J=H2.push (.cells (vM fB) 0 false):=⟨_,rfl⟩
 have n3:H3.next=H2.next+1:=by rw[hH3]; rfl
 obtain⟨H4,hH4⟩:∃J,J=H3.push (.cells (xK fB) 0 false):=⟨_,rfl⟩
 have n4:H4.next=H3.next+1:=by rw[hH4]; rfl
 have b3:cA 4 [.str []] H2 [(0,1,.str [117]),(1,1,.str [118]),(2,1,.str [112]),(3,1,.str [110])]=some (.slice (some ⟨H2.next,4,0⟩) 4 (.known 4),H3):=by rw[hH3]; rfl
 have b4:cA 4 [.int .u8 0] H3 [(0,1,.int .u8 1),(1,1,.int .u8 1),(2,1,.int .u8 2),(3,1,.int .u8 2)]=some (.slice (some ⟨H3.next,4,0⟩) 4 (.known 4),H4):=by rw[hH4]; rfl
 have L3:cp 1 H3 (.slice (some ⟨H2.next,4,0⟩) 4 (.known 4)) (vM fB) 4:=by rw[hH3]; exact cp.built (m:=1) (k:=4) H2 (xs:=vM fB) rfl
 have L4:cp 1 H4 (.slice (some ⟨H3.next,4,0⟩) 4 (.known 4)) (xK fB) 4:=by rw[hH4]; exact cp.built (m:=1) (k:=4) H3 (xs:=xK fB) rfl
 have k34:∀c,c<H2.next->H4.get c=H2.get c:=fun c hc=>by rw[hH4,aI om,hH3,aI hc]
 obtain⟨H5,m5,r5,n5,k5⟩:=aw H4 [.slice (some ⟨H2.next,4,0⟩) 4 (.known 4),.slice (some ⟨H3.next,4,0⟩) 4 (.known 4)] (n:=2) rfl
 have bb:aL [.slice none 0 (.known 0),.slice none 0 (.known 0)] [(0,1,.slice (some ⟨H2.next,4,0⟩) 4 (.known 4)),(1,1,.slice (some ⟨H3.next,4,0⟩) 4 (.known 4))]=some (.agg [.slice (some ⟨H2.next,4,0⟩) 4 (.known 4),.slice (some ⟨H3.next,4,0⟩) 4 (.known 4)]):=rfl
 have bN:da (.slice (some ⟨H2.next,4,0⟩) 4 (.known 4)) (·=H2.next):=cH rfl
 have bK:da (.slice (some ⟨H3.next,4,0⟩) 4 (.known 4)) (·=H3.next):=cH rfl
 have A5:ru fB H4.next n0 (.slice (some ⟨H2.next,4,0⟩) 4 (.known 4)) (.slice (some ⟨H3.next,4,0⟩) 4 (.known 4)) H5:=
  ⟨r5,om,om,L3.same om (bN.mono fun x hx=>by rw[k5 x om,hH4,aI om]),L4.same om (bK.mono fun x hx=>k5 x om),bN.mono fun x hx=>⟨om,om⟩,bK.mono fun x hx=>⟨om,om⟩,bN.mono fun x hx=>bK.mono fun y hy=>om⟩
 have k25:∀c,c<H2.next->H5.get c=H2.get c:=fun c hc=>by rw[k5 c om,k34 c hc]
 have k05:∀c,c<n0->c<n0/\H5.get c=H.get c:=fun c hc=>⟨hc,by rw[k25 c om,E2.old c om,k1' c om]⟩
 simp only[sA,sB,seval,b3,b4,bb,cB,m5]
 refine (NH (aS l) om rL A5 (z1.mono k05) (z2.mono k05) hok hfit.2 uH.given (by show 4+_<=_; omega)).mono ?_
 rintro _ H6 ⟨rfl,vn',vk',A6,F6⟩
 have e6:=F6.next
 have old6:∀c,c<H2.next->H6.get c=H2.get c:=fun c hc=>by rw[F6.old c om om (bN.mono fun x hx=>om) (bK.mono fun x hx=>om),k25 c hc]
 have old6':∀c,c<H.next->H6.get c=H.get c:=fun c hc=>by rw[old6 c om,E2.old c om,k1' c hc]
 have r6:=r2.same (old6 rb om)
 obtain⟨H7,m7,r7,n7,k7⟩:=aw H6 [.int .i64 0,.int .i64 0] (n:=2) rfl
 obtain⟨H8,m8,r8,n8,k8⟩:=ak r7 (n:=2) rfl (xs:=rj (eB (ib fB false l))) rfl rfl
 have k68:∀c,c<H6.next->H8.get c=H6.get c:=fun c hc=>by rw[k8 c om,k7 c om]
 have r68:=r6.same (k68 rb om)
 have l8:au false 1 H8 (af H6.next 2 0)=some (.int .i64 ((eB (ib fB false l)).1:Int)):=am r8 rfl rfl
 have l8a:au true 2 H8 (af H6.next 2 0)=some (.agg (rj (eB (ib fB false l)))):=aA r8 rfl
 simp only[sA,sB,seval,m7,m8,fld0,l8]
 cases hck:ib fB false l with
 | error f=>
  have hf0:=jo hck
  have hf':¬(f.1:Int)=0:=om
  rw[hck]at l8a
  obtain⟨H9,m9,r9,n9,k9⟩:=ak r68 (n:=2) rfl (xs:=rj f) rfl rfl
  simp only[sA,sB,seval,eB,hf',l8a,m9]
  refine tK _ _ _ _ (v:=.agg (rj f)) (by simp only[sA,sB,seval]; exact aA r9 rfl) ?_
  exact⟨rfl,om,fun c hc=>by rw[k9 c om,k68 c om,old6' c hc]⟩
 | ok Ef=>
  have km8:∀b,b<n0->b<n0/\H8.get b=H.get b:=fun b hb=>⟨hb,by rw[k68 b om,old6' b om]⟩
  simp only[sA,sB,seval,eB,Int.cast_ofNat_Int]
  refine (uK (aS l) rL om (z1.mono km8) (z2.xss.mono km8)).mono ?_
  rintro _ _ ⟨rfl,rfl⟩
  cases hret:qV l with
  | false=>
   have bb2:aL [.int .i64 0,.int .i64 0] [(0,1,.int .i64 113)]=some (.agg [.int .i64 113,.int .i64 0]):=rfl
   obtain⟨H9,m9,r9,n9,k9⟩:=ak r68 (n:=2) rfl (xs:=[.int .i64 113,.int .i64 0]) rfl rfl
   simp only[sA,sB,seval,bb2,m9]
   refine tK _ _ _ _ (v:=.agg [.int .i64 113,.int .i64 0]) (by simp only[sA,sB,seval]; exact aA r9 rfl) ?_
   exact⟨rfl,om,fun c hc=>by rw[k9 c om,k68 c om,old6' c hc]⟩
  | true=>
   have bb2:aL [.int .i64 0,.int .i64 0] []=some (.agg [.int .i64 0,.int .i64 0]):=rfl
   obtain⟨H9,m9,r9,n9,k9⟩:=ak r68 (n:=2) rfl (xs:=[.int .i64 0,.int .i64 0]) rfl rfl
   simp only[sA,sB,seval,bb2,m9]
   refine tK _ _ _ _ (v:=.agg [.int .i64 0,.int .i64 0]) (by simp only[sA,sB,seval]; exact aA r9 rfl) ?_
   exact⟨rfl,om,fun c hc=>by rw[k9 c om,k68 c om,old6' c hc]⟩
open Go.Abs Go.Abs.S
structure Vl where
 vec:Bool
 x:Int
 y:Int
 z:Int
def most:Int:=9223372036854775807
def kA:Int:=-9223372036854775808
def iZ(a b:Int):Int:=if 0<b/\most-b<a then most else if b<0/\a<kA-b then kA else a+b
def jD(a b:Int):Int:=if b<0/\most+b<a then most else if 0<b/\a<kA+b then kA else a-b
def jK:Int:=4294967296
def uQ(a b:Int):Option Int:=if 0<=a/\a<=17179869184/\0<=b/\b<=17179869184 then some (a*b / 4294967296) else none
def nG(a b:Int):Option Int:=if 0<b/\b<4398046511104 then (if a=0 then some 0 else if a=b then some jK else none) else none
def yw(b:Bool):Vl:=⟨false,if b then jK else 0,0,0⟩
def y5(s:Bs)(a b:Vl):Option Vl:=
 if s=[43] then some ⟨a.vec,iZ a.x b.x,iZ a.y b.y,iZ a.z b.z⟩
 else if s=[45] then some ⟨a.vec,jD a.x b.x,jD a.y b.y,jD a.z b.z⟩
 else if s=[42] then (if a.vec then match uQ a.x b.x,uQ a.y b.x,uQ a.z b.x with
   | some x,some y,some z=>some ⟨true,x,y,z⟩
   | _,_,_=>none
  else none)
 else if s=[47] then match nG a.x b.x,nG a.y b.x,nG a.z b.x with
   | some x,some y,some z=>some ⟨a.vec,x,y,z⟩
   | _,_,_=>none
 else if s=[60] then some (yw (decide (a.x<b.x)))
 else if s=[62] then some (yw (decide (b.x<a.x)))
 else none
def bS:List (Bs×Vl)->Bs->Nat->Nat
 | _,_,0=>0
 | l,s,i+1=>match l[i+1]? with
  | some p=>if p.1=s then i+1 else bS l s i
  | none=>0
def Fc(vs:List (Bs×Vl))(k:Nat)(s:Bs)(n:Int)(v:List Vl):Option Vl:=
 if k=1 then (match v with | []=>(if kA<=n/\n<=most then some ⟨false,n,0,0⟩ else none) | _=>none)
 else if k=2 then (match v with | []=>(match vs[bS vs s (vs.length-1)]? with | some p=>some p.2 | none=>none) | _=>none)
 else if k=3 then (match v with | [a,b]=>y5 s a b | _=>none)
 else match v with
  | [a,b,c]=>if s=[118,101,99] then some ⟨true,a.x,b.x,c.x⟩ else none
  | _=>none
mutual
def eE(vs:List (Bs×Vl))(F:Int):Ex->Nat->Option (Option Vl×Nat)
 | .mk k s n kids,st=>if 3<kids.length then none else match eK vs F kids st with
  | none=>none
  | some (none,st)=>some (none,st)
  | some (some v,st)=>if F<=(st:Int) then some (none,st) else match Fc vs k s n v with
   | some r=>some (some r,st+1)
   | none=>none
def eK(vs:List (Bs×Vl))(F:Int):List Ex->Nat->Option (Option (List Vl)×Nat)
 | [],st=>some (some [],st)
 | e::l,st=>match eE vs F e st with
  | none=>none
  | some (none,st)=>some (none,st)
  | some (some v,st)=>match eK vs F l st with
   | none=>none
   | some (none,st)=>some (none,st)
   | some (some r,st)=>some (some (v::r),st)
end
structure Wk where
 vars:List (Bs×Vl)
 st:Nat
 spent:Bool
 ended:Bool
 out:Int×Int×Int
def Wk.over(w:Wk):Bool:=w.spent||w.ended
def Gv(f:St->Wk->Option Wk):List St->Wk->Option Wk
 | [],w=>some w
 | s::l,w=>match f s w with
  | none=>none
  | some w=>if w.over then some w else Gv f l w
def xS(n:Nat)(o:Option Wk):Option Wk:=match o with
 | none=>none
 | some w=>if w.over then some w else some { w with vars:=w.vars.take n }
mutual
def eS(F:Int):Nat->St->Wk->Option Wk
 | 0,_,_=>none
 | m+1,.mk k s e body els line,w=>if F<=(w.st:Int) then some { w with spent:=true } else match eE w.vars F e (w.st+1) with
  | none=>none
  | some (none,st)=>some { w with st:=st,spent:=true }
  | some (some v,st)=>
   if k=1 then (if w.vars.length<1000 then some { w with st:=st,vars:=w.vars++[(s,v)] } else none)
   else if k=2 then some { w with st:=st,vars:=w.vars.set (bS w.vars s (w.vars.length-1)) (((w.vars[bS w.vars s (w.vars.length-1)]?).map (·.1)).getD [],v) }
   else if k=5 then some { w with st:=st,out:=(v.x,v.y,v.z),ended:=true }
   else if k=3 then (if v.x≠0 then eL F m body { w with st:=st } else eL F m els { w with st:=st })
   else if k=4 then (if v.x=0 then some { w with st:=st } else match eL F m body { w with st:=st } with
    | none=>none
    | some w'=>if w'.over then some w' else eS F m (.mk k s e body els line) w')
   else some { w with st:=st }
def eL(F:Int):Nat->List St->Wk->Option Wk
 | 0,_,_=>none
 | m+1,l,w=>if 100000<l.length then none else xS w.vars.length (Gv (eS F m) l w)
end
end Go.Proofs.Wo
