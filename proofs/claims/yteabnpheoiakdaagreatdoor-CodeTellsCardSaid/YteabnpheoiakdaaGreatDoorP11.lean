/- Part of a proof (YE4 YE5 YE6 YE7 YE8 YD2 YT3 YF1 YF2 YF3); no condition. -/
import Derived.Test.YteabnpheoiakdaaGreatDoorProg
import Derived.KernelRfl
import Derived.Test.YteabnpheoiakdaaGreatDoorP6
import Derived.Test.YteabnpheoiakdaaGreatDoorP7
import Derived.Test.YteabnpheoiakdaaGreatDoorP10
set_option linter.unusedSimpArgs false
set_option linter.unusedVariables false
set_option linter.defProp false
set_option linter.unnecessarySimpa false
namespace Go.Proofs.Wo
open Go.Abs Go.Abs.S
def Vr(f:Int):aJ [.slice none 0 (.known 0),.int .i64 0] [(1,1,.int .i64 f)]=some (.agg [aX,.int .i64 f]):=rfl
def Bp(ts:List Nat)(t:Nat):gW ts++[co t]=gW (ts++[t]):=by simp[gW]
def Q4{l:List Ex}(h:eY l=true){e:Ex}(he:e∈l):lD e=true:=by
 induction l with
 |nil=>simp at he
 |cons x l ih=>
  simp only[eY,XA]at h;rcases List.mem_cons.1 he with rfl|he
  ·exact h.1
  ·exact ih h.2 he
def QZ{E:aO}{n0 n1 ab mb mt mk:Nat}{vn vk:ae}:M9 E n0 n1 ab vn vk mb mt mk 0:=by
 intro kids C v H Q hsz A z1 z2 hok;have hk0:kids=[]:=by
  cases kids with
  |nil=>rfl
  |cons x l=>cases x;simp only[aU,Ex.size]at hsz;omega
 subst hk0;have ln:=z1.sl.len;have h0:(([]:List Ex).length:Int)=0:=rfl;refine ak rfl Pu rfl ?_;simp only[Rw,sC,seval,ln,h0];exact⟨⟨aX,tt,.inl ⟨rfl,rfl,rfl⟩,cP _⟩,Fp.refl _ _,A.ext rL (λ_ _ _=>rfl) (λb hb=>.inl hb) (A.qx rL rL)⟩
def Uh{E:aO}(hE:kW E){n0 n1 ab mb mt mk:Nat}{vn vk:ae}{N:Nat}(hN:N<=1000000)(ih:VS E n0 n1 ab vn vk mb mt mk N):M9 E n0 n1 ab vn vk mb mt mk N:=by
 intro kids C v H Q hsz A z1 z2 hok;have ln:=z1.sl.len;by_cases hk0:kids=[]
 ·subst hk0;exact QZ (by simp[aU]) A z1 z2 hok
 have hkp:0<kids.length:=List.length_pos_iff.2 hk0;have hkn:¬(kids.length:Int)=0:=om;obtain⟨b,low,r,rfl,hb,hg,hlow,hC⟩:=z1.pos hkp;have hmk:=A.kn.1;have hab:=A.abl;have hmb:=A.mbl;have hn0:=A.n0l;have hn1:=A.n1l;refine ak rfl Pu rfl ?_;simp only[Rw,sC,seval,ln,hkn];refine(tM hkp).mono ?_;rintro _ H1 ⟨rfl,E1⟩;have e1:=E1.next;obtain⟨H2,m2,r2,n2,k2⟩:=aC H1 [.ptr none,.int .i64 0] (n:=2) rfl;obtain⟨H3,m3,r3,n3,k3⟩:=am r2 (n:=2) rfl (xs:=[.ptr (some ⟨b,C.length,0⟩),.int .i64 (kids.length:Int)]) rfl rfl;have m3':bh 2 H2 (ah H1.next 2 0) (eE b C.length kids.length)=some H3:=m3;obtain⟨kb,hkb⟩:∃kb,kb=H1.next:=⟨_,rfl⟩;rw[<- hkb]at r3 m3' m2 k2 k3;obtain⟨H4,hH4⟩:∃J,J=H3.push (.cells [.slice none 0 (.known 0),.int .i64 0] 0 false):=⟨_,rfl⟩;have n4:H4.next=H3.next+1:=by rw[hH4];rfl
 have g4:H4.get H3.next=some (.cells [.slice none 0 (.known 0),.int .i64 0] 0 false):=by rw[hH4,aa.get_push,if_pos rfl]
 have k04:∀c,c<H.next->H4.get c=H.get c:=λc hc=>by rw[hH4,aB om,k3 c om,k2 c om,E1.old c hc]
 have A4:jx E n0 n1 ab vn vk mb mt mk Q H4:=A.ext om (λc hc _=>k04 c hc) (λb hb=>hb) (λb hb=>by have:=A.hQ b hb;omega);have lm:al false 1 H4 (ah ab 5 4)=some (.map (some mk)):=aj A4.ask rfl rfl;have r34:be H4 kb [.ptr (some ⟨b,C.length,0⟩),.int .i64 (kids.length:Int)]:=r3.same (by rw[hH4,aB om]);have lp:al true 2 H4 (ah kb 2 0)=some (eE b C.length kids.length):=aw r34 rfl;have hgt:∀{K:aa},(∀c,c<n0->K.get c=H.get c)->K.get b=some (.cells C low false):=λh=>(h b hb).trans hg;have z24:ed (·<n0) H4 kids C:=z2.mono λc hc=>⟨hc,k04 c (by have:c<n0:=hc;omega)⟩;have hg4:=hgt (K:=H4) λc hc=>k04 c om;have cl4:ec H4 H3.next _ none=some (ah H3.next 2 0):=fG g4 rfl;rcases A4.kn.look hg4 z24 (.agg [.slice none 0 (.known 0),.int .i64 0])with q|⟨y,hy,q⟩
 case inr=>
  have q':kj (.pLook (.p,.i) true (.agg [.slice none 0 (.known 0),.int .i64 0])) H4 [.map (some mk),eE b C.length kids.length]=some (.tuple [y,.bool true],H4):=q;obtain⟨y0,y1,rfl,hone⟩:∃y0 y1,y=.agg [y0,y1]/\[y0,y1].all ae.one=true:=by
   unfold DI at hy;split at hy
   ·obtain⟨w,rfl,h2,_⟩:=hy;exact⟨_,_,rfl,by simp only[List.all_cons,List.all_nil,h2.one];rfl⟩
   ·exact⟨_,_,hy,rfl⟩
  obtain⟨H5,m5,r5,n5,k5⟩:=am (H:=H4) (b:=H3.next) ⟨0,g4,Nat.zero_le _⟩ (n:=2) rfl (xs:=[y0,y1]) rfl hone;have l50:al false 1 H5 (ah H3.next 2 0)=some y0:=aj r5 rfl rfl;have l51:al false 1 H5 (ah H3.next 2 1)=some y1:=aj r5 rfl rfl;simp only[sC,seval,m2,m3',az];refine er ?_;simp only[aH,dT,bp,iE,j6,<- hH4];simp only[sR,sC,seval,az,aA,lm,lp,q',bv,bu,gj,cl4,m5];simp only[ci,cj,bP,dE,cm,cQ,and_true,true_and,List.map_cons,List.map_nil,sC,seval];refine⟨⟨_,rfl,λ_=>⟨_,cl4,fS _ _ _⟩⟩,?_⟩;simp only[sC,seval,fld0,aA,l50,l51];have F5:Fp mk H H5:=⟨om,λc hc _=>by rw[k5 c om,k04 c hc]⟩;have A5:jx E n0 n1 ab vn vk mb mt mk (QX Q H.next H5.next) H5:=A.ext om (λc hc _=>by rw[k5 c om,k04 c hc]) (λb hb=>.inl hb) (A.qx rL om);have hy5:DI E Q H5 kids (.agg [y0,y1]):=hy.keep om λb hb hl=>⟨hb,k5 b (by have:=A.hQ b hb;omega)⟩;refine⟨?_,F5,A5⟩;unfold DI at hy5;split at hy5
  ·obtain⟨w,e,h2,h3⟩:=hy5;simp only[ae.agg.injEq,List.cons.injEq,and_true]at e;obtain⟨rfl,rfl⟩:=e;exact⟨y0,tt,h2,h3.mono λb hb=>.inl hb⟩
  ·simp only[ae.agg.injEq,List.cons.injEq,and_true]at hy5;obtain⟨rfl,rfl⟩:=hy5;exact tt
 have q':kj (.pLook (.p,.i) true (.agg [.slice none 0 (.known 0),.int .i64 0])) H4 [.map (some mk),eE b C.length kids.length]=some (.tuple [.agg [.slice none 0 (.known 0),.int .i64 0],.bool false],H4):=q;obtain⟨H5,m5,r5,n5,k5⟩:=am (H:=H4) (b:=H3.next) ⟨0,g4,Nat.zero_le _⟩ (n:=2) rfl (xs:=[.slice none 0 (.known 0),.int .i64 0]) rfl rfl;obtain⟨H6,m6,r6,n6,k6⟩:=aC H5 [.slice none 0 (.known 0),.int .i64 0] (n:=2) rfl;have ln':ez false (.slice (some ⟨b,C.length,0⟩) kids.length r)=some (.int .i64 (kids.length:Int)):=rfl;simp only[sC,seval,m2,m3',az];refine er ?_;simp only[aH,dT,bp,iE,j6,<- hH4];simp only[sR,sC,seval,az,aA,lm,lp,q',bv,bu,gj,cl4,m5];simp only[ci,cj,bP,dE,cm,cQ,and_true,true_and,List.map_cons,List.map_nil,sC,seval];refine⟨⟨_,rfl,λ_=>⟨_,cl4,fS _ _ _⟩⟩,?_⟩;obtain⟨cb,hcb⟩:∃cb,cb=H5.next:=⟨_,rfl⟩;rw[<- hcb]at m6 r6 k6;have k06:∀c,c<H.next->H6.get c=H.get c:=λc hc=>by rw[k6 c om,k5 c om,k04 c hc]
 have done:∀(K:aa) (y0 y1:ae),H6.next<=K.next->(∀c,c<H6.next->c≠mk->c≠cb->K.get c=H6.get c)->be K cb [y0,y1]->jx E n0 n1 ab vn vk mb mt mk (QX Q H6.next K.next) K->DI E (QX Q H6.next K.next) K kids (.agg [y0,y1]) ->
   ∃K2,kj (.pUpd (.p,.i)) K [.map (some mk),eE b C.length kids.length,.agg [y0,y1]]=some (.tuple [],K2)/\al false 1 K (ah ab 5 4)=some (.map (some mk))/\al true 2 K (ah kb 2 0)=some (eE b C.length kids.length)/\al true 2 K (ah cb 2 0)=some (.agg [y0,y1]) /\
    al false 1 K2 (ah cb 2 0)=some y0/\al false 1 K2 (ah cb 2 1)=some y1/\Qn E n0 n1 ab vn vk mb mt mk Q H kids (.tuple [y0,y1]) K2:=by
  intro K y0 y1 nK hK hr AK hf;have rkb:be K kb [.ptr (some ⟨b,C.length,0⟩),.int .i64 (kids.length:Int)]:=r34.same (by rw[hK kb om om om,k6 kb om,k5 kb om]);have z2K:ed (·<n0) K kids C:=z2.mono λc hc=>⟨hc,by have:c<n0:=hc;rw[hK c om om om,k06 c om]⟩;have hgK:=hgt (K:=K) λc hc=>by rw[hK c om om om,k06 c om]
  obtain⟨K2,u1,u2,u3,u4⟩:=AK.kn.upd hgK z2K hb (λc hc=>by have:c<n0:=hc;omega) (y:=.agg [y0,y1]) (by
   rintro H' o1 o2 k x (h|⟨rfl,rfl⟩)
   ·exact h.keep om λb hb _=>⟨hb,o1 b (AK.hQ b hb).2⟩
   ·exact hf.keep om λb hb _=>⟨hb,o1 b (AK.hQ b hb).2⟩)
  have hr2:be K2 cb [y0,y1]:=hr.same (u4 cb om);have F:Fp mk H K2:=⟨om,λc hc hne=>by rw[u4 c hne,hK c om hne om,k06 c hc]⟩;have A2:jx E n0 n1 ab vn vk mb mt mk (QX Q H6.next K.next) K2:=AK.step om (u4 ab hab.2) (u4 mb hmb.2) (λc hc=>u4 c om) u2 λb hb=>by have:=AK.hQ b hb;omega
  have A3:jx E n0 n1 ab vn vk mb mt mk (QX Q H.next K2.next) K2:=A2.ext rL (λ_ _ _=>rfl) (λb hb=>hb.sub om om) (A.qx rL om);have hf2:DI E (QX Q H.next K2.next) K2 kids (.agg [y0,y1]):=hf.keep om λb hb _=>⟨hb.sub om om,u4 b (AK.hQ b hb).2⟩;refine⟨K2,u1,aj AK.ask rfl rfl,aw rkb rfl,aw hr rfl,aj hr2 rfl rfl,aj hr2 rfl rfl,?_,F,A3⟩;unfold DI at hf2;split at hf2
  ·obtain⟨w,e,h2,h3⟩:=hf2;simp only[ae.agg.injEq,List.cons.injEq,and_true]at e;obtain⟨rfl,rfl⟩:=e;exact⟨y0,tt,h2,h3⟩
  ·simp only[ae.agg.injEq,List.cons.injEq,and_true]at hf2;obtain⟨rfl,rfl⟩:=hf2;exact tt
 have A6:jx E n0 n1 ab vn vk mb mt mk Q H6:=A.ext om (λc hc _=>k06 c hc) (λb hb=>hb) (λb hb=>by have:=A.hQ b hb; omega);simp only[sC,seval,m6,ln'];refine aM (λm (T:bZ) K=>∃(i:Nat) (s:ae) (ts:List Nat),m=kids.length-i/\i<=kids.length/\T 0=ah ab 5 0/\T 1=.slice (some ⟨b,C.length,0⟩) kids.length r/\T 6=ah kb 2 0/\T 9=ah cb 2 0/\T 33=.int .i64 (kids.length:Int)/\T 34=.int .i64 (i:Int) /\
   eA E (kids.take i)=.ok ts/\be K cb [s,.int .i64 0]/\aT 1 K s (gW ts) ts.length/\bx s (H6.next<=·)/\jx E n0 n1 ab vn vk mb mt mk (λx=>QX Q H6.next K.next x/\bx s (x≠·)) K/\H6.next<=K.next/\∀c,c<H6.next->c≠mk->c≠cb->K.get c=H6.get c) kids.length
  ⟨0,aX,[],rfl,Nat.zero_le _,by simp only[sC,seval];try rfl,by simp only[sC,seval];try rfl,by simp only[sC,seval,hkb];try rfl,by simp only[sC,seval];try rfl,by simp only[sC,seval];try rfl,by simp only[sC,seval];try rfl,rfl,r6,.inl ⟨rfl,rfl,rfl⟩,cP _,A6.ext rL (λ_ _ _=>rfl) (λb hb=>⟨.inl hb,cP _⟩) (λb hb=>A6.qx rL rL b hb.1),Nat.le_refl _,λ_ _ _ _=>rfl⟩ ?_
 rintro m T K ⟨i,s,ts,rfl,hi,t0,t1,t6,t9,t33,t34,hty,rK,lK,bK,AK,nK,hK⟩;have hlen:ts.length=i:=by rw[lF hty,XT];omega
 have AK':jx E n0 n1 ab vn vk mb mt mk (QX Q H6.next K.next) K:=AK.ext rL (λ_ _ _=>rfl) (λb hb=>hb.1) (A6.qx rL nK);have bsK:=lK.blk;by_cases hlt:i<kids.length
 case neg=>
  have hi':i=kids.length:=om;have hlt':¬(i:Int)<(kids.length:Int):=om;rw[hi',List.take_length]at hty;have hf:DI E (QX Q H6.next K.next) K kids (.agg [s,.int .i64 0]):=by unfold DI;rw[hty];exact⟨s,rfl,lK,λa j r e=>.inr ⟨bK a j r e,bsK a j r e⟩⟩
  obtain⟨K2,u1,u2,u3,u4,u5,u6,u7⟩:=done K s (.int .i64 0) nK hK rK AK' hf;simp only[sC,seval,t0,t1,t6,t9,t33,t34,hlt',az,aA,fld0,u1,u2,u3,u4,u5,u6];exact u7
 have hlt':(i:Int)<(kids.length:Int):=om;obtain⟨e,he⟩:∃e,kids[i]?=some e:=⟨_,Xx hlt⟩;have hts:kids.take (i+1)=kids.take i++[e]:=by rw[List.take_add_one,he];rfl
 have hmem:=XG he;have hsm:=nu hmem;have kmK:∀c,c<n0->c<n0/\K.get c=H.get c:=λc hc=>⟨hc,by rw[hK c om om om,k06 c om]⟩;have hgK:=hgt (K:=K) λc hc=>(kmK c hc).2;have z1K:rZ (·<n0) K 4 (.slice (some ⟨b,C.length,0⟩) kids.length r) kids.length C:=.inr ⟨b,low,r,rfl,hb,hgK,hlow,hC⟩;have ix:=z1K.sl.idx hlt;have pt:=z1K.sl.pt hlt;have pb:=z1K.sl.blk hlt;have hx:=(z2.mono kmK).at he;have h4l:=hx.len;have wi:IntKind.i64.wrap ((i:Int)+1)=((i+1:Nat):Int):=fT i 1 (by have:=cO kids;omega);simp only[sC,seval,t0,t1,t6,t9,t33,t34,hlt',ix];refine(ih om AK pt (λa e=>by have:a.b<n0:=pb a e;omega) hx (Q4 hok hmem)).mono ?_;rintro u K2 ⟨rfl,F2,A2⟩;have e2:=F2.next;have rK2:be K2 cb [s,.int .i64 0]:=rK.same (F2.old cb om om);have lK2:aT 1 K2 s (gW ts) ts.length:=lK.same e2 λa j r e=>F2.old _ (bsK a j r e) (by have:=bK a j r e;omega);have hK2:∀c,c<H6.next->c≠mk->c≠cb->K2.get c=H6.get c:=λc h1 h2 h3=>by rw[F2.old c om h2,hK c h1 h2 h3]
 cases hte:lB E e with
 |error f=>
  have hf0:=oK hte;have hf':¬(f:Int)=0:=om;have hbad:eA E kids=.error f:=Bq i ⟨ts,hty⟩ he hte;obtain⟨K3,m3,r3,n3,k3⟩:=am rK2 (n:=2) rfl (xs:=[aX,.int .i64 (f:Int)]) rfl rfl;have A3:jx E n0 n1 ab vn vk mb mt mk (QX Q H6.next K3.next) K3:=A2.ext om (λc hc hq=>k3 c (by
   rcases hq with hq|hq|hq|hq|hq|hq
   ·rintro rfl;rcases hq with⟨hq,_⟩|⟨hq,_⟩
    ·rcases hq with hq|⟨hq,_⟩
     ·have:=A.hQ _ hq;omega
     ·omega
    ·omega
   all_goals omega)) (λb hb=>by
    rcases hb with⟨hb,_⟩|hb
    ·exact hb.sub rL om
    ·exact .inr ⟨om,om⟩) (A6.qx rL om)
  have hf:DI E (QX Q H6.next K3.next) K3 kids (.agg [aX,.int .i64 (f:Int)]):=by unfold DI;rw[hbad]
  obtain⟨K4,u1,u2,u3,u4,u5,u6,u7⟩:=done K3 aX (.int .i64 (f:Int)) om (λc h1 h2 h3=>by rw[k3 c h3,hK2 c h1 h2 h3]) r3 A3 hf;simp only[sC,seval,oJ,bv,bu,hf',Vr,t0,t1,t6,t9,t33,t34,m3,az,aA,fld0,u1,u2,u3,u4,u5,u6];exact u7
 |ok t=>
  have ls:al false 1 K2 (ah cb 2 0)=some s:=aj rK2 rfl rfl;have bs:aL 1 [.int .u8 0] K2 [(0,1,co t)]=some (.slice (some ⟨K2.next,[co t].length,0⟩) 1 (.known 1),K2.push (.cells [co t] 0 false)):=rfl;obtain⟨s',K3,a1,a2,a3,a4,a5⟩:=lK2.add (j:=1) (xs:=[co t]) rfl rfl om (bytes:=1) (by have:=cO kids;omega) om;have bcb:bx s (cb≠·):=λa j r e=>by have:=bK a j r e;omega
  obtain⟨K4,m4,r4,n4,k4⟩:=bQ (H:=K3) (rK2.same (a5 cb om bcb)) (n:=2) rfl (i:=0) om (x:=s') a2.one (l':=[s',.int .i64 0]) rfl;have VG:eA E (kids.take (i+1))=.ok (ts++[t]):=by rw[hts,ye hty,hte]
  rw[Bp]at a2;have lK4:aT 1 K4 s' (gW (ts++[t])) (ts++[t]).length:=by rw[lA];refine a2.same om λa j r e=>k4 _ ?_;rcases a4 _ bK a j r e with q|q<;>omega
  have bs':bx s' (H6.next<=·):=(a4 _ bK).mono λx hx=>om;simp only[sC,seval,oJ,bv,bu,Int.cast_ofNat_Int,t0,t1,t6,t9,t33,t34,fld0,ls,bs,a1,m4,wi];refine⟨kids.length-(i+1),om,i+1,s',ts++[t],rfl,om,tt,tt,tt,tt,tt,tt,VG,r4,lK4,bs',?_,om,?_⟩
  ·refine A2.kn.1 |> λhmk2=>?_;have keepQ:∀x,QX (λx=>QX Q H6.next K.next x/\bx s (x≠·)) K.next K2.next x->x<K2.next->(QX Q H6.next K4.next x/\bx s' (x≠·))/\K4.get x=K2.get x:=by
    intro x hx hl;have hxs:bx s (x≠·):=by
     rcases hx with⟨_,hx⟩|hx
     ·exact hx
     ·exact bsK.mono λc hc=>om
    have hxc:x≠cb:=by
     rintro rfl;rcases hx with⟨hq,_⟩|⟨hq,_⟩
     ·rcases hq with hq|⟨hq,_⟩
      ·have:=A.hQ _ hq;omega
      ·omega
     ·omega
    refine⟨⟨?_,(a4 _ hxs).mono λc hc=>om⟩,by rw[k4 x hxc,a5 x hl hxs]⟩;rcases hx with⟨hx,_⟩|hx
    ·exact hx.sub rL om
    ·exact .inr ⟨om,om⟩
   have old4:∀c,c<H6.next->c≠cb->K4.get c=K2.get c:=λc h1 h2=>by rw[k4 c h2,a5 c om λa j r e=>by have:=bK a j r e;omega]
   refine A2.step om (old4 ab om om) (old4 mb om om) (λc hc=>old4 c om om) (A2.kn.keep om (old4 mk om om) (λc hc=>⟨hc,old4 c (by have:c<n0:=hc;omega) (by have:c<n0:=hc;omega)⟩) λk y q=>q.keep om λx hx hl=>keepQ x hx hl) λx hx=>A6.qx rL om x hx.1
  ·intro c h1 h2 h3;rw[k4 c h3,a5 c om λa j r e=>by have:=bK a j r e;omega,hK2 c h1 h2 h3]
open Go.Abs Go.Abs.S
def WX{E:aO}{n0 n1 ab mb mt mk:Nat}{vn vk:ae}:VS E n0 n1 ab vn vk mb mt mk 0:=by intro e c p H Q h;have:=fg e;omega
def PZ{E:aO}(hE:kW E)(hEl:E.length<=1000000){n0 n1 ab mb mt mk:Nat}{vn vk:ae}:∀N,N<=1000000->VS E n0 n1 ab vn vk mb mt mk N
 |0,_=>WX
 |N+1,h=>ofP hE hEl om (Uh hE om (PZ hE hEl N om))
def L0(b:Nat)(z:List ae)(s:Option (Nat×Nat)):AG b z s (.hf .mkMap [])=.claim b z s:=_root_.id rfl
def Kv:xA [] (some (1,0))=.map [] 0:=_root_.id rfl
def oY{H:aa}{b:Nat}(h:H.get b=some (.map [] 0)):ec H b [] (some (1,0))=some (.map (some b)):=by unfold ec;simp only[h];rfl
def Iv{E:aO}{vn vk:ae}{n0 n1:Nat}{H:aa}(ln:aT 1 H vn (gh E) E.length)(lk:aT 1 H vk (iu E) E.length)(bn:bx vn (·<n1))(bk:bx vk (·<n1))(h1:n1<=H.next)(h0:n0<=H.next) :
  aq Tryz.prog aF 167 [vn,vk] H λu H'=>u=ah (H.next+3) 5 0/\(∃vn' vk',jx E n0 n1 (H.next+3) vn' vk' (H.next+2) H.next (H.next+1) (λ_=>False) H')/\iB (·<n0) CJ H.next H'/\H'.next=H.next+4/\∀c,c<H.next->H'.get c=H.get c:=by
 refine ak rfl SZ rfl ?_;obtain⟨H2,hH2⟩:∃J,J=(H.push (.map [] 0)).push (.map [] 0):=⟨_,rfl⟩;have n2:H2.next=H.next+2:=by rw[hH2];rfl
 have k2:∀c,c<H.next->H2.get c=H.get c:=λc hc=>by rw[hH2,aa.get_push,if_neg (by rw[aV];omega),aB hc]
 have g2t:H2.get H.next=some (.map [] 0):=by rw[hH2,aa.get_push,if_neg (by rw[aV];omega),aa.get_push,if_pos rfl]
 have g2k:H2.get (H.next+1)=some (.map [] 0):=by rw[hH2,aa.get_push,if_pos (by rw[aV])]
 obtain⟨vn',sn,ln',bn'⟩:=ln.cut om (n:=E.length) rL;obtain⟨vk',sk,lk',bk'⟩:=lk.cut om (n:=E.length) rL;rw[Nat.mul_one,List.take_of_length_le (by rw[eR];omega)]at ln';rw[Nat.mul_one,List.take_of_length_le (by rw[kI];omega)]at lk';have cn:=(aT.cel1 ln' (bn' _ bn)).1;have ck:=(aT.cel1 lk' (bk' _ bk)).1;have lnn:=ln.len;have lkk:=lk.len;simp only[UF,sC,seval,lnn,lkk,ite_self];refine er ?_;simp only[aH,dT,bp,Kv,L0,<- hH2];simp only[sR,sC,seval,ite_self,sn,sk];refine Iw.mono ?_;rintro _ H3 ⟨rfl,hB,n3,k3⟩;have k03:∀c,c<H.next->H3.get c=H.get c:=λc hc=>by rw[k3 c om,k2 c hc]
 have cl3:=oY ((k3 H.next om).trans g2t);have cl4:=oY ((k3 (H.next+1) om).trans g2k);have bb:aJ [.slice none 0 (.known 0),.slice none 0 (.known 0),.map none,.map none,.map none] [(0,1,vn'),(1,1,vk'),(2,1,.map (some H2.next)),(3,1,.map (some H.next)),(4,1,.map (some (H.next+1)))]=some (.agg [vn',vk',.map (some H2.next),.map (some H.next),.map (some (H.next+1))]):=by
  have q1:vn'.cells=[vn']:=by rcases ln' with⟨rfl,_⟩|⟨_,_,_,_,rfl,_⟩<;>rfl
  have q2:vk'.cells=[vk']:=by rcases lk' with⟨rfl,_⟩|⟨_,_,_,_,rfl,_⟩<;>rfl
  simp[aJ,kV,q1,q2,pM];rfl
 obtain⟨H4,m4,r4,n4,k4⟩:=aC H3 [vn',vk',.map (some H2.next),.map (some H.next),.map (some (H.next+1))] (n:=5) rfl;simp only[sR,sC,seval,gj,cl3,cl4,bb,aG,m4];simp only[ci,cj,bP,dE,cm,cQ,and_true,true_and,List.map_cons,List.map_nil,sC,seval];refine⟨⟨⟨_,rfl,λ_=>⟨_,oY g2t,by simp[aeq]⟩⟩,⟨_,rfl,λ_=>⟨_,oY g2k,by simp[aeq]⟩⟩⟩,?_⟩;have e3:H3.next=H.next+3:=om;have e2:H2.next=H.next+2:=n2;rw[e2]at r4 hB;rw[e3]at r4;have k04:∀c,c<H.next->H4.get c=H.get c:=λc hc=>by rw[k4 c om,k03 c hc]
 have E4:aS n1 H H4:=⟨om,λc hc=>k04 c om⟩;have gk4:H4.get (H.next+1)=some (.map [] 0):=by rw[k4 _ om,k3 _ om];exact g2k
 have gt4:H4.get H.next=some (.map [] 0):=by rw[k4 _ om,k3 _ om];exact g2t
 refine⟨by simp only[sC,seval,e3],⟨vn',vk',r4,⟨om,om⟩,⟨om,om⟩,(k4 _ om).trans hB,⟨om,om⟩,⟨om,om⟩,cn.ext E4,ck.ext E4,.new gk4 om,λ_ h=>h.elim⟩,.new gt4 om,om,k04⟩
def vA{E:aO}(hE:kW E)(hEl:E.length<=1000000){e:Ex}{c:List ae}{vn vk:ae}{n0 n1:Nat}{H:aa}(ln:aT 1 H vn (gh E) E.length)(lk:aT 1 H vk (iu E) E.length)(bn:bx vn (·<n1))(bk:bx vk (·<n1))(h1:n1<=H.next)(h0:n0<=H.next)(hx:mL (·<n0) H e c)(hok:lD e=true)(hs:e.size<=1000)(hd:e.deep<=40) :
  aq Tryz.prog aF 128 [.agg c,vn,vk] H λu H'=>u=oJ (lB E e)/\aS H.next H H':=by
 refine ak rfl TF rfl ?_;have hx0:=hx;have hone:=hx.xe.one;obtain⟨k,s,n,kids⟩:=e;obtain⟨v,C,rfl,z1,z2⟩:=hx;have hs1:(Ex.mk k s n kids).size=aU kids+1:=rfl;have hd1:(Ex.mk k s n kids).deep=bG kids+1:=rfl;obtain⟨H1,m1,r1,n1',k1⟩:=aC H [.int .u8 (k:Int),.str s,.int .i64 n,v] (n:=4) rfl;have k1':∀c,c<H.next->H1.get c=H.get c:=λc hc=>k1 c om;have km1:∀c,c<n0->c<n0/\H1.get c=H.get c:=λc hc=>⟨hc,k1' c om⟩;have ln1:=ln.same (H':=H1) om (bn.mono λc hc=>k1' c om);have lk1:=lk.same (H':=H1) om (bk.mono λc hc=>k1' c om);simp only[U2,sC,seval,aG,m1];refine(Iv ln1 lk1 bn bk om (n0:=n0) om).mono ?_;rintro _ H2 ⟨rfl,⟨vn',vk',A2⟩,M2,n2,k2⟩;have km2:∀c,c<n0->c<n0/\H2.get c=H.get c:=λc hc=>⟨hc,by rw[k2 c om,k1' c om]⟩;have l3:al false 1 H2 (ah H.next 4 3)=some v:=aj (r1.same (k2 _ om)) rfl rfl;have hc1:((1:Nat):Int)=1:=rfl;simp only[sC,seval,aA,l3];refine(zY (deep:=1) (n0:=n0) (mt:=H1.next) om om (aU kids) rL om A2.ask A2.abl.1 A2.n0l.2 M2 (z1.mono km2) (z2.mono km2) om).mono ?_;rintro _ H3 ⟨rfl,F3,M3⟩;have e3:=F3.next;have hneg:¬(bG kids:Int)<0:=om;have A3:jx E n0 n1 (H1.next+3) vn' vk' (H1.next+2) H1.next (H1.next+1) (λ_=>False) H3:=A2.ext e3 (λc hc hq=>F3.old c hc (by
  rcases hq with hq|hq|hq|hq|hq|hq
  ·exact hq.elim
  all_goals omega)) (λb hb=>hb) (λ_ hb=>hb.elim)
 have r3:be H3 H.next [.int .u8 (k:Int),.str s,.int .i64 n,v]:=r1.same (by rw[F3.old _ om om,k2 _ om]);have pt:mS H3 (ah H.next 4 0) [.int .u8 (k:Int),.str s,.int .i64 n,v]:=⟨⟨H.next,4,0⟩,rfl,by have:=iF r3 (n:=4) rfl (i:=0) (k:=4) om;simpa using this⟩
 have km3:∀c,c<n0->c<n0/\H3.get c=H.get c:=λc hc=>⟨hc,by rw[F3.old c om om,k2 c om,k1' c om]⟩;simp only[sC,seval,hneg];refine(PZ hE hEl 1000 om om A3 pt (λa e=>?_) (hx0.mono km3) hok).mono ?_
 ·simp only[ah,ae.ptr.injEq,sJ]at e;rw[<- e];show H.next<H3.next/\H.next≠H1.next+1;omega
 rintro _ H4 ⟨rfl,F4,_⟩;have e4:=F4.next;have E4:aS H.next H H4:=⟨om,λc hc=>by rw[F4.old c om om,F3.old c om om,k2 c om,k1' c hc]⟩;cases hte:lB E (.mk k s n kids)with
 |ok t=>simp only[sC,seval,oJ,bv,bu];exact⟨tt,E4⟩
 |error f=>simp only[sC,seval,oJ,bv,bu];exact⟨tt,E4⟩
open Go.Abs Go.Abs.S
structure xp(E:aO)(cb n0:Nat)(vn vk:ae)(H:aa):Prop where
 row:be H cb [vn,vk]
 lt:cb<H.next
 n0l:n0<=cb
 ln:aT 1 H vn (gh E) E.length
 lk:aT 1 H vk (iu E) E.length
 bn:bx vn λb=>n0<=b/\b≠cb
 bk:bx vk λb=>n0<=b/\b≠cb
 ap:bx vn λa=>bx vk (a≠·)
structure tE(cb:Nat)(vn vk:ae)(H:aa)(vn' vk':ae)(H':aa):Prop where
 next:H.next<=H'.next
 old:∀c,c<H.next->c≠cb->bx vn (c≠·)->bx vk (c≠·)->H'.get c=H.get c
 bn:∀P:Nat->Prop,bx vn P->bx vn' λb=>P b∨H.next<=b
 bk:∀P:Nat->Prop,bx vk P->bx vk' λb=>P b∨H.next<=b
def tE.trans{cb:Nat}{vn vk vn1 vk1 vn2 vk2:ae}{H H1 H2:aa}(a:tE cb vn vk H vn1 vk1 H1)(b:tE cb vn1 vk1 H1 vn2 vk2 H2):tE cb vn vk H vn2 vk2 H2:=by
 have n1:=a.next;have n2:=b.next;refine⟨om,λc h1 h2 h3 h4=>?_,λP h=>?_,λP h=>?_⟩
 ·rw[b.old c om h2 ((a.bn _ h3).mono λx hx=>om) ((a.bk _ h4).mono λx hx=>om),a.old c h1 h2 h3 h4]
 ·exact(b.bn _ (a.bn P h)).mono λx hx=>by
   rcases hx with(hx|hx)|hx
   ·exact .inl hx
   ·exact .inr hx
   ·exact .inr om
 ·exact(b.bk _ (a.bk P h)).mono λx hx=>by
   rcases hx with(hx|hx)|hx
   ·exact .inl hx
   ·exact .inr hx
   ·exact .inr om
def xp.ext{E:aO}{cb n0:Nat}{vn vk:ae}{H H':aa}(A:xp E cb n0 vn vk H)(hn:H.next<=H'.next)(hc:H'.get cb=H.get cb)(h1:bx vn λb=>H'.get b=H.get b)(h2:bx vk λb=>H'.get b=H.get b):xp E cb n0 vn vk H':=⟨A.row.same hc,by have:=A.lt;omega,A.n0l,A.ln.same hn h1,A.lk.same hn h2,A.bn,A.bk,A.ap⟩
def xp.exts{E:aO}{cb n0:Nat}{vn vk:ae}{H H':aa}(A:xp E cb n0 vn vk H)(e:aS H.next H H'):xp E cb n0 vn vk H':=A.ext e.next (e.old _ A.lt) (A.ln.blk.mono λb hb=>e.old b hb) (A.lk.blk.mono λb hb=>e.old b hb)
def tE.exts{cb:Nat}{vn vk:ae}{H H':aa}(e:aS H.next H H'):tE cb vn vk H vn vk H':=⟨e.next,λc h _ _ _=>e.old c h,λ_ h=>h.mono λ_ q=>.inl q,λ_ h=>h.mono λ_ q=>.inl q⟩
def tE.low{cb n0:Nat}{E:aO}{vn vk vn' vk':ae}{H H':aa}(A:xp E cb n0 vn vk H)(f:tE cb vn vk H vn' vk' H'){c:Nat}(hc:c<n0):H'.get c=H.get c:=by have:=A.lt;have:=A.n0l;exact f.old c om om (A.bn.mono λx hx=>om) (A.bk.mono λx hx=>om)
def jH{x y:ae}(h:Jx x y=true):mV .apart [x,y]=some (.bool true):=by show(bif Jx x y then some (ae.bool true)else none)=_;rw[h];rfl
def pa{x:ae}{a b n:Nat}{i:Nat}(r:xj)(hx:∀c,cg x=some c->b≠c):Jx (.slice (some ⟨b,n,i⟩) a r) x=true:=by
 unfold Jx;cases hb:cg x with
 |none=>rfl
 |some c=>show(!Nat.beq b c)=true;rw[show Nat.beq b c=false by rw[ch];exact decide_eq_false (hx c hb)];rfl
def fh{v:ae}{P:Nat->Prop}(h:bx v P){m k:Nat}{H:aa}{L:List ae}(l:aT m H v L k):∀c,cg v=some c->P c:=by
 intro c hc;rcases l with⟨rfl,_⟩|⟨b,C,low,r,rfl,_⟩
 ·simp[aX,cg]at hc
 ·simp only[cg,sJ]at hc;rw[<- hc];exact h _ _ _ rfl
def y6{p:ae}{P:Nat->Prop}(h:∀a,p=.ptr (some a)->P a.b)(o:Nat):∀c,cg (fp p o)=some c->P c:=by
 intro c hc;unfold fp at hc;split at hc
 ·simp only[cg,sJ]at hc;rw[<- hc];exact h _ rfl
 ·simp[cF,cg]at hc
def uE{k:Nat}{s:Bs}{a b:Nat}(h:cM k s a b=true):k=1∨k=2∨k=3∨k=4∨k=5:=by
 unfold cM at h;by_cases h1:k=1∨k=2
 ·omega
 rw[if_neg h1]at h;by_cases h3:k=3
 ·omega
 rw[if_neg h3]at h;by_cases h4:k=4
 ·omega
 rw[if_neg h4]at h;by_cases h5:k=5
 ·omega
 ·rw[if_neg h5]at h;simp at h
def ux(E:aO)(s:Bs)(t:Nat):gh E++[.str s]=gh (E++[(s,t)]):=by simp[gh]
def uy(E:aO)(s:Bs)(t:Nat):iu E++[co t]=iu (E++[(s,t)]):=by simp[iu]
def ju{H:aa}{b len:Nat}{z:List ae}{ofs:List (Nat×Nat)}{l xs:List ae}(g:H.get b=some (.cells [] 0 false))(h:kV (BS z len) (Ip ofs l)=some xs) :
  ∃H',kj (.fill b (.lit len z ofs)) H l=some (.slice (some ⟨b,xs.length,0⟩) len (.known len),H')/\H'.next=H.next/\H'.get b=some (.cells xs 0 false)/\∀c,c≠b->H'.get c=H.get c:=
 ⟨H.set b (.cells xs 0 false),by simp only[kj,iL,g,pD,h],eX ..,by rw[aa.get_set,if_pos rfl],λc hc=>by rw[aa.get_set,if_neg hc]⟩
def kz{H:aa}{b:Nat}{x:ae}(g:H.get b=some (.cells [x] 0 false)):gz 1 H (.slice (some ⟨b,1,0⟩) 1 (.known 1))=some (1,[x]):=by have:=fA (H:=H) (b:=b) (l:=[x]) (low:=0) (ro:=false) g (Nat.zero_le _);simp only[XB,XC,Nat.zero_add]at this;simp only[gz,Nat.one_mul,this]
def AD{H:aa}{v:ae}{l:List Bs}{n:Nat}(c:fo n H v (l.map ae.str))(x:Bs)(hl:l.length<=1000000):aq Tryz.prog aF 99 [v,.str x] H λu H'=>u=.bool (l.contains x)/\H=H':=by
 have hE:l=(l.map λy=>(y,0)).map (·.1):=by simp[Function.comp_def]
 have c':fo n H v (gh (l.map λy=>(y,0))):=by unfold gh;rw[<- hE];exact c
 refine ak rfl Ss rfl ?_;simp only[W2,sC,seval];refine(uz c' x (by simpa using hl)).mono ?_;rintro _ _ ⟨rfl,rfl⟩;have hi:decide (0<=xF x (l.map λy=>(y,0)))=l.contains x:=by
  unfold xF;cases hf:bB x (l.map λy=>(y,0))with
  |none=>have:=gT.1 hf;rw[<- hE]at this;simp[this]
  |some i=>
   have hn:¬(x∉(l.map λy=>(y,0)).map (·.1)):=λq=>by rw[gT.2 q]at hf;simp at hf
   rw[<- hE]at hn;simp only[Classical.not_not]at hn;simp[hn]
 simp only[sC,seval,hi];exact⟨tt,tt⟩
def aT.aeq{m k:Nat}{H:aa}{s:ae}{L:List ae}(h:aT m H s L k):Go.Abs.aeq s s=true:=by
 rcases h with⟨rfl,_⟩|⟨b,C,low,r,rfl,_⟩
 ·exact Dq
 ·cases r<;>simp[Go.Abs.aeq]
def StO(E:aO)(cb n0:Nat)(vn vk:ae)(H:aa)(o:Except Nat aO)(u:ae)(H':aa):Prop:=∃vn' vk',(match o with
  | .ok E'=>u=.int .i64 0/\xp E' cb n0 vn' vk' H'
  | .error f=>u=.int .i64 (f:Int)/\xp E cb n0 vn' vk' H')/\tE cb vn vk H vn' vk' H'
def BE{E:aO}(hE:kW E)(hEl:E.length<=100000){cb n0:Nat}{vn vk p:ae}{H:aa}(A:xp E cb n0 vn vk H){k:Nat}{s:Bs}{e:Ex}{body els:List St}{line:Int}{ce:List ae}{vb ve:ae}
  (pt:mS H p (.int .u8 (k:Int)::.str s::(ce++[vb,ve,.int .i64 line]))) (hp:∀a,p=.ptr (some a)->a.b<n0) (hx:mL (·<n0) H e ce) (hok:lD e=true) (hk:k=1∨k=2∨k=3∨k=4∨k=5) (hs:e.size<=1000) (hd:e.deep<=40) :
  aq Tryz.prog aF 98 [ah cb 2 0,p] H (StO E cb n0 vn vk H (Ba E k s e)):=by
 obtain⟨c0,c1,c2,c3,rfl⟩:∃a b c d,ce=[a,b,c,d]:=by
  have:=hx.len
  match ce,this with
  | [a,b,c,d],_=>exact⟨a,b,c,d,rfl⟩
 have hlt:=A.lt;have hn0:=A.n0l;refine ak rfl VU rfl ?_;have nc:=pt.chk;have f2:=pt.fld 2;have le:al true 4 H (fp p 2)=some (.agg [c0,c1,c2,c3]):=by obtain⟨a,ea,hrd⟩:=pt.part (o:=2) (k:=4) (by simp);rw[ea];simp only[al];have hrd':bH H a 4=some [c0,c1,c2,c3]:=hrd;rw[hrd'];rfl
 have l0:al false 1 H (ah cb 2 0)=some vn:=aj A.row rfl rfl;have l1:al false 1 H (ah cb 2 1)=some vk:=aj A.row rfl rfl;simp only[c98,sC,seval,nc,f2,le,az,fld0,aA,l0,l1];refine(vA hE om A.ln A.lk A.ln.blk A.lk.blk rL om hx hok hs hd).mono ?_;rintro _ H1 ⟨rfl,E1⟩;have e1:=E1.next;have A1:=A.exts E1;have F1:tE cb vn vk H vn vk H1:=tE.exts E1;have pt1:=pt.same (H':=H1) λa ea=>E1.old _ (by have:=hp a ea;omega);have g0:=pt1.fld0;have g1:=pt1.fld 1;have q0:al false 1 H1 p=some (.int .u8 (k:Int)):=pt1.load0 rfl;have q1:al false 1 H1 (fp p 1)=some (.str s):=pt1.load (o:=1) rfl;have l10:al false 1 H1 (ah cb 2 0)=some vn:=aj A1.row rfl rfl;have l11:al false 1 H1 (ah cb 2 1)=some vk:=aj A1.row rfl rfl;unfold Ba;cases hty:lB E e with
 |error f=>have hf:=oK hty;have hf':¬(f:Int)=0:=om;simp only[sC,seval,oJ,bv,bu,hf'];exact⟨vn,vk,⟨tt,A1⟩,F1⟩
 |ok t=>
 have ht2:=qB hE hty;simp only[sC,seval,oJ,bv,bu,nc,g0,q0];have cn:=(aT.cel1 A1.ln A1.ln.blk).1;have ck:=(aT.cel1 A1.lk A1.lk.blk).1;rcases hk with rfl|rfl|rfl|rfl|rfl
 ·-- let
  have hh:dc E 1 s t=if s∈E.map (·.1)then .error 110 else .ok (E++[(s,t)]):=rfl;have cnn:fo H1.next H1 vn ((E.map (·.1)).map ae.str):=cn;simp only[sC,seval,Int.cast_ofNat_Int,nc,az,fld0,l10,g1,q1];refine(AD cnn s (by simp;omega)).mono ?_;rintro _ _ ⟨rfl,rfl⟩;rw[hh];by_cases hin:s∈E.map (·.1)
  ·have hc:(E.map (·.1)).contains s=true:=by simpa using hin
   simp only[sC,seval,hc,hin,if_true];exact⟨vn,vk,⟨tt,A1⟩,F1⟩
  have hc:(E.map (·.1)).contains s=false:=by simpa using hin
  obtain⟨Hr,hHr⟩:∃J,J=(H1.push (.cells [] 0 false)).push (.cells [] 0 false):=⟨_,rfl⟩;have nr:Hr.next=H1.next+2:=by rw[hHr];rfl
  have kr:∀c,c<H1.next->Hr.get c=H1.get c:=λc hc=>by rw[hHr,aa.get_push,if_neg (by rw[aV];omega),aB hc]
  have gr0:Hr.get H1.next=some (.cells [] 0 false):=by rw[hHr,aa.get_push,if_neg (by rw[aV];omega),aa.get_push,if_pos rfl]
  have gr1:Hr.get (H1.next+1)=some (.cells [] 0 false):=by rw[hHr,aa.get_push,if_pos (by rw[aV])]
  have Er:aS H1.next H1 Hr:=⟨om,kr⟩;have Ar:=A1.exts Er;obtain⟨H2,fl1,n2,g2,k2⟩:=ju gr0 (len:=1) (z:=[.str []]) (ofs:=[(0,1)]) (l:=[.str s]) (xs:=[.str s]) rfl;have bN:=A1.ln.blk;have bK:=A1.lk.blk;have A2:xp E cb n0 vn vk H2:=Ar.ext om (k2 cb om) (bN.mono λb hb=>k2 b om) (bK.mono λb hb=>k2 b om);have s2:gz 1 H2 (.slice (some ⟨H1.next,1,0⟩) 1 (.known 1))=some (1,[.str s]):=kz g2;obtain⟨vn',H3,a3,L3,n3,b3,k3⟩:=A2.ln.many s2 rfl rfl om (bytes:=16) om om;have k3':∀c,c<H2.next->bx vn (c≠·)->H3.get c=H2.get c:=k3;have bcb:bx vn (cb≠·):=A.bn.mono λb hb=>om;have r3:be H3 cb [vn,vk]:=A2.row.same (k3 cb om bcb);have gr13:H3.get (H1.next+1)=some (.cells [] 0 false):=by rw[k3 _ om (bN.mono λb hb=>om),k2 _ om];exact gr1
  have lk3:aT 1 H3 vk (iu E) E.length:=A2.lk.same n3 λa j r e=>k3 _ (by have:=bK a j r e;omega) (A.ap.mono λb hb=>(hb a j r e).symm);obtain⟨H4,fl2,n4,g4,k4⟩:=ju gr13 (len:=1) (z:=[.int .u8 0]) (ofs:=[(0,1)]) (l:=[co t]) (xs:=[co t]) rfl;have s4:gz 1 H4 (.slice (some ⟨H1.next+1,1,0⟩) 1 (.known 1))=some (1,[co t]):=kz g4;have lk4:aT 1 H4 vk (iu E) E.length:=lk3.same om (bK.mono λb hb=>k4 b om);obtain⟨vk',H5,a5,L5,n5,b5,k5⟩:=lk4.many s4 rfl rfl om (bytes:=1) om om;have ckb:bx vk (cb≠·):=A.bk.mono λb hb=>om;have r5:be H5 cb [vn,vk]:=r3.same (by rw[k5 cb om ckb,k4 cb om]);obtain⟨H6,m6,r6,n6,k6⟩:=bQ r5 (n:=2) rfl (i:=0) om (x:=vn') L3.one (l':=[vn',vk]) rfl;obtain⟨H7,m7,r7,n7,k7⟩:=bQ r6 (n:=2) rfl (i:=1) om (x:=vk') L5.one (l':=[vn',vk']) rfl;have fl1':kj (.fill H1.next (.lit 1 [.str []] [(0,1)])) Hr [.str s]=some (.slice (some ⟨H1.next,1,0⟩) 1 (.known 1),H2):=fl1;have fl2':kj (.fill (H1.next+1) (.lit 1 [.int .u8 0] [(0,1)])) H3 [co t]=some (.slice (some ⟨H1.next+1,1,0⟩) 1 (.known 1),H4):=fl2;have ptr:mS Hr p _:=pt1.same λa ea=>kr _ (by have:=hp a ea;omega);have qr1:al false 1 Hr (fp p 1)=some (.str s):=ptr.load (o:=1) rfl;have lr0:al false 1 Hr (ah cb 2 0)=some vn:=aj Ar.row rfl rfl;have lr1:al false 1 Hr (ah cb 2 1)=some vk:=aj Ar.row rfl rfl;have l20:al false 1 H2 (ah cb 2 0)=some vn:=aj A2.row rfl rfl;have l21:al false 1 H2 (ah cb 2 1)=some vk:=aj A2.row rfl rfl;have l31:al false 1 H3 (ah cb 2 1)=some vk:=aj r3 rfl rfl;have l41:al false 1 H4 (ah cb 2 1)=some vk:=aj (r3.same (k4 cb om)) rfl rfl;have bv3:=b3 (λx=>x<H1.next/\(n0<=x/\x≠cb)/\bx vk (x≠·)) (λa j r e=>⟨bN a j r e,A.bn a j r e,A.ap a j r e⟩);have bv5:=b5 (λx=>x<H1.next/\(n0<=x/\x≠cb)) (λa j r e=>⟨bK a j r e,A.bk a j r e⟩);have apN:∀{x:ae},(∀c,cg x=some c->H1.next+1≠c)->mV .apart [.slice (some ⟨H1.next+1,1,0⟩) 1 (.known 1),x]=some (.bool true):=λh=>jH (pa _ h);have p1:=apN (x:=.slice (some ⟨H1.next,1,0⟩) 1 (.known 1)) λc hc=>by simp only[cg,sJ]at hc;omega
  have p2:=apN (x:=ah cb 2 0) λc hc=>by simp only[cg,ah,sJ]at hc;omega
  have p3:=apN (x:=ah cb 2 1) λc hc=>by simp only[cg,ah,sJ]at hc;omega
  have p4:=apN (x:=fp p 1) λc hc=>by have:c<n0:=y6 (P:=(·<n0)) hp 1 c hc;omega
  have p5:=apN (x:=vn) λc hc=>by have:=fh bN A1.ln c hc;omega
  have p6:=apN (x:=vn') λc hc=>by have:=fh bv3 L3 c hc;rcases this with⟨this,_⟩|this<;>omega
  simp only[sC,seval,hc,hin,if_false];refine er ?_;simp only[aH,dT,bp,iE,jF,<- hHr];simp only[sR,sC,seval,nc,az,fld0,aA,lr0,g1,qr1,fl1',a3,l31,fl2',a5,m6,m7];simp only[ci,cj,bP,dE,cm,cQ,and_true,true_and,List.map_cons,List.map_nil,sC,seval,nc,az,fld0,aA];have aN:=aT.aeq A1.ln;have aK:=aT.aeq A1.lk;refine⟨⟨⟨_,rfl,λ_=>⟨_,l20,aN⟩⟩,⟨_,rfl,λ_=>⟨_,lr1,aK⟩⟩,⟨_,rfl,λ_=>⟨_,l21,aK⟩⟩,⟨_,rfl,λ_=>⟨_,l41,aK⟩⟩⟩,?_⟩;simp only[sC,seval,p1,p2,p3,p4,p5,p6];have hL3:=L3.blk;have hL5:=L5.blk;rw[ux E s t]at L3;rw[uy]at L5;have kn:bx vn' λc=>H7.get c=H3.get c:=λa j r e=>by
   have h3:=hL3 a j r e;have hc:=bv3 a j r e;have hb:a.b≠cb:=by rcases hc with⟨_,⟨_,hc⟩,_⟩|hc<;>omega
   have hv:bx vk (a.b≠·):=by
    rcases hc with⟨_,_,hc⟩|hc
    ·exact hc
    ·exact bK.mono λb hb=>om
   have h1:a.b≠H1.next+1:=by rcases hc with⟨hc,_⟩|hc<;>omega
   show H7.get a.b=H3.get a.b;rw[k7 _ hb,k6 _ hb,k5 _ om hv,k4 _ h1]
  have kk:bx vk' λc=>H7.get c=H5.get c:=λa j r e=>by
   have hc:=bv5 a j r e;have hb:a.b≠cb:=by rcases hc with⟨_,_,hc⟩|hc<;>omega
   show H7.get a.b=H5.get a.b;rw[k7 _ hb,k6 _ hb]
  have hEl2:(E++[(s,t)]).length=E.length+1:=by simp
  refine⟨vn',vk',⟨tt,⟨r7,om,hn0,by rw[hEl2];exact L3.same om kn,by rw[hEl2];exact L5.same om kk,?_,?_,?_⟩⟩,F1.trans ⟨om,?_,?_,?_⟩⟩
  ·exact bv3.mono λx hx=>by
    rcases hx with⟨_,hx,_⟩|hx
    ·exact hx
    ·exact⟨om,om⟩
  ·exact bv5.mono λx hx=>by
    rcases hx with⟨_,hx⟩|hx
    ·exact hx
    ·exact⟨om,om⟩
  ·intro a j r e;have h3:=hL3 a j r e;have hc:=bv3 a j r e;refine(b5 (a.b≠·) ?_).mono λx hx=>?_
   ·rcases hc with⟨_,_,hc⟩|hc
    ·exact hc
    ·exact bK.mono λb hb=>om
   ·rcases hx with hx|hx
    ·exact hx
    ·omega
  ·intro c h1 h2 h3 h4;rw[k7 c h2,k6 c h2,k5 c om h4,k4 c om,k3 c om h3,k2 c om,kr c h1]
  ·intro P hP;exact(b3 P hP).mono λx hx=>by
    rcases hx with hx|hx
    ·exact .inl hx
    ·exact .inr om
  ·intro P hP;exact(b5 P hP).mono λx hx=>by
    rcases hx with hx|hx
    ·exact .inl hx
    ·exact .inr om
 ·-- set
  have hh:dc E 2 s t=(match bB s E with
   |none=>.error 110
   |some i=>if i<4 then .error 110 else match E[i]? with
    |some x=>if x.2=t then .ok E else .error 111
    |none=>.error 110):=rfl
  simp only[sC,seval,Int.cast_ofNat_Int,nc,az,fld0,l10,g1,q1];refine(uz cn s om).mono ?_;rintro _ _ ⟨rfl,rfl⟩;rw[hh];unfold xF;cases hf:bB s E with
  |none=>simp only[sC,seval];exact⟨vn,vk,⟨tt,A1⟩,F1⟩
  |some i=>
   by_cases h4:i<4
   ·have h4':(i:Int)<4:=om;simp only[sC,seval,h4',h4,if_true];exact⟨vn,vk,⟨tt,A1⟩,F1⟩
   ·have h4':¬(i:Int)<4:=om;obtain⟨ty,hty2⟩:=jD hf;have hil:=(Xy.1 hty2).1;have i2:=ck.idx .i64 (i:=i) (by rw[kI];omega);have q2:=ck.load (i:=i) (x:=co ty) (by simp[iu,hty2]);simp only[co]at q2;simp only[sC,seval,h4',h4,if_false,az,aA,l11,i2,q2,hty2,co];by_cases he:ty=t
    ·subst he;simp only[sC,seval];exact⟨vn,vk,⟨tt,A1⟩,F1⟩
    ·have he':¬(ty:Int)=(t:Int):=om;simp only[sC,seval,he',he];exact⟨vn,vk,⟨tt,A1⟩,F1⟩
 ·have hh:dc E 3 s t=if t=2 then .error 111 else .ok E:=rfl;rw[hh];rcases ht2 with rfl|rfl
  ·simp only[sC,seval,Int.cast_ofNat_Int,co];exact⟨vn,vk,⟨tt,A1⟩,F1⟩
  ·simp only[sC,seval,Int.cast_ofNat_Int,co];exact⟨vn,vk,⟨tt,A1⟩,F1⟩
 ·have hh:dc E 4 s t=if t=2 then .error 111 else .ok E:=rfl;rw[hh];rcases ht2 with rfl|rfl
  ·simp only[sC,seval,Int.cast_ofNat_Int,co];exact⟨vn,vk,⟨tt,A1⟩,F1⟩
  ·simp only[sC,seval,Int.cast_ofNat_Int,co];exact⟨vn,vk,⟨tt,A1⟩,F1⟩
 ·have hh:dc E 5 s t=if t=1 then .error 111 else .ok E:=rfl;rw[hh];rcases ht2 with rfl|rfl
  ·simp only[sC,seval,Int.cast_ofNat_Int,co];exact⟨vn,vk,⟨tt,A1⟩,F1⟩
  ·simp only[sC,seval,Int.cast_ofNat_Int,co];exact⟨vn,vk,⟨tt,A1⟩,F1⟩
open Go.Abs Go.Abs.S
def N8(E:aO)(n:Nat):(gh E).take n=gh (E.take n):=by simp[gh,List.map_take]
def Oz(E:aO)(n:Nat):(iu E).take n=iu (E.take n):=by simp[iu,List.map_take]
def LY{E:aO}{cb n0 ob sb n:Nat}{vn vk:ae}{H:aa}(A:xp E cb n0 vn vk H)(ho:be H ob [ah cb 2 0])(hs:be H sb [.int .i64 (n:Int)])(hob:ob≠cb)(hsb:sb≠cb)(hn:n<=E.length) :
  aq Tryz.prog aF 3169 [ah ob 1 0,ah sb 1 0] H λ_ H'=>∃vn' vk',xp (E.take n) cb n0 vn' vk' H'/\tE cb vn vk H vn' vk' H'/\H'.next=H.next/\∀c,c≠cb->H'.get c=H.get c:=by
 refine ak rfl Qw rfl ?_;have lo:al false 1 H (ah ob 1 0)=some (ah cb 2 0):=aj ho rfl rfl;have ls:al false 1 H (ah sb 1 0)=some (.int .i64 (n:Int)):=aj hs rfl rfl;have l0:al false 1 H (ah cb 2 0)=some vn:=aj A.row rfl rfl;have l1:al false 1 H (ah cb 2 1)=some vk:=aj A.row rfl rfl;obtain⟨vn',sn,ln',bn'⟩:=A.ln.cut om hn;obtain⟨vk',sk,lk',bk'⟩:=A.lk.cut om hn;rw[Nat.mul_one,N8]at ln';rw[Nat.mul_one,Oz]at lk';obtain⟨H1,m1,r1,n1,k1⟩:=bQ A.row (n:=2) rfl (i:=0) om (x:=vn') ln'.one (l':=[vn',vk]) rfl;obtain⟨H2,m2,r2,n2,k2⟩:=bQ r1 (n:=2) rfl (i:=1) om (x:=vk') lk'.one (l':=[vn',vk']) rfl;simp only[Qc,sC,seval,az,fld0,aA,lo,ls,l0,l1,sn,sk,m1,m2];have k12:∀c,c≠cb->H2.get c=H.get c:=λc hc=>by rw[k2 c hc,k1 c hc]
 have b1:=bn' _ A.bn;have b2:=bk' _ A.bk;have ht:(E.take n).length=n:=by rw[XT];omega
 refine⟨_,rfl,vn',vk',⟨r2,by have:=A.lt;omega,A.n0l,by rw[ht];exact ln'.same om (b1.mono λx hx=>k12 x hx.2),by rw[ht];exact lk'.same om (b2.mono λx hx=>k12 x hx.2),b1,b2,(bn' _ A.ap).mono λx hx=>bk' _ hx⟩,⟨om,λc _ h _ _=>k12 c h,λP hP=>(bn' P hP).mono λ_ q=>.inl q,λP hP=>(bk' P hP).mono λ_ q=>.inl q⟩,om,k12⟩
def iA(f:lY):List ae:=[.int .i64 (f.1:Int),.int .i64 f.2]
def fi{α:Type}(o:Except lY α):lY:=match o with
 | .ok _=>(0,0)
 | .error f=>f
def LiO(E:aO)(cb n0:Nat)(vn vk:ae)(H:aa)(f:lY)(u:ae)(H':aa):Prop:=u=.agg (iA f)/\∃vn' vk',xp E cb n0 vn' vk' H'/\tE cb vn vk H vn' vk' H'
def Xs(N:Nat):Prop:=∀{l:List St} {C:List ae} {v:ae} {E:aO} {cb n0:Nat} {vn vk:ae} {H:aa},au l<=N->xp E cb n0 vn vk H->eM (·<n0) H 9 v l.length C->dY (·<n0) H l C->cA l=true->bw l<=40->kW E->E.length+au l<=100000 ->
 aq Tryz.prog aF 54 [ah cb 2 0,v] H (LiO E cb n0 vn vk H (fi (ft E false l)))
def Gw{E:aO}{k:Nat}{s:Bs}{e:Ex}{f:Nat}(h:Ba E k s e=.error f):f≠0:=by
 unfold Ba at h;cases he:lB E e with
 |error g=>rw[he]at h;simp only[Except.error.injEq]at h;subst h;exact oK he
 |ok t=>
  rw[he]at h;simp only[dc]at h
  repeat' split at h
  all_goals first|(simp at h;done)|(simp only[Except.error.injEq]at h;omega)
mutual
def OT{E:aO}:∀{x:St} {f:lY},xJ E x=.error f->f.1≠0
 | .mk k s e body els line,f,h=>by
  simp only[xJ]at h;cases hs:Ba E k s e with
  |error g=>simp only[hs,Except.error.injEq]at h;subst h;exact Gw hs
  |ok E'=>
   cases hb:ft E' false body with
   |error g=>simp only[hs,hb,Except.error.injEq]at h;subst h;exact iR hb
   |ok _=>
    cases he:ft E' false els with
    |error g=>simp only[hs,hb,he,Except.error.injEq]at h;subst h;exact iR he
    |ok _=>simp[hs,hb,he]at h
def iR{E:aO}:∀{b:Bool} {l:List St} {f:lY},ft E b l=.error f->f.1≠0
 |b,[],f,h=>by simp[ft]at h
 |b,x::l,f,h=>by
  simp only[ft]at h;by_cases hb:b=true
  ·rw[if_pos hb]at h;simp only[Except.error.injEq]at h;subst h;simp
  ·rw[if_neg hb]at h;cases hs:xJ E x with
   |error g=>rw[hs]at h;simp only[Except.error.injEq]at h;subst h;exact OT hs
   |ok E'=>rw[hs]at h;exact iR h
end
def Gv{E E':aO}{k:Nat}{s:Bs}{e:Ex}(h:Ba E k s e=.ok E'):E.length<=E'.length/\E'.length<=E.length+1:=by
 unfold Ba at h;cases he:lB E e with
 |error g=>rw[he]at h;simp at h
 |ok t=>
  rw[he]at h;simp only[dc]at h
  repeat' split at h
  all_goals first|(simp at h;done)|(simp only[Except.ok.injEq]at h;subst h;simp)
def vC{E E':aO}{k n:Nat}{s:Bs}{e:Ex}(h:Ba E k s e=.ok E')(hn:n<=E.length):E'.take n=E.take n:=by
 unfold Ba at h;cases he:lB E e with
 |error g=>rw[he]at h;simp at h
 |ok t=>
  rw[he]at h;simp only[dc]at h
  repeat' split at h
  all_goals first|(simp at h;done)|(simp only[Except.ok.injEq]at h;subst h;first|rfl|rw[List.take_append_of_le_length hn])
def jr(l:List St):Nat->Bool
 |0=>false
 |i+1=>match l[i]? with
  |some x=>decide (x.kind=5)
  |none=>false
def xp.other{E:aO}{cb n0:Nat}{vn vk:ae}{H H':aa}(A:xp E cb n0 vn vk H)(b:Nat)(k:∀c,c≠b->H'.get c=H.get c)(hn:H.next<=H'.next)(hb:b≠cb)(h1:bx vn (·≠b))(h2:bx vk (·≠b)):xp E cb n0 vn vk H':=A.ext hn (k cb (λe=>hb e.symm)) (h1.mono λx hx=>k x hx) (h2.mono λx hx=>k x hx)
def tE.otherF{cb:Nat}{vn vk vn' vk':ae}{H H1 H2:aa}(F:tE cb vn vk H vn' vk' H1)(b:Nat)(k:∀c,c≠b->H2.get c=H1.get c)(hn:H1.next<=H2.next)(hb:H.next<=b):tE cb vn vk H vn' vk' H2:=⟨Nat.le_trans F.next hn,λc h1 h2 h3 h4=>by rw[k c om,F.old c h1 h2 h3 h4],F.bn,F.bk⟩
def CH{T:bZ}{H:aa}(g:Bool)(n i:Nat)(K:ae->aa->Prop):fq [.cell g n i] K .ret T H=dW (al g n H (T i)) λv=>K v H:=by
 rw[Ay];simp only[pj];cases al g n H (T i)with
 |none=>simp[dW]
 |some v=>simp only[aQ];rfl
def oT{k:Nat}{s:Bs}{e:Ex}{body els:List St}{line:Int}(h:Bb (.mk k s e body els line)=true):cM k s body.length els.length=true/\lD e=true/\cA body=true/\cA els=true:=by simpa[Bb,and_assoc]using h
def Ah{l:List St}(h:cA l=true){e:St}(he:e∈l):Bb e=true:=by
 induction l with
 |nil=>simp at he
 |cons x l ih=>
  simp only[cA,XA]at h;rcases List.mem_cons.1 he with rfl|he
  ·exact h.1
  ·exact ih h.2 he
def mz{l:List St}{e:St}(he:e∈l):e.deep<=bw l:=by
 induction l with
 |nil=>simp at he
 |cons x l ih=>
  simp only[bw];rcases List.mem_cons.1 he with rfl|he
  ·omega
  ·have:=ih he;omega
def GR{H:aa}{ob cb:Nat}(h:be H ob [ah cb 2 0]):al false 1 H (ah ob 1 0)=some (ah cb 2 0):=aj h rfl rfl
set_option maxHeartbeats 1000000 in
def Of{N:Nat}(hN:N<=1000)(ih:∀M,M<N->Xs M):Xs N:=by
 intro l C v E cb n0 vn vk H hsz A z1 z2 hok hd hE hl;have hlt:=A.lt;have hn0:=A.n0l;obtain⟨H1,m1,r1,n1,k1⟩:=aC H [ah cb 2 0] (n:=1) rfl;obtain⟨H2,m2,r2,n2,k2⟩:=aC H1 [.int .i64 0,.int .i64 0] (n:=2) rfl;obtain⟨H3,m3,r3,n3,k3⟩:=aC H2 [.int .i64 0] (n:=1) rfl;obtain⟨H4,m4,r4,n4,k4⟩:=bQ r3 (n:=1) rfl (i:=0) om (x:=.int .i64 (E.length:Int)) rfl (l':=[.int .i64 (E.length:Int)]) rfl;have E2:aS H.next H H2:=⟨om,λc hc=>by rw[k2 c om,k1 c om]⟩;have E4:aS H.next H H4:=⟨om,λc hc=>by rw[k4 c om,k3 c om,E2.old c hc]⟩;have A4:=A.exts E4;obtain⟨ob,hob⟩:∃b,b=H.next:=⟨_,rfl⟩;obtain⟨fb,hfb⟩:∃b,b=H1.next:=⟨_,rfl⟩;obtain⟨sb,hsb⟩:∃b,b=H2.next:=⟨_,rfl⟩;rw[<- hob]at m1 r1 k1;rw[<- hfb]at m2 r2 k2;rw[<- hsb]at m3 r3 k3 m4 r4 k4;have ro4:be H4 ob [ah cb 2 0]:=r1.same (by rw[k4 _ om,k3 _ om,k2 _ om]);have rf4:be H4 fb [.int .i64 0,.int .i64 0]:=r2.same (by rw[k4 _ om,k3 _ om]);have lo2:al false 1 H2 (ah ob 1 0)=some (ah cb 2 0):=aj (r1.same (k2 _ om)) rfl rfl;have lN2:al false 1 H2 (ah cb 2 0)=some vn:=aj (A.exts E2).row rfl rfl;have lnn:=A.ln.len;have lv:=z1.len;have fq:∀(K:aa) (E':aO) (vn1 vk1:ae) (f:lY),xp E' cb n0 vn1 vk1 K->tE cb vn vk H vn1 vk1 K->E'.take E.length=E->E.length<=E'.length->be K ob [ah cb 2 0]->be K sb [.int .i64 (E.length:Int)]->be K fb (iA f)->H.next<=fb->fi (ft E false l)=f ->
   aq Tryz.prog aF 3169 [ah ob 1 0,ah sb 1 0] K λ_ K'=>al true 2 K' (ah fb 2 0)=some (.agg (iA f))/\LiO E cb n0 vn vk H (fi (ft E false l)) (.agg (iA f)) K':=by
  intro K E' vn1 vk1 f AK FK htk hlE rO rS rF hfb2 hf;have hlK:=AK.lt;refine(LY AK rO rS om om hlE).mono ?_;rintro _ K' ⟨vn2,vk2,A2,F2,n2,k2⟩;rw[htk]at A2;exact⟨aw (rF.same (k2 _ om)) rfl,by rw[hf],vn2,vk2,A2,FK.trans F2⟩
 have bq0:bx vn λb=>b<H.next:=A.ln.blk;have bq1:bx vk λb=>b<H.next:=A.lk.blk;refine ak rfl Wj rfl ?_;simp only[c54,sC,seval,fH,m1,m2,lo2,az,fld0,lN2,lnn,m3,m4,lv];refine aM (λm (T:bZ) K=>∃(i:Nat) (Ei:aO) (vn1 vk1:ae),m=l.length-i/\i<=l.length/\T 1=v/\T 2=ah ob 1 0/\T 4=ah fb 2 0/\T 5=ah sb 1 0/\T 18=.int .i64 (l.length:Int)/\T 19=.int .i64 (i:Int) /\
   xp Ei cb n0 vn1 vk1 K/\tE cb vn vk H vn1 vk1 K/\(bx vn1 λb=>b<H.next∨H4.next<=b)/\(bx vk1 λb=>b<H.next∨H4.next<=b)/\Ei.take E.length=E/\E.length<=Ei.length/\kW Ei/\Ei.length<=E.length+au (l.take i)/\H4.next<=K.next/\be K ob [ah cb 2 0]/\be K sb [.int .i64 (E.length:Int)]/\be K fb [.int .i64 0,.int .i64 0]/\ft E false l=ft Ei (jr l i) (l.drop i)) l.length
  ⟨0,E,vn,vk,rfl,Nat.zero_le _,by simp only[sC,seval];try rfl,by simp only[sC,seval];try rfl,by simp only[sC,seval];try rfl,by simp only[sC,seval];try rfl,by simp only[sC,seval];try rfl,by simp only[sC,seval];try rfl,A4,tE.exts E4,bq0.mono λx hx=>.inl hx,bq1.mono λx hx=>.inl hx,by rw[List.take_length],Nat.le_refl _,hE,by simp[au],Nat.le_refl _,ro4,r4,rf4,rfl⟩ ?_
 rintro m T K ⟨i,Ei,vn1,vk1,rfl,hi,t1,t2,t4,t5,t18,t19,AK,FK,bq3,bq4,htk,hEl2,hEi,hEil,nK,ro,rs,rf,hck⟩;have nf:∀x,(x<H.next∨H4.next<=x)->x≠fb:=λx hx=>om;by_cases hlt:i<l.length
 case neg=>
  obtain rfl:i=l.length:=om;have hlt':¬(l.length:Int)<(l.length:Int):=om;have bz:aJ [.int .i64 0,.int .i64 0] []=some (.agg [.int .i64 0,.int .i64 0]):=rfl;obtain⟨K5,m5,r5,n5,k5⟩:=am rf (n:=2) rfl (xs:=[.int .i64 0,.int .i64 0]) rfl rfl;have ff:fi (ft E false l)=(0,0):=by rw[hck,List.drop_length];rfl
  simp only[sC,seval,t1,t2,t4,t5,t18,t19,hlt',bz,m5];refine(fq K5 Ei vn1 vk1 (0,0) (AK.other fb k5 om om (bq3.mono nf) (bq4.mono nf)) (FK.otherF fb k5 om om) htk hEl2 (ro.same (k5 _ om)) (rs.same (k5 _ om)) r5 om ff).mono ?_;rintro _ K6 ⟨l6,o6⟩;simp only[sC,seval,t4,l6,CH,aQ];exact o6
 have hlt':(i:Int)<(l.length:Int):=om;obtain⟨x,he⟩:∃e,l[i]?=some e:=⟨_,Xx hlt⟩;have hts:l.take (i+1)=l.take i++[x]:=by rw[List.take_add_one,he];rfl
 have hdrop:l.drop i=x::l.drop (i+1):=by rw[<- (Xy.1 he).2,<- List.drop_eq_getElem_cons hlt]
 have hmem:=XG he;have hsm:=dl hmem;have hdm:=mz hmem;have hlenl:=db l;have lowK:∀c,c<n0->c<n0/\K.get c=H.get c:=λc hc=>⟨hc,FK.low A hc⟩;have z1K:=z1.mono lowK;have z2K:=z2.mono lowK;have ix:=z1K.idx hlt;have pt:=z1K.pt hlt;have pblk:=z1K.blk hlt;have wi:IntKind.i64.wrap ((i:Int)+1)=((i+1:Nat):Int):=fT i 1 om;have hx3:=z2K.at he;have hokx:=Ah hok hmem;have hszt:au (l.take i)+x.size<=au l:=by
  have:au (l.take (i+1))<=au l:=by
   conv=>rhs;rw[<- List.take_append_drop (i+1) l,cZ]
   omega
  rw[hts,cZ]at this;simp only[au]at this;omega
 have joinF:∀{vn2 vk2:ae} {K2:aa},tE cb vn1 vk1 K vn2 vk2 K2->tE cb vn vk H vn2 vk2 K2/\(bx vn2 λb=>b<H.next∨H4.next<=b)/\(bx vk2 λb=>b<H.next∨H4.next<=b):=λF=>⟨FK.trans F,(F.bn _ bq3).mono λx hx=>by rcases hx with(hx|hx)|hx<;>omega,(F.bk _ bq4).mono λx hx=>by rcases hx with(hx|hx)|hx<;>omega⟩;have keep:∀{vn2 vk2:ae} {K2:aa} {c:Nat},tE cb vn1 vk1 K vn2 vk2 K2->c<K.next->c≠cb->(H.next<=c/\c<H4.next)->K2.get c=K.get c:=λF h1 h2 h3=>F.old _ h1 h2 (bq3.mono λx hx=>om) (bq4.mono λx hx=>om);obtain⟨k,sx,e,body,els,line⟩:=x;obtain⟨ce,vb,Cb,ve,Ce,hcell,x1,y1,y2,y3,y4⟩:=hx3;rw[hcell]at pt;obtain⟨hlf,hokE,hokB,hokL⟩:=oT hokx;have hk5:=uE hlf;have hsz:(St.mk k sx e body els line).size=e.size+au body+au els+1:=rfl;have hdp:(St.mk k sx e body els line).deep=max e.deep (max (bw body) (bw els))+1:=rfl;have hnx:jr l (i+1)=decide (k=5):=by simp only[jr,he];rfl
 have nc:=pt.chk;have fl8:=pt.fld 8;obtain⟨c0,c1,c2,c3,rfl⟩:∃a b c d,ce=[a,b,c,d]:=by
  have:=x1.len
  match ce,this with
  | [a,b,c,d],_=>exact⟨a,b,c,d,rfl⟩
 by_cases hi0:i=0
 case' pos=>
  have h0:¬(0:Int)<(i:Int):=om;have hprev:jr l i=false:=by rw[hi0];rfl
  simp only[sC,seval,t1,t2,t4,t5,t18,t19,hlt',ix,h0,GR ro]
 case' neg=>
  obtain⟨j,hj⟩:∃j,i=j+1:=⟨i-1,om⟩;have h0:(0:Int)<(i:Int):=om;have wj:IntKind.i64.wrap ((i:Int)-1)=(j:Int):=iP;have hjl:j<l.length:=om;obtain⟨y,hy⟩:∃e,l[j]?=some e:=⟨_,Xx hjl⟩;have ixj:=z1K.idx hjl;have ptj:=z1K.pt hjl;have hyx:=z2K.at hy;obtain⟨k',s',e',body',els',line'⟩:=y;obtain⟨ce',vb',Cb',ve',Ce',hcell',_⟩:=hyx;rw[hcell']at ptj;have fj0:=ptj.fld0;have ldj:al false 1 K (cz 9 v j)=some (.int .u8 (k':Int)):=ptj.load0 rfl;have hpv:jr l i=decide (k'=5):=by rw[hj];simp only[jr,hy];rfl
  by_cases hk':k'=5
  ·subst hk';have hprev:jr l i=true:=by rw[hpv];rfl
   simp only[Int.cast_ofNat_Int]at ldj;have ff:fi (ft E false l)=(113,line):=by rw[hck,hdrop];simp only[ft,hprev];rfl
   obtain⟨K3,m3,r3,n3,k3⟩:=am rf (n:=2) rfl (xs:=[.int .i64 0,.int .i64 0]) rfl rfl;obtain⟨K4,m4,r4,n4,k4⟩:=bQ r3 (n:=2) rfl (i:=0) om (x:=.int .i64 113) rfl (l':=[.int .i64 113,.int .i64 0]) rfl;obtain⟨K5,m5,r5,n5,k5⟩:=bQ r4 (n:=2) rfl (i:=1) om (x:=.int .i64 line) rfl (l':=iA (113,line)) rfl;have k25:∀c,c≠fb->K5.get c=K.get c:=λc hc=>by rw[k5 c hc,k4 c hc,k3 c hc]
   have pl2:al false 1 K (fp (cz 9 v i) 8)=some (.int .i64 line):=pt.load (o:=8) rfl;have pl3:al false 1 K3 (fp (cz 9 v i) 8)=some (.int .i64 line):=(pt.same (H':=K3) λa e=>k3 _ (by have:=pblk a e;omega)).load (o:=8) rfl;have pl4:al false 1 K4 (fp (cz 9 v i) 8)=some (.int .i64 line):=(pt.same (H':=K4) λa e=>by rw[k4 _ (by have:=pblk a e;omega),k3 _ (by have:=pblk a e;omega)]).load (o:=8) rfl;simp only[sC,seval,t1,t2,t4,t5,t18,t19,hlt',ix,h0,wj,ixj,fj0,ldj];refine dI rfl ?_;simp only[sR,sC,seval,t1,t2,t4,t5,t18,t19,nc,fl8,az,fld0,aA,pl2,m3,m4,m5];simp only[ci,cj,bP,cm,cQ,and_true,true_and,List.map_cons,List.map_nil,sC,seval,t1,t2,t4,t5,t18,t19,nc,fl8,az,fld0,aA];refine⟨⟨⟨_,rfl,λ_=>⟨_,pl3,dM _ _⟩⟩,⟨_,rfl,λ_=>⟨_,pl4,dM _ _⟩⟩⟩,?_⟩;refine(fq K5 Ei vn1 vk1 (113,line) (AK.other fb k25 om om (bq3.mono nf) (bq4.mono nf)) (FK.otherF fb k25 om om) htk hEl2 (ro.same (k25 _ om)) (rs.same (k25 _ om)) r5 om ff).mono ?_;rintro _ K6 ⟨l6,o6⟩;simp only[sC,seval,t4,l6,CH,aQ];exact o6
  have hprev:jr l i=false:=by rw[hpv];exact decide_eq_false hk'
  have hk5':¬(k':Int)=5:=om;simp only[sC,seval,t1,t2,t4,t5,t18,t19,hlt',ix,h0,wj,ixj,fj0,ldj,hk5',GR ro]
 all_goals
  refine(BE hEi om AK (vb:=vb) (ve:=ve) (body:=body) (els:=els) (line:=line) pt (λa e=>pblk a e) x1 hokE hk5 om om).mono ?_;rintro u K2 ⟨vn2,vk2,ho,F2⟩;have e2:=F2.next;obtain⟨FH2,q1,q2⟩:=joinF F2;have low2:∀c,c<n0->K2.get c=K.get c:=λc hc=>F2.low AK hc;have pt2:=pt.same (H':=K2) λa e=>low2 _ (pblk a e);have ro2:be K2 ob [ah cb 2 0]:=ro.same (keep F2 om om om);have rs2:be K2 sb [.int .i64 (E.length:Int)]:=rs.same (keep F2 om om om);have rf2:be K2 fb [.int .i64 0,.int .i64 0]:=rf.same (keep F2 om om om);cases hst:Ba Ei k sx e with
  |error f=>
   rw[hst]at ho;obtain⟨rfl,A2⟩:=ho;have hf0:f≠0:=Gw hst;have hf':¬(f:Int)=0:=om;have ff:fi (ft E false l)=(f,line):=by rw[hck,hdrop];simp only[ft,xJ,hprev,hst];rfl
   obtain⟨K3,m3,r3,n3,k3⟩:=am rf2 (n:=2) rfl (xs:=[.int .i64 0,.int .i64 0]) rfl rfl;obtain⟨K4,m4,r4,n4,k4⟩:=bQ r3 (n:=2) rfl (i:=0) om (x:=.int .i64 (f:Int)) rfl (l':=[.int .i64 (f:Int),.int .i64 0]) rfl;obtain⟨K5,m5,r5,n5,k5⟩:=bQ r4 (n:=2) rfl (i:=1) om (x:=.int .i64 line) rfl (l':=iA (f,line)) rfl;have k25:∀c,c≠fb->K5.get c=K2.get c:=λc hc=>by rw[k5 c hc,k4 c hc,k3 c hc]
   have pl2:al false 1 K2 (fp (cz 9 v i) 8)=some (.int .i64 line):=pt2.load (o:=8) rfl;have pl3:al false 1 K3 (fp (cz 9 v i) 8)=some (.int .i64 line):=(pt2.same (H':=K3) λa e=>k3 _ (by have:=pblk a e;omega)).load (o:=8) rfl;have pl4:al false 1 K4 (fp (cz 9 v i) 8)=some (.int .i64 line):=(pt2.same (H':=K4) λa e=>by rw[k4 _ (by have:=pblk a e;omega),k3 _ (by have:=pblk a e;omega)]).load (o:=8) rfl;simp only[sC,seval,t1,t2,t4,t5,t18,t19,hf'];refine dI rfl ?_;simp only[sR,sC,seval,t1,t2,t4,t5,t18,t19,nc,fl8,az,fld0,aA,pl2,m3,m4,m5];simp only[ci,cj,bP,cm,cQ,and_true,true_and,List.map_cons,List.map_nil,sC,seval,t1,t2,t4,t5,t18,t19,nc,fl8,az,fld0,aA];refine⟨⟨⟨_,rfl,λ_=>⟨_,pl3,dM _ _⟩⟩,⟨_,rfl,λ_=>⟨_,pl4,dM _ _⟩⟩⟩,?_⟩;refine(fq K5 Ei vn2 vk2 (f,line) (A2.other fb k25 om om (q1.mono nf) (q2.mono nf)) (FH2.otherF fb k25 om om) htk hEl2 (ro2.same (k25 _ om)) (rs2.same (k25 _ om)) r5 om ff).mono ?_;rintro _ K6 ⟨l6,o6⟩;simp only[sC,seval,t4,l6,CH,aQ];exact o6
  |ok E2=>
  rw[hst]at ho;obtain⟨rfl,A2⟩:=ho;have hE2:=NN hEi hst;have hlen2:=Gv hst;have z0:(0:Int)=0:=rfl;have lb2:al false 1 K2 (fp (cz 9 v i) 6)=some vb:=pt2.load (o:=6) rfl;simp only[sC,seval,t1,t2,t4,t5,t18,t19];obtain⟨Kr,hKr⟩:∃J,J=K2.push (.cells [.int .i64 0,.int .i64 0] 0 false):=⟨_,rfl⟩;have nr:Kr.next=K2.next+1:=by rw[hKr];rfl
  have gr:Kr.get K2.next=some (.cells [.int .i64 0,.int .i64 0] 0 false):=by rw[hKr,aa.get_push,if_pos rfl]
  have Er:aS K2.next K2 Kr:=⟨om,λc hc=>by rw[hKr,aB hc]⟩;have Ar:=A2.exts Er;have lor:al false 1 Kr (ah ob 1 0)=some (ah cb 2 0):=aj (ro2.same (Er.old _ om)) rfl rfl;have lbr:al false 1 Kr (fp (cz 9 v i) 6)=some vb:=(pt2.same (H':=Kr) λa e=>Er.old _ (by have:=pblk a e;omega)).load (o:=6) rfl;have lowr:∀c,c<n0->c<n0/\Kr.get c=K.get c:=λc hc=>⟨hc,by rw[Er.old c om,low2 c hc]⟩;have fl6:=pt.fld 6;refine er ?_;simp only[aH,dT,bp,iE,j6,<- hKr];simp only[sR,sC,seval,t1,t2,t4,t5,t18,t19,lor,nc,fl6,lbr];refine(ih (au body) om rL Ar (y1.mono lowr) (y2.mono lowr) hokB om hE2 om).mono ?_;rintro _ K3 ⟨rfl,vn3,vk3,A3,F3⟩;have e3:=F3.next;have F23:tE cb vn2 vk2 K2 vn3 vk3 K3:=(tE.exts Er).trans F3;obtain⟨FH3,q3,q4⟩:=joinF (F2.trans F23);have gr3:be K3 K2.next [.int .i64 0,.int .i64 0]:=⟨0,(F3.old _ om om (A2.ln.blk.mono λx hx=>om) (A2.lk.blk.mono λx hx=>om)).trans gr,Nat.zero_le _⟩;have clr:ec Kr K2.next _ none=some (ah K2.next 2 0):=fG gr rfl;have clg:∀{J:aa},J.get K2.next=some (.cells [.int .i64 0,.int .i64 0] 0 false)->ec J K2.next [.int .i64 0,.int .i64 0] none=some (ah K2.next 2 0):=λh=>fG h rfl;have cl3:=clg ((F3.old _ om om (A2.ln.blk.mono λx hx=>om) (A2.lk.blk.mono λx hx=>om)).trans gr);obtain⟨K4,m4,r4,n4,k4⟩:=am gr3 (n:=2) rfl (xs:=iA (fi (ft E2 false body))) rfl rfl;have A4:xp E2 cb n0 vn3 vk3 K4:=A3.other K2.next k4 om om (by
   exact(F3.bn (·≠K2.next) (A2.ln.blk.mono λx hx=>om)).mono λx hx=>om) (by
   exact(F3.bk (·≠K2.next) (A2.lk.blk.mono λx hx=>om)).mono λx hx=>om)
  have F24:tE cb vn2 vk2 K2 vn3 vk3 K4:=⟨om,λc h1 h2 h3 h4=>by rw[k4 c om,F23.old c h1 h2 h3 h4],F23.bn,F23.bk⟩;have F4:=F2.trans F24;obtain⟨FH4,q5,q6⟩:=joinF F4;have ro4:be K4 ob [ah cb 2 0]:=ro.same (keep F4 om om om);have rs4:be K4 sb [.int .i64 (E.length:Int)]:=rs.same (keep F4 om om om);have rf4:be K4 fb [.int .i64 0,.int .i64 0]:=rf.same (keep F4 om om om);have lf0:al false 1 K4 (ah K2.next 2 0)=some (.int .i64 ((fi (ft E2 false body)).1:Int)):=aj r4 rfl rfl;have lfa:al true 2 K4 (ah K2.next 2 0)=some (.agg (iA (fi (ft E2 false body)))):=aw r4 rfl;simp only[sR,sC,seval,t1,t2,t4,t5,t18,t19,gj,cl3,m4];simp only[ci,cj,bP,dE,cm,cQ,and_true,true_and,List.map_cons,List.map_nil,sC,seval,t1,t2,t4,t5,t18,t19];refine⟨⟨_,rfl,λ_=>⟨_,clr,fS _ _ _⟩⟩,?_⟩;simp only[sC,seval,fld0,lf0];cases hb:ft E2 false body with
  |error f=>
   have hf0:f.1≠0:=iR hb;have hf':¬(f.1:Int)=0:=om;have ff:fi (ft E false l)=f:=by rw[hck,hdrop];simp only[ft,xJ,hprev,hst,hb];rfl
   rw[hb]at lfa;obtain⟨K5,m5,r5,n5,k5⟩:=am rf4 (n:=2) rfl (xs:=iA f) rfl rfl;simp only[sC,seval,fi,hf',t1,t2,t4,t5,t18,t19,lfa,m5];refine(fq K5 E2 vn3 vk3 f (A4.other fb k5 om om (q5.mono nf) (q6.mono nf)) (FH4.otherF fb k5 om om) (by rw[vC hst hEl2];exact htk) om (ro4.same (k5 _ om)) (rs4.same (k5 _ om)) r5 om ff).mono ?_;rintro _ K6 ⟨l6,o6⟩;simp only[sC,seval,t4,l6,CH,aQ];exact o6
  |ok Eb=>
  simp only[sC,seval,fi,Int.cast_ofNat_Int,t1,t2,t4,t5,t18,t19];have low4:∀c,c<n0->K4.get c=K.get c:=λc hc=>F4.low AK hc;have pt4:=pt.same (H':=K4) λa e=>low4 _ (pblk a e);obtain⟨Ks,hKs⟩:∃J,J=K4.push (.cells [.int .i64 0,.int .i64 0] 0 false):=⟨_,rfl⟩;have ns:Ks.next=K4.next+1:=by rw[hKs];rfl
  have gs:Ks.get K4.next=some (.cells [.int .i64 0,.int .i64 0] 0 false):=by rw[hKs,aa.get_push,if_pos rfl]
  have Es:aS K4.next K4 Ks:=⟨om,λc hc=>by rw[hKs,aB hc]⟩;have As:=A4.exts Es;have los:al false 1 Ks (ah ob 1 0)=some (ah cb 2 0):=aj (ro4.same (Es.old _ om)) rfl rfl;have les:al false 1 Ks (fp (cz 9 v i) 7)=some ve:=(pt4.same (H':=Ks) λa e=>Es.old _ (by have:=pblk a e;omega)).load (o:=7) rfl;have lows:∀c,c<n0->c<n0/\Ks.get c=K.get c:=λc hc=>⟨hc,by rw[Es.old c om,low4 c hc]⟩;have fl7:=pt.fld 7;refine er ?_;simp only[aH,dT,bp,iE,j6,<- hKs];simp only[sR,sC,seval,t1,t2,t4,t5,t18,t19,los,nc,fl7,les];refine(ih (au els) om rL As (y3.mono lows) (y4.mono lows) hokL om hE2 om).mono ?_;rintro _ K5 ⟨rfl,vn5,vk5,A5,F5⟩;have e5:=F5.next;have gs5:=(F5.old _ om om (A4.ln.blk.mono λx hx=>om) (A4.lk.blk.mono λx hx=>om)).trans gs;have cls:∀{J:aa},J.get K4.next=some (.cells [.int .i64 0,.int .i64 0] 0 false)->ec J K4.next [.int .i64 0,.int .i64 0] none=some (ah K4.next 2 0):=λh=>fG h rfl;have cl5:=cls gs5;obtain⟨K6,m6,r6,n6,k6⟩:=am (H:=K5) (b:=K4.next) ⟨0,gs5,Nat.zero_le _⟩ (n:=2) rfl (xs:=iA (fi (ft E2 false els))) rfl rfl;have A6:xp E2 cb n0 vn5 vk5 K6:=A5.other K4.next k6 om om (by
   exact(F5.bn (·≠K4.next) (A4.ln.blk.mono λx hx=>om)).mono λx hx=>om) (by
   exact(F5.bk (·≠K4.next) (A4.lk.blk.mono λx hx=>om)).mono λx hx=>om)
  have F46:tE cb vn3 vk3 K4 vn5 vk5 K6:=by have F45:=(tE.exts (cb:=cb) (vn:=vn3) (vk:=vk3) Es).trans F5;exact⟨om,λc h1 h2 h3 h4=>by rw[k6 c om,F45.old c h1 h2 h3 h4],F45.bn,F45.bk⟩
  have F6:=F4.trans F46;obtain⟨FH6,q7,q8⟩:=joinF F6;have ro6:be K6 ob [ah cb 2 0]:=ro.same (keep F6 om om om);have rs6:be K6 sb [.int .i64 (E.length:Int)]:=rs.same (keep F6 om om om);have rf6:be K6 fb [.int .i64 0,.int .i64 0]:=rf.same (keep F6 om om om);have lg0:al false 1 K6 (ah K4.next 2 0)=some (.int .i64 ((fi (ft E2 false els)).1:Int)):=aj r6 rfl rfl;have lga:al true 2 K6 (ah K4.next 2 0)=some (.agg (iA (fi (ft E2 false els)))):=aw r6 rfl;simp only[sR,sC,seval,t1,t2,t4,t5,t18,t19,gj,cl5,m6];simp only[ci,cj,bP,dE,cm,cQ,and_true,true_and,List.map_cons,List.map_nil,sC,seval,t1,t2,t4,t5,t18,t19];refine⟨⟨_,rfl,λ_=>⟨_,cls gs,fS _ _ _⟩⟩,?_⟩;simp only[sC,seval,fld0,lg0];cases hc:ft E2 false els with
  |error f=>
   have hf0:f.1≠0:=iR hc;have hf':¬(f.1:Int)=0:=om;have ff:fi (ft E false l)=f:=by rw[hck,hdrop];simp only[ft,xJ,hprev,hst,hb,hc];rfl
   rw[hc]at lga;obtain⟨K7,m7,r7,n7,k7⟩:=am rf6 (n:=2) rfl (xs:=iA f) rfl rfl;simp only[sC,seval,fi,hf',t1,t2,t4,t5,t18,t19,lga,m7];refine(fq K7 E2 vn5 vk5 f (A6.other fb k7 om om (q7.mono nf) (q8.mono nf)) (FH6.otherF fb k7 om om) (by rw[vC hst hEl2];exact htk) om (ro6.same (k7 _ om)) (rs6.same (k7 _ om)) r7 om ff).mono ?_;rintro _ K8 ⟨l8,o8⟩;simp only[sC,seval,t4,l8,CH,aQ];exact o8
  |ok Ec=>
  simp only[sC,seval,fi,Int.cast_ofNat_Int,t1,t2,t4,t5,t18,t19,wi];refine⟨l.length-(i+1),om,i+1,E2,vn5,vk5,rfl,om,tt,tt,tt,tt,tt,tt,A6,FH6,q7,q8,by rw[vC hst hEl2];exact htk,om,hE2,?_,om,ro6,rs6,rf6,?_⟩
  ·rw[hts,cZ];simp only[au];omega
  ·rw[hck,hdrop,hnx];simp only[ft,xJ,hprev,hst,hb,hc];rfl
open Go.Abs Go.Abs.S
def Q1(N:Nat):N<=1000->Xs N:=by
 induction N using Nat.strongRecOn with
 |_ N ih=>exact λh=>Of h λM hM=>ih M hM om
def yp(x:St):∀l:List St,gt (l++[x])=Ev x
 | []=>rfl
 | [_]=>rfl
 |_::y::l=>by have:=yp x (y::l);simp only[XQ]at this ⊢;simp only[gt];exact this
def uF{l:List St}(h:l≠[]):∃x j,l.length=j+1/\l[j]?=some x/\gt l=Ev x:=by obtain⟨l',x,rfl⟩:∃l' x,l=l'++[x]:=⟨l.dropLast,l.getLast h,(List.dropLast_concat_getLast h).symm⟩;exact⟨x,l'.length,by simp,by simp,yp x l'⟩
def xw:∀(N:Nat) {l:List St} {C:List ae} {v:ae} {P:Nat->Prop} {H:aa},au l<=N->N<=1000000->eM P H 9 v l.length C->lV P H l C->aq Tryz.prog aF 55 [v] H λu H'=>u=.bool (gt l)/\H=H':=by
 intro N;induction N with
 |zero=>
  intro l C v P H hsz hN z1 z2;have hl0:l=[]:=by
   cases l with
   |nil=>rfl
   |cons x l=>have:=ee x;simp only[au]at hsz;omega
  subst hl0;have ln:=z1.len;have h0:(([]:List St).length:Int)=0:=rfl;refine ak rfl Qv rfl ?_;simp only[Sq,sC,seval,ln,h0];exact⟨tt,tt⟩
 |succ N ih=>
  intro l C v P H hsz hN z1 z2;have ln:=z1.len;by_cases hl0:l=[]
  ·subst hl0;have h0:(([]:List St).length:Int)=0:=rfl;refine ak rfl Qv rfl ?_;simp only[Sq,sC,seval,ln,h0];exact⟨tt,tt⟩
  obtain⟨x,j,hj,he,hr⟩:=uF hl0;have hjl:j<l.length:=om;have hlen:=db l;have hn0:¬(l.length:Int)=0:=om;have wj:IntKind.i64.wrap ((l.length:Int)-1)=(j:Int):=iP;have ix:=z1.idx hjl;have pt:=z1.pt hjl;have hsm:=dl (XG he);have hx:=z2.at he;obtain⟨k,s,e,body,els,line⟩:=x;obtain⟨ce,vb,Cb,ve,Ce,hcell,x1,y1,y2,y3,y4⟩:=hx;obtain⟨c0,c1,c2,c3,rfl⟩:∃a b c d,ce=[a,b,c,d]:=by
   have:=x1.len
   match ce,this with
   | [a,b,c,d],_=>exact⟨a,b,c,d,rfl⟩
  rw[hcell]at pt;have hsz2:(St.mk k s e body els line).size=e.size+au body+au els+1:=rfl;have hrs:Ev (.mk k s e body els line)=(decide (k=5)||(decide (k=3)&&(gt body&&gt els))):=rfl;have nc:=pt.chk;have f0:=pt.fld0;have f6:=pt.fld 6;have f7:=pt.fld 7;have l0:al false 1 H (cz 9 v j)=some (.int .u8 (k:Int)):=pt.load0 rfl;have l6:al false 1 H (fp (cz 9 v j) 6)=some vb:=pt.load (o:=6) rfl;have l7:al false 1 H (fp (cz 9 v j) 7)=some ve:=pt.load (o:=7) rfl;rw[hr,hrs];refine ak rfl Qv rfl ?_;by_cases h5:k=5
  ·subst h5;simp only[Sq,sC,seval,ln,hn0,wj,ix,nc,f0,l0,Int.cast_ofNat_Int];exact⟨tt,tt⟩
  have h5':¬(k:Int)=5:=om;by_cases h3:k=3
  ·subst h3;simp only[Sq,sC,seval,ln,hn0,wj,ix,nc,f0,l0,Int.cast_ofNat_Int,f6,l6];refine(ih om om y1 y2).mono ?_;rintro _ _ ⟨rfl,rfl⟩;cases hb:gt body with
   |false=>simp only[sC,seval];exact⟨tt,tt⟩
   |true=>simp only[sC,seval,nc,f7,l7];refine(ih om om y3 y4).mono ?_;rintro _ _ ⟨rfl,rfl⟩;simp only[sC,seval];exact⟨by simp,tt⟩
  ·have h3':¬(k:Int)=3:=om;simp only[Sq,sC,seval,ln,hn0,wj,ix,nc,f0,l0,h5',h3',h5,h3];exact⟨tt,tt⟩
def BF{l:List St}{C:List ae}{v:ae}{n0:Nat}{H:aa}(z1:eM (·<n0) H 9 v l.length C)(z2:dY (·<n0) H l C)(hn:n0<=H.next) :
  aq Tryz.prog aF 27 [v] H λu H'=>u=.agg (iA (dm l))/\aS H.next H H':=by
 refine ak rfl WG rfl ?_;obtain⟨H1,m1,r1,n1,k1⟩:=aC H [.int .i64 0,.int .i64 0] (n:=2) rfl;have k1':∀c,c<H.next->H1.get c=H.get c:=λc hc=>k1 c om;have km1:∀b,b<n0->b<H1.next/\H1.get b=H.get b:=λb hb=>⟨om,k1' b om⟩;obtain⟨rb,hrb⟩:∃b,b=H.next:=⟨_,rfl⟩;rw[<- hrb]at m1 r1 k1;simp only[c27,sC,seval,m1];refine(tT (z1.mono km1) (z2.xss.mono km1)).mono ?_;rintro _ H2 ⟨rfl,E2⟩;have e2:=E2.next;have r2:=r1.same (E2.old rb om);unfold dm;cases hr:d8 l with
 |false=>have bb:aJ [.int .i64 0,.int .i64 0] [(0,1,.int .i64 103)]=some (.agg [.int .i64 103,.int .i64 0]):=rfl;obtain⟨H3,m3,r3,n3,k3⟩:=am r2 (n:=2) rfl (xs:=[.int .i64 103,.int .i64 0]) rfl rfl;simp only[sC,seval,bb,m3];refine gb _ _ _ _ (v:=.agg [.int .i64 103,.int .i64 0]) (by simp only[sC,seval];exact aw r3 rfl) ?_;exact⟨rfl,om,λc hc=>by rw[k3 c om,E2.old c om,k1' c hc]⟩
 |true=>
 have hok:cA l=true:=by simp only[d8,XA]at hr;exact hr.1
 have hfit:au l<=1000/\bw l<=40:=by simp only[d8,hX,XA,XK]at hr;exact hr.2
 obtain⟨H3,hH3⟩:∃J,J=H2.push (.cells (gh ba) 0 false):=⟨_,rfl⟩;have n3:H3.next=H2.next+1:=by rw[hH3];rfl
 obtain⟨H4,hH4⟩:∃J,J=H3.push (.cells (iu ba) 0 false):=⟨_,rfl⟩;have n4:H4.next=H3.next+1:=by rw[hH4];rfl
 have b3:aL 4 [.str []] H2 [(0,1,.str [117]),(1,1,.str [118]),(2,1,.str [112]),(3,1,.str [110])]=some (.slice (some ⟨H2.next,4,0⟩) 4 (.known 4),H3):=by rw[hH3];rfl
 have b4:aL 4 [.int .u8 0] H3 [(0,1,.int .u8 1),(1,1,.int .u8 1),(2,1,.int .u8 2),(3,1,.int .u8 2)]=some (.slice (some ⟨H3.next,4,0⟩) 4 (.known 4),H4):=by rw[hH4];rfl
 have L3:aT 1 H3 (.slice (some ⟨H2.next,4,0⟩) 4 (.known 4)) (gh ba) 4:=by rw[hH3];exact aT.built (m:=1) (k:=4) H2 (xs:=gh ba) rfl
 have L4:aT 1 H4 (.slice (some ⟨H3.next,4,0⟩) 4 (.known 4)) (iu ba) 4:=by rw[hH4];exact aT.built (m:=1) (k:=4) H3 (xs:=iu ba) rfl
 have k34:∀c,c<H2.next->H4.get c=H2.get c:=λc hc=>by rw[hH4,aB om,hH3,aB hc]
 obtain⟨H5,m5,r5,n5,k5⟩:=aC H4 [.slice (some ⟨H2.next,4,0⟩) 4 (.known 4),.slice (some ⟨H3.next,4,0⟩) 4 (.known 4)] (n:=2) rfl;have bb:aJ [.slice none 0 (.known 0),.slice none 0 (.known 0)] [(0,1,.slice (some ⟨H2.next,4,0⟩) 4 (.known 4)),(1,1,.slice (some ⟨H3.next,4,0⟩) 4 (.known 4))]=some (.agg [.slice (some ⟨H2.next,4,0⟩) 4 (.known 4),.slice (some ⟨H3.next,4,0⟩) 4 (.known 4)]):=rfl;have bN:bx (.slice (some ⟨H2.next,4,0⟩) 4 (.known 4)) (·=H2.next):=cp rfl;have bK:bx (.slice (some ⟨H3.next,4,0⟩) 4 (.known 4)) (·=H3.next):=cp rfl;have A5:xp ba H4.next n0 (.slice (some ⟨H2.next,4,0⟩) 4 (.known 4)) (.slice (some ⟨H3.next,4,0⟩) 4 (.known 4)) H5:=⟨r5,om,om,L3.same om (bN.mono λx hx=>by rw[k5 x om,hH4,aB om]),L4.same om (bK.mono λx hx=>k5 x om),bN.mono λx hx=>⟨om,om⟩,bK.mono λx hx=>⟨om,om⟩,bN.mono λx hx=>bK.mono λy hy=>om⟩
 have k25:∀c,c<H2.next->H5.get c=H2.get c:=λc hc=>by rw[k5 c om,k34 c hc]
 have k05:∀c,c<n0->c<n0/\H5.get c=H.get c:=λc hc=>⟨hc,by rw[k25 c om,E2.old c om,k1' c om]⟩;simp only[sC,seval,b3,b4,bb,aG,m5];refine(Q1 (au l) om rL A5 (z1.mono k05) (z2.mono k05) hok hfit.2 kW.given (by show 4+_<=_;omega)).mono ?_;rintro _ H6 ⟨rfl,vn',vk',A6,F6⟩;have e6:=F6.next;have old6:∀c,c<H2.next->H6.get c=H2.get c:=λc hc=>by rw[F6.old c om om (bN.mono λx hx=>om) (bK.mono λx hx=>om),k25 c hc]
 have old6':∀c,c<H.next->H6.get c=H.get c:=λc hc=>by rw[old6 c om,E2.old c om,k1' c hc]
 have r6:=r2.same (old6 rb om);obtain⟨H7,m7,r7,n7,k7⟩:=aC H6 [.int .i64 0,.int .i64 0] (n:=2) rfl;obtain⟨H8,m8,r8,n8,k8⟩:=am r7 (n:=2) rfl (xs:=iA (fi (ft ba false l))) rfl rfl;have k68:∀c,c<H6.next->H8.get c=H6.get c:=λc hc=>by rw[k8 c om,k7 c om]
 have r68:=r6.same (k68 rb om);have l8:al false 1 H8 (ah H6.next 2 0)=some (.int .i64 ((fi (ft ba false l)).1:Int)):=aj r8 rfl rfl;have l8a:al true 2 H8 (ah H6.next 2 0)=some (.agg (iA (fi (ft ba false l)))):=aw r8 rfl;simp only[sC,seval,m7,m8,fld0,l8];cases hck:ft ba false l with
 |error f=>have hf0:=iR hck;have hf':¬(f.1:Int)=0:=om;rw[hck]at l8a;obtain⟨H9,m9,r9,n9,k9⟩:=am r68 (n:=2) rfl (xs:=iA f) rfl rfl;simp only[sC,seval,fi,hf',l8a,m9];refine gb _ _ _ _ (v:=.agg (iA f)) (by simp only[sC,seval];exact aw r9 rfl) ?_;exact⟨rfl,om,λc hc=>by rw[k9 c om,k68 c om,old6' c hc]⟩
 |ok Ef=>
  have km8:∀b,b<n0->b<n0/\H8.get b=H.get b:=λb hb=>⟨hb,by rw[k68 b om,old6' b om]⟩;simp only[sC,seval,fi,Int.cast_ofNat_Int];refine(xw (au l) rL om (z1.mono km8) (z2.xss.mono km8)).mono ?_;rintro _ _ ⟨rfl,rfl⟩;cases hret:gt l with
  |false=>have bb2:aJ [.int .i64 0,.int .i64 0] [(0,1,.int .i64 113)]=some (.agg [.int .i64 113,.int .i64 0]):=rfl;obtain⟨H9,m9,r9,n9,k9⟩:=am r68 (n:=2) rfl (xs:=[.int .i64 113,.int .i64 0]) rfl rfl;simp only[sC,seval,bb2,m9];refine gb _ _ _ _ (v:=.agg [.int .i64 113,.int .i64 0]) (by simp only[sC,seval];exact aw r9 rfl) ?_;exact⟨rfl,om,λc hc=>by rw[k9 c om,k68 c om,old6' c hc]⟩
  |true=>have bb2:aJ [.int .i64 0,.int .i64 0] []=some (.agg [.int .i64 0,.int .i64 0]):=rfl;obtain⟨H9,m9,r9,n9,k9⟩:=am r68 (n:=2) rfl (xs:=[.int .i64 0,.int .i64 0]) rfl rfl;simp only[sC,seval,bb2,m9];refine gb _ _ _ _ (v:=.agg [.int .i64 0,.int .i64 0]) (by simp only[sC,seval];exact aw r9 rfl) ?_;exact⟨rfl,om,λc hc=>by rw[k9 c om,k68 c om,old6' c hc]⟩
open Go.Abs Go.Abs.S
noncomputable section
set_option maxRecDepth 100000
def c20:cf:=by
 refine(λx (_:cN Tryz.prog 20=some x)=>x) ?a ?b
 case b=>cbv;rfl
def WN:cN Tryz.prog 20=some c20:=by kernel_rfl
def c44:cf:=by
 refine(λx (_:cN Tryz.prog 44=some x)=>x) ?a ?b
 case b=>cbv;rfl
def Wu:cN Tryz.prog 44=some c44:=by kernel_rfl
def c45:cf:=⟨40,zq [zm 6 0,zc 7 6,zf 8 5 7,zl 9 8,zh 10 9,zm 4 10] (.seq (zq [zm 11 1,zh 12 11,zo 13 (.mv (zi 0))] (.block 0 (.loop (zq [zb 14 .lss 13 12] (.seq (.cond (.t 14) .skip (.exit 0)) (.seq (.block 1 (zq [zm 15 13,zm 5 15] (.reg [zm 16 0,zm 17 1,zm 18 5,zo 19 (.idxA 9 (.t 17) (.t 18)),zx 20 87 [.t 16,.t 19]]))) (.reg [zk 21 .add 13 1,zm 13 21]))))))) (.reg [zm 22 0,zm 23 0,zm 24 0,zc 25 24,zf 26 5 25,zl 27 26,zm 28 4,zo 29 (.sl 1 (.t 27) none (some (.t 28)) none),zm 30 0,zc 31 30,zf 32 6 31,zl 33 32,zm 34 4,zo 35 (.sl 1 (.t 33) none (some (.t 34)) none),zc 36 22,zf 37 5 36,zs 37 29,zc 38 23,zf 39 6 38,zs 39 35])),[]⟩
def Wt:cN Tryz.prog 45=some c45:=by kernel_rfl
def c87:cf:=⟨145,zq [zm 11 0,zc 12 11,zf 13 5 12,zl 14 13,zh 15 14,zm 4 15] (zq [zm 16 0,zc 17 16,zf 18 0 17,zf 19 2 18,zl 20 19,zh 21 20,zm 5 21] (zq [zm 22 0,zm 23 1,zc 24 23,zf 25 2 24,zm 26 4,zx 27 127 [.t 22,.t 25,.t 26]] (zq [zm 28 1,zc 29 28,zf 30 0 29,zl 31 30] (.block 0 (zq [zo 33 (.bin .eql (.t 31) (zu 1)),zm 32 33] (.cond (.t 32) (zq [zm 35 1,zc 36 35,zf 37 2 36,zt 38 4 37,zm 39 0,zc 40 39,zf 41 5 40,zl 42 41,zm 43 0,zc 44 43,zf 45 6 44,zl 46 45,zx 47 128 [.t 38,.t 42,.t 46],zm 34 47,ze 48 0 34,ze 49 1 34,zm 6 48,zm 7 49] (.seq (.draw [zm 50 0,zm 51 0,zm 52 0,zc 53 52,zf 54 5 53,zl 55 54,zm 56 1,zc 57 56,zf 58 1 57,zl 59 58,zo 60 (.hf (.fill 0 (.lit 1 [.str []] [(0,1)])) [.t 59]),zo 61 (.append 1 16 (.t 55) (.t 60)),zm 62 0,zc 63 62,zf 64 6 63,zl 65 64,zm 66 6,zo 67 (.hf (.fill 0 (.lit 1 [zU 0] [(0,1)])) [.t 66]),zy 68 65 67,zc 69 50,zf 70 5 69,zs 70 61,zc 71 51,zf 72 6 71,zs 72 68] [[],[],[],[],[],[11],[],[],[],[],[],[],[],[],[],[10,11,18],[],[],[],[],[],[],[],[],[]]) (.reg [zp (.pf .apart [.t 67,.t 60]),zp (.pf .apart [.t 67,.t 54]),zp (.pf .apart [.t 67,.t 58]),zp (.pf .apart [.t 67,.t 64]),zp (.pf .apart [.t 67,.t 55]),zp (.pf .apart [.t 67,.t 60]),zp (.pf .apart [.t 67,.t 61]),zp (.pf .apart [.t 67,.t 54]),zp (.pf .apart [.t 67,.t 58]),zp (.pf .apart [.t 67,.t 64])]))) (zq [zo 74 (.bin .eql (.t 31) (zu 2)),zm 73 74] (.cond (.t 73) (.reg [zm 75 0,zm 76 0,zc 77 76,zf 78 5 77,zl 79 78,zm 80 1,zc 81 80,zf 82 1 81,zl 83 82,zx 84 130 [.t 79,.t 83],zm 85 4,zx 86 129 [.t 75,zu 2,.t 84,.t 85,zi 0]]) (zq [zo 88 (.bin .eql (.t 31) (zu 3)),zm 87 88] (.cond (.t 87) (zq [zm 89 0,zm 90 4,zx 91 131 [.t 89,zu 33,.t 90],zm 8 91] (zq [zm 92 0,zm 93 1,zc 94 93,zf 95 6 94,zl 96 95,zx 97 45 [.t 92,.t 96]] (zr [zm 98 1,zc 99 98,zf 100 7 99,zl 101 100,zh 102 101,zk 103 .eql 102 0] 103 (zq [zm 104 8,zo 105 (.callv (.t 104) [])] (.exit 0)) .skip (zq [zo 9 (.mv (.f 132))] (zr [zm 106 1,zc 107 106,zf 108 6 107,zl 109 108,zx 110 133 [.t 109],zo 111 (.un .not (.t 110))] 111 (.reg [zm 112 0,zx 113 131 [.t 112,zu 32,zi 0],zm 9 113]) .skip (zq [zm 114 8,zo 115 (.callv (.t 114) [])] (zq [zm 116 0,zm 117 1,zc 118 117,zf 119 7 118,zl 120 119,zx 121 45 [.t 116,.t 120]] (.reg [zm 122 9,zo 123 (.callv (.t 122) [])])))))))) (zq [zo 125 (.bin .eql (.t 31) (zu 4)),zm 124 125] (.cond (.t 124) (zq [zm 126 0,zm 127 4,zx 128 131 [.t 126,zu 33,.t 127],zm 10 128] (zq [zm 129 0,zm 130 1,zc 131 130,zf 132 6 131,zl 133 132,zx 134 45 [.t 129,.t 133]] (zq [zm 135 0,zm 136 5,zx 137 129 [.t 135,zu 32,zi 0,zi 0,.t 136]] (.reg [zm 138 10,zo 139 (.callv (.t 138) [])])))) (zq [zo 141 (.bin .eql (.t 31) (zu 5)),zm 140 141] (.cond (.t 140) (.reg [zm 142 0,zm 143 4,zx 144 129 [.t 142,zu 34,.t 143,zi 0,zi 0]]) .skip)))))))))))))),[]⟩
def V1:cN Tryz.prog 87=some c87:=by kernel_rfl
def U3:cf:=⟨103,zq [zm 8 0,zm 9 0,zc 10 9,zf 11 0 10,zf 12 1 11,zl 13 12,zm 14 2,zk 15 .add 14 1,zo 16 (.pf (.mm true) [.t 13,.t 15]),zc 17 8,zf 18 0 17,zf 19 1 18,zs 19 16] (.seq (zq [zm 20 1,zc 21 20,zf 22 3 21,zl 23 22,zh 24 23,zo 25 (.mv (zi 0))] (.block 0 (.loop (zq [zb 26 .lss 25 24] (.seq (.cond (.t 26) .skip (.exit 0)) (.seq (.block 1 (zq [zm 27 25,zm 6 27] (.reg [zm 28 0,zm 29 1,zc 30 29,zf 31 3 30,zl 32 31,zm 33 6,zo 34 (.idxA 4 (.t 32) (.t 33)),zm 35 2,zm 36 6,zb 37 .add 35 36,zx 38 127 [.t 28,.t 34,.t 37]]))) (.reg [zk 39 .add 25 1,zm 25 39]))))))) (zq [zm 40 1,zc 41 40,zf 42 0 41,zl 43 42] (.block 2 (zq [zo 45 (.bin .eql (.t 43) (zu 1)),zm 44 45] (.cond (.t 44) (.reg [zm 46 0,zm 47 2,zm 48 0,zm 49 1,zc 50 49,zf 51 2 50,zl 52 51,zx 53 165 [.t 48,.t 52],zx 54 129 [.t 46,zu 1,.t 47,.t 53,zi 0]]) (zq [zo 56 (.bin .eql (.t 43) (zu 2)),zm 55 56] (.cond (.t 55) (.reg [zm 57 0,zm 58 2,zm 59 0,zc 60 59,zf 61 5 60,zl 62 61,zm 63 1,zc 64 63,zf 65 1 64,zl 66 65,zx 67 130 [.t 62,.t 66],zx 68 129 [.t 57,zu 2,.t 58,.t 67,zi 0]]) (zq [zo 70 (.bin .eql (.t 43) (zu 3)),zm 69 70] (.cond (.t 69) (.reg [zm 71 0,zm 72 1,zm 73 2,zx 74 166 [.t 71,.t 72,.t 73]]) (zq [zo 76 (.bin .eql (.t 43) (zu 4)),zm 75 76] (.cond (.t 75) (.seq (.draw [zm 77 0,zc 78 77,zf 79 3 78,zl 80 79,zm 81 1,zc 82 81,zf 83 1 82,zl 84 83,zo 85 (.hf (.mLook .str false (.agg [zU 0,zI 0])) [.t 80,.t 84]),zo 7 (.new [zU 0,zI 0]),zp (.store 2 (.t 7) (.t 85))] [[],[],[],[],[],[],[],[],[],[8],[]]) (zq [zf 86 1 7,zl 87 86,zk 88 .eql 87 2] (.cond (.t 88) (.reg [zm 89 0,zf 90 0 7,zl 91 90,zm 92 2,zm 93 2,zm 94 2,zk 95 .add 94 1,zx 96 129 [.t 89,.t 91,.t 92,.t 93,.t 95]]) (.reg [zm 97 0,zf 98 0 7,zl 99 98,zm 100 2,zm 101 2,zx 102 129 [.t 97,.t 99,.t 100,.t 101,zi 0]])))) .skip))))))))))),[]⟩
def TG:cN Tryz.prog 127=some U3:=by kernel_rfl
def RG:cf:=by
 refine(λx (_:cN Tryz.prog 165=some x)=>x) ?a ?b
 case b=>cbv;rfl
def Ta:cN Tryz.prog 165=some RG:=by kernel_rfl
def U1:cf:=by
 refine(λx (_:cN Tryz.prog 129=some x)=>x) ?a ?b
 case b=>cbv;rfl
def TE:cN Tryz.prog 129=some U1:=by kernel_rfl
def Ml:cf:=⟨67,zr [zm 9 1,zc 10 9,zf 11 3 10,zl 12 11,zh 13 12,zk 14 .eql 13 1] 14 (zq [zo 6 (.mv (zu 7))] (zr [zm 15 1,zc 16 15,zf 17 1 16,zl 18 17,zo 19 (.bin .eql (.t 18) (.c (.str [33])))] 19 (.reg [zo 6 (.mv (zu 8))]) .skip (zq [zm 20 0,zm 21 6,zm 22 2,zm 23 2,zx 24 129 [.t 20,.t 21,.t 22,.t 23,zi 0]] .ret))) .skip (zr [zm 25 1,zc 26 25,zf 27 1 26,zl 28 27,zo 29 (.bin .eql (.t 28) (.c (.str [42])))] 29 (zq [zm 31 1,zc 32 31,zf 33 3 32,zl 34 33,zo 35 (.idxA 4 (.t 34) (zi 0)),zt 36 4 35,zm 37 0,zc 38 37,zf 39 5 38,zl 40 39,zm 41 0,zc 42 41,zf 43 6 42,zl 44 43,zx 45 128 [.t 36,.t 40,.t 44],zm 30 45,ze 46 0 30,ze 47 1 30,zm 7 46,zm 8 47] (zq [zm 48 7,zo 49 (.bin .eql (.t 48) (zu 2))] (.cond (.t 49) (zq [zm 50 0,zm 51 2,zm 52 2,zk 53 .add 52 1,zm 54 2,zx 55 129 [.t 50,zu 5,.t 51,.t 53,.t 54]] .ret) .skip))) .skip (.reg [zm 56 0,zm 57 1,zc 58 57,zf 59 1 58,zl 60 59,zx 61 187 [.t 60],zm 62 2,zm 63 2,zm 64 2,zk 65 .add 64 1,zx 66 129 [.t 56,.t 61,.t 62,.t 63,.t 65]])),[]⟩
def S0:cN Tryz.prog 166=some Ml:=by kernel_rfl
def tx:cf:=by
 refine(λx (_:cN Tryz.prog 187=some x)=>x) ?a ?b
 case b=>cbv;rfl
def mG:cN Tryz.prog 187=some tx:=by kernel_rfl
def U0:cf:=by
 refine(λx (_:cN Tryz.prog 131=some x)=>x) ?a ?b
 case b=>cbv;rfl
def TD:cN Tryz.prog 131=some U0:=by kernel_rfl
def UD:cf:=⟨16,.reg [zl 2 0,zc 3 2,zf 4 0 3,zf 5 2 4,zl 6 5,zl 7 1,zl 8 0,zc 9 8,zf 10 0 9,zf 11 2 10,zl 12 11,zh 13 12,zo 14 (.idxA 4 (.t 6) (.t 7)),zf 15 3 14,zs 15 13],[]⟩
def SX:cN Tryz.prog 170=some UD:=by kernel_rfl
def UZ:cf:=⟨0,.skip,[]⟩
def TC:cN Tryz.prog 132=some UZ:=by kernel_rfl
def Jp:cf:=by
 refine(λx (_:cN Tryz.prog 133=some x)=>x) ?a ?b
 case b=>cbv;rfl
def JL:cN Tryz.prog 133=some Jp:=by kernel_rfl
def c25:cf:=by
 refine(λx (_:cN Tryz.prog 25=some x)=>x) ?a ?b
 case b=>cbv;rfl
def WI:cN Tryz.prog 25=some c25:=by kernel_rfl
def c51:cf:=by
 refine(λx (_:cN Tryz.prog 51=some x)=>x) ?a ?b
 case b=>cbv;rfl
def Wm:cN Tryz.prog 51=some c51:=by kernel_rfl
def c95:cf:=⟨5,zq [zo 2 (.mv (.c (.str [])))] (zq [zm 3 0,zx 4 144 [.t 3],zm 2 4] .ret),[.t 2]⟩
def VW:cN Tryz.prog 95=some c95:=by kernel_rfl
def UQ:cf:=⟨5,zq [zo 2 (.mv (.c (.str [])))] (zq [zm 3 0,zx 4 176 [.t 3,zi 10],zm 2 4] .ret),[.t 2]⟩
def Tp:cN Tryz.prog 144=some UQ:=by kernel_rfl
def RB:cf:=by
 refine(λx (_:cN Tryz.prog 176=some x)=>x) ?a ?b
 case b=>cbv;rfl
def SP:cN Tryz.prog 176=some RB:=by kernel_rfl
def c52:cf:=⟨11,zq [zo 6 (.mv zn)] (zq [zm 7 0,zm 8 1,zm 9 2,zx 10 96 [.t 7,.t 8,.t 9],zm 6 10] .ret),[.t 6]⟩
def Wl:cN Tryz.prog 52=some c52:=by kernel_rfl
def W3:cf:=by
 refine(λx (_:cN Tryz.prog 96=some x)=>x) ?a ?b
 case b=>cbv;rfl
def VV:cN Tryz.prog 96=some W3:=by kernel_rfl
def Rr:cf:=by
 refine(λx (_:cN Tryz.prog 23=some x)=>x) ?a ?b
 case b=>cbv;rfl
def WK:cN Tryz.prog 23=some Rr:=by kernel_rfl
def Mk:cf:=by
 refine(λx (_:cN Tryz.prog 49=some x)=>x) ?a ?b
 case b=>cbv;rfl
def Wp:cN Tryz.prog 49=some Mk:=by kernel_rfl
def c91:cf:=by
 refine(λx (_:cN Tryz.prog 91=some x)=>x) ?a ?b
 case b=>cbv;rfl
def VZ:cN Tryz.prog 91=some c91:=by kernel_rfl
def W5:cf:=by
 refine(λx (_:cN Tryz.prog 92=some x)=>x) ?a ?b
 case b=>cbv;rfl
def VY:cN Tryz.prog 92=some W5:=by kernel_rfl
end
open Go.Abs Go.Abs.S
structure xP where
 o:Nat
 a:Int
 b:Int
 c:Int
def dj(R x:Int):Bool:=decide (0<=x)&&decide (x<R)
def Bt:List Nat:=[2,7,8,18,19,20,23,24,25,26,27,28]
def mZ:List Nat:=[3,4,5,6,9,10,11,12,13,14,15,16,21,22,29,30,31]
def jB(R:Int)(nk nc:Nat)(i:xP):Bool:=
 if i.o=1 then dj R i.a&&(dj nk i.b&&decide (i.c=0))
 else if i.o∈Bt then dj R i.a&&(dj R i.b&&decide (i.c=0))
 else if i.o∈mZ then dj R i.a&&(dj R i.b&&dj R i.c)
 else if i.o=17 then dj R i.a&&(dj R i.b&&(decide (i.b+2<R)&&decide (i.c=0)))
 else if i.o=32 then decide (i.a=0)&&(decide (i.b=0)&&dj nc i.c)
 else if i.o=33 then dj R i.a&&(decide (i.b=0)&&dj nc i.c)
 else if i.o=34 then dj R i.a&&(decide (i.b=0)&&decide (i.c=0))
 else false
def yE(l:List xP):Nat:=match l.getLast? with
 |some i=>i.o
 |none=>0
def Aj(R:Int)(nk:Nat)(l:List xP):Nat:=
 if R<4∨250<R then 120
 else if l.length=0∨65536<l.length∨65536<nk then 120
 else if l.all (jB R nk l.length)then(if yE l=32∨yE l=34 then 0 else 120)
 else 120
def gV(u:Nat):Bs:=if h:u<10 then [UInt8.ofNat (48+u)]else gV (u / 10)++[UInt8.ofNat (48+u % 10)]
termination_by u
decreasing_by omega
def cV(z:Int):Bs:=if z<0 then 45::gV z.natAbs else gV z.natAbs
def fN:List Bs:=
 [[99, 111, 110, 115, 116], [109, 111, 118, 101], [97, 100, 100], [115, 117, 98], [116, 105, 109, 101, 115], [111, 118, 101, 114], [110, 101, 103], [110, 111, 116], [101, 113], [110, 101], [108, 101], [103, 101], [108, 116], [103, 116],
  [97, 110, 100], [111, 114], [118, 101, 99], [120], [121], [122], [100, 111, 116], [99, 114, 111, 115, 115], [117, 110, 105, 116], [115, 113, 114, 116], [115, 105, 110], [99, 111, 115], [97, 98, 115], [102, 108, 111, 111, 114],
  [109, 105, 110], [109, 97, 120], [115, 97, 109, 112, 108, 101], [106, 117, 109, 112], [117, 110, 108, 101, 115, 115], [114, 101, 116, 117, 114, 110]]
def dR(o:Nat):Bs:=if o=0 then [111,112]++cV 0 else match fN[o-1]? with
 |some s=>s
 |none=>[111,112]++cV o
def gk(i:xP):Bs:=dR i.o++(32::cV i.a)++(32::cV i.b)++(32::cV i.c)
open Go.Abs Go.Abs.S
def xr(i:JE):List ae:=[.int .u8 (i.o:Int),.int .i64 (i.a:Int),.int .i64 (i.b:Int),.int .i64 (i.c:Int)]
def jo:List JE->List ae
 | []=>[]
 |i::l=>xr i++jo l
def wJ(m:List JE):∀l:List JE,jo (l++m)=jo l++jo m
 | []=>rfl
 |i::l=>by simp only[XQ,jo,wJ m l,List.append_assoc]
def mO(l:List Int):List ae:=l.map (.int .i64)
def rD(l:List Int):(mO l).length=l.length:=by simp[mO]
def wI:List Int->Nat->List kX
 | [],_=>[]
 |n::l,i=>(.int .i64 n,.int .i64 (i:Int),i)::wI l (i+1)
def CU(m:List Int):∀(l:List Int) (i:Nat),wI (l++m) i=wI l i++wI m (i+l.length)
 | [],_=>rfl
 |n::l,i=>by simp only[XQ,wI,CU m l,XB];rw[show i+1+l.length=i+(l.length+1) by omega]
def tq(n:Int):∀(l:List Int) (i j:Nat),jd .int (.int .i64 n) (wI l i) j=match eu n l with
  |none=>some none
  |some k=>some (some (j+k,(.int .i64 n,.int .i64 ((i+k:Nat):Int),i+k)))
 | [],_,_=>rfl
 |m::l,i,j=>by
  have ih:=tq n l (i+1) (j+1);have hk:I6 .int (.int .i64 n) (.int .i64 m)=some (decide (n=m)):=by simp only[I6,if_true,gd];congr 1
  by_cases hm:m=n
  ·subst hm;simp only[wI,jd,hk,decide_true,eu,if_true,Nat.add_zero]
  ·rw[decide_eq_false (λe=>hm e.symm)]at hk;simp only[wI,jd,hk,eu,if_neg hm];rw[ih];cases eu n l with
   |none=>rfl
   |some k=>simp only[Option.map_some];rw[show j+1+k=j+(k+1) by omega,show i+1+k=i+(k+1) by omega]
def Np(mp:Nat)(l:List Int)(H:aa):Prop:=H.get mp=some (.map (wI l 0) l.length)
def Np.look{mp:Nat}{l:List Int}{H:aa}(h:Np mp l H)(n:Int):kj (.mLook .int true (.int .i64 0)) H [.map (some mp),.int .i64 n]=some (.tuple [.int .i64 ((eu n l).getD 0:Nat),.bool (eu n l).isSome],H):=by
 have hf:=tq n l 0 0;unfold Np at h;cases hc:eu n l with
 |none=>rw[hc]at hf;simp only[kj,oB,h,qt,yI,cond_true,hf,sU,Option.isSome,Option.getD];rfl
 |some k=>rw[hc]at hf;simp only[kj,oB,h,qt,yI,cond_true,hf,sU,Option.isSome,Option.getD,Nat.zero_add]
def Np.upd{mp:Nat}{l:List Int}{H:aa}(h:Np mp l H){n:Int}(hn:eu n l=none):∃H',kj (.mf (.upd .int)) H [.map (some mp),.int .i64 n,.int .i64 (l.length:Int)]=some (.tuple [],H')/\Np mp (l++[n]) H'/\H'.next=H.next/\∀c,c≠mp->H'.get c=H.get c:=by have hf:=tq n l 0 0;rw[hn]at hf;unfold Np at h ⊢;refine⟨H.set mp (.map (wI l 0++[(.int .i64 n,.int .i64 (l.length:Int),l.length)]) (l.length+1)),by simp only[kj,Vw,h,VQ,yI,cond_true,hf],?_,eX ..,λc hc=>by rw[aa.get_set,if_neg hc]⟩;rw[aa.get_set,if_pos rfl,CU,lA];simp only[wI,Nat.zero_add,XB,XC]
def KP : List (Bs × (Nat × Nat)) := [([118, 101, 99], (17, 3)), ([120], (18, 1)), ([121], (19, 1)), ([122], (20, 1)), ([100, 111, 116], (21, 2)), ([99, 114, 111, 115, 115], (22, 2)), ([117, 110, 105, 116], (23, 1)), ([115, 113, 114, 116], (24, 1)), ([115, 105, 110], (25, 1)),
   ([99, 111, 115], (26, 1)), ([97, 98, 115], (27, 1)), ([102, 108, 111, 111, 114], (28, 1)), ([109, 105, 110], (29, 2)), ([109, 97, 120], (30, 2)), ([115, 97, 109, 112, 108, 101], (31, 2))]
def gK(x:Nat×Nat):ae:=.agg [.int .u8 (x.1:Int),.int .i64 (x.2:Int)]
def Vm(mb:Nat)(H:aa):Prop:=H.get mb=some (.map (xx gK KP 0) 15)
def Dj(v w:ae):Prop:=bx v λa=>bx w (a≠·)
def Dj.symm{v w:ae}(h:Dj v w):Dj w v:=λa j r e=>λb k s f=>(h b k s f a j r e).symm
def Dj.fresh{v v' w:ae}{n:Nat}(h:Dj v w)(q:∀P:Nat->Prop,bx v P->bx v' λb=>P b∨n<=b)(hw:bx w (·<n)):Dj v' w:=(q _ h).mono λx hx=>by
 rcases hx with hx|hx
 ·exact hx
 ·exact hw.mono λy hy=>om
structure Pq(E:aO)(x:Cs)(cb n0:Nat)(O:Nat->Prop)(vc vd vn vk:ae)(mb mp:Nat)(H:aa):Prop where
 row:be H cb [vc,.int .i64 (x.regs:Int),vd,.map (some mb),.map (some mp),vn,vk]
 lc:aT 1 H vc (mO x.cons) x.cons.length
 ld:aT 4 H vd (jo x.code) x.code.length
 ln:aT 1 H vn (gh E) E.length
 lk:aT 1 H vk (iu E) E.length
 bl:Vm mb H
 pl:Np mp x.cons H
 oc:O cb/\O mb/\O mp
 ne:cb≠mb/\cb≠mp/\mb≠mp
 oN:∀c,O c->n0<=c/\c<H.next
 bc:bx vc λb=>O b/\b≠cb/\b≠mb/\b≠mp
 bd:bx vd λb=>O b/\b≠cb/\b≠mb/\b≠mp
 bn:bx vn λb=>O b/\b≠cb/\b≠mb/\b≠mp
 bk:bx vk λb=>O b/\b≠cb/\b≠mb/\b≠mp
 cd:Dj vc vd
 cn:Dj vc vn
 ck:Dj vc vk
 dn:Dj vd vn
 dk:Dj vd vk
 nk:Dj vn vk
def pi(E:aO)(x:Cs)(cb n0:Nat)(O:Nat->Prop)(H:aa):Prop:=∃vc vd vn vk mb mp,Pq E x cb n0 O vc vd vn vk mb mp H
structure fU(O:Nat->Prop)(H:aa)(O':Nat->Prop)(H':aa):Prop where
 next:H.next<=H'.next
 old:∀c,c<H.next->¬O c->H'.get c=H.get c
 own:∀c,O' c->O c∨H.next<=c
def fU.refl(O:Nat->Prop)(H:aa):fU O H O H:=⟨Nat.le_refl _,λ_ _ _=>rfl,λ_ h=>.inl h⟩
def fU.trans{O O1 O2:Nat->Prop}{H H1 H2:aa}(a:fU O H O1 H1)(b:fU O1 H1 O2 H2):fU O H O2 H2:=by
 have n1:=a.next;have n2:=b.next;refine⟨om,λc h1 h2=>?_,λc h=>?_⟩
 ·rw[b.old c om (λq=>by rcases a.own c q with q|q;exact h2 q;omega),a.old c h1 h2]
 ·rcases b.own c h with h|h
  ·exact a.own c h
  ·exact .inr om
def fU.exts{O:Nat->Prop}{H H':aa}(e:aS H.next H H'):fU O H O H':=⟨e.next,λc h _=>e.old c h,λ_ h=>.inl h⟩
def Pq.keep{E:aO}{x:Cs}{cb n0:Nat}{O:Nat->Prop}{vc vd vn vk:ae}{mb mp:Nat}{H H':aa}(A:Pq E x cb n0 O vc vd vn vk mb mp H)(hn:H.next<=H'.next)(h:∀c,O c->H'.get c=H.get c):Pq E x cb n0 O vc vd vn vk mb mp H':=
 ⟨A.row.same (h _ A.oc.1), A.lc.same hn (A.bc.mono λc hc => h c hc.1), A.ld.same hn (A.bd.mono λc hc => h c hc.1), A.ln.same hn (A.bn.mono λc hc => h c hc.1), A.lk.same hn (A.bk.mono λc hc => h c hc.1),
  (h _ A.oc.2.1).trans A.bl, (h _ A.oc.2.2).trans A.pl, A.oc, A.ne, λc hc => ⟨(A.oN c hc).1, XL (A.oN c hc).2 hn⟩, A.bc, A.bd, A.bn, A.bk, A.cd, A.cn, A.ck, A.dn, A.dk, A.nk⟩
def pi.keep{E:aO}{x:Cs}{cb n0:Nat}{O:Nat->Prop}{H H':aa}(A:pi E x cb n0 O H)(hn:H.next<=H'.next)(h:∀c,O c->H'.get c=H.get c):pi E x cb n0 O H':=by obtain⟨vc,vd,vn,vk,mb,mp,A⟩:=A;exact⟨_,_,_,_,_,_,A.keep hn h⟩
def pi.lt{E:aO}{x:Cs}{cb n0:Nat}{O:Nat->Prop}{H:aa}(A:pi E x cb n0 O H):n0<=cb/\cb<H.next:=by obtain⟨vc,vd,vn,vk,mb,mp,A⟩:=A;exact A.oN _ A.oc.1
def pi.oN{E:aO}{x:Cs}{cb n0:Nat}{O:Nat->Prop}{H:aa}(A:pi E x cb n0 O H):∀c,O c->n0<=c/\c<H.next:=by obtain⟨vc,vd,vn,vk,mb,mp,A⟩:=A;exact A.oN
def pi.exts{E:aO}{x:Cs}{cb n0:Nat}{O:Nat->Prop}{H H':aa}(A:pi E x cb n0 O H)(e:aS H.next H H'):pi E x cb n0 O H':=A.keep e.next λc hc=>e.old c (A.oN c hc).2
def OX(O:Nat->Prop)(n m:Nat)(c:Nat):Prop:=O c∨n<=c/\c<m
def dA{E:aO}{x:Cs}{cb n0:Nat}{O:Nat->Prop}{H:aa}(A:pi E x cb n0 O H)(o a b c:Nat)(hl:x.code.length<=100000) :
  aq Tryz.prog aF 129 [ah cb 7 0,.int .u8 (o:Int),.int .i64 (a:Int),.int .i64 (b:Int),.int .i64 (c:Int)] H λu H'=>u=.int .i64 (x.code.length:Int)/\∃O',pi E (x.put o a b c) cb n0 O' H'/\fU O H O' H':=by
 obtain⟨vc,vd,vn,vk,mb,mp,A⟩:=A;have hcb:=A.oN _ A.oc.1;refine ak rfl TE rfl ?_;have l2:al false 1 H (ah cb 7 2)=some vd:=aj A.row rfl rfl;have bb:aJ [.int .u8 0,.int .i64 0,.int .i64 0,.int .i64 0] [(0,1,.int .u8 (o:Int)),(1,1,.int .i64 (a:Int)),(2,1,.int .i64 (b:Int)),(3,1,.int .i64 (c:Int))]=some (.agg (xr ⟨o,a,b,c⟩)):=rfl;have bm:=ot (z:=[.int .u8 0,.int .i64 0,.int .i64 0,.int .i64 0]) (m:=4) (xs:=xr ⟨o,a,b,c⟩) H rfl rfl;obtain⟨vd',H1,a1,L1,n1,b1,k1⟩:=A.ld.add (j:=1) (xs:=xr ⟨o,a,b,c⟩) rfl rfl om (bytes:=32) om om;have a1':a8 4 32 (H.push (.cells (xr ⟨o,a,b,c⟩) 0 false)) vd (pU H 4)=some (vd',H1):=a1;have hbl:∀{w:ae},bx w (λb=>O b/\b≠cb/\b≠mb/\b≠mp)->bx w (·<H.next):=λh=>h.mono λc hc=>(A.oN c hc.1).2;have dcb:bx vd (cb≠·):=A.bd.mono λc hc=>hc.2.1.symm;obtain⟨H2,m2,r2,n2,k2⟩:=bQ (A.row.same (k1 cb hcb.2 dcb)) (n:=7) rfl (i:=2) om (x:=vd') L1.one (l':=[vc,.int .i64 (x.regs:Int),vd',.map (some mb),.map (some mp),vn,vk]) rfl;have l2':al false 1 H2 (ah cb 7 2)=some vd':=aj r2 rfl rfl;have lv:=L1.len;have wl:IntKind.i64.wrap (((x.code.length+1:Nat):Int)-1)=(x.code.length:Int):=iP;simp only[U1,sC,seval,az,fld0,aA,l2,bb,bm,a1',m2,l2',lv,wl];have hc':jo x.code++xr ⟨o,a,b,c⟩=jo (x.put o a b c).code:=by simp only[Cs.put,wJ,jo,List.append_nil]
 have hl':x.code.length+1=(x.put o a b c).code.length:=by simp[Cs.put]
 rw[hc',hl']at L1;have bd':=b1 _ A.bd;have hL:=L1.blk;have kk:∀c,c<H.next->c≠cb->bx vd (c≠·)->H2.get c=H.get c:=λc h1 h2 h3=>by rw[k2 c h2,k1 c h1 h3]
 have same:∀{w:ae},bx w (λb=>O b/\b≠cb/\b≠mb/\b≠mp)->Dj w vd->bx w λc=>H2.get c=H.get c:=λh d a j r e=>kk _ (A.oN _ (h a j r e).1).2 (h a j r e).2.1 (d a j r e);have mono:∀{w:ae},bx w (λb=>O b/\b≠cb/\b≠mb/\b≠mp)->bx w (λb=>OX O H.next H2.next b/\b≠cb/\b≠mb/\b≠mp):=λh=>h.mono λc hc=>⟨.inl hc.1,hc.2⟩;have hmb:=A.oN _ A.oc.2.1;have hmp:=A.oN _ A.oc.2.2;have dmb:bx vd (mb≠·):=A.bd.mono λc hc=>hc.2.2.1.symm;have dmp:bx vd (mp≠·):=A.bd.mono λc hc=>hc.2.2.2.symm;have ld2:aT 4 H2 vd' (jo (x.put o a b c).code) (x.put o a b c).code.length:=L1.same om λa j r e=>k2 _ (by
  have q:(O a.b/\a.b≠cb/\a.b≠mb/\a.b≠mp)∨H.next<=a.b:=bd' a j r e;rcases q with q|q
  ·exact q.2.1
  ·omega)
 refine⟨tt,OX O H.next H2.next,⟨vc,vd',vn,vk,mb,mp,r2,A.lc.same om (same A.bc A.cd),ld2,A.ln.same om (same A.bn A.dn.symm),A.lk.same om (same A.bk A.dk.symm),
  (kk _ hmb.2 A.ne.1.symm dmb).trans A.bl,(kk _ hmp.2 A.ne.2.1.symm dmp).trans A.pl,⟨.inl A.oc.1,.inl A.oc.2.1,.inl A.oc.2.2⟩,A.ne,λc hc=>?_,mono A.bc,?_,mono A.bn,mono A.bk,(A.cd.symm.fresh b1 (hbl A.bc)).symm,A.cn,A.ck,A.dn.fresh b1 (hbl A.bn),A.dk.fresh b1 (hbl A.bk),A.nk⟩,⟨om,λc h1 h2=>?_,λc hc=>?_⟩⟩
 ·rcases hc with hc|hc
  ·have:=A.oN c hc;omega
  ·omega
 ·intro a j r e;have q:(O a.b/\a.b≠cb/\a.b≠mb/\a.b≠mp)∨H.next<=a.b:=bd' a j r e;have q2:=hL a j r e;rcases q with q|q
  ·exact⟨.inl q.1,q.2⟩
  ·exact⟨.inr ⟨q,om⟩,om,om,om⟩
 ·exact kk c h1 (λe=>h2 (e ▸ A.oc.1)) (A.bd.mono λd hd e=>h2 (e ▸ hd.1))
 ·rcases hc with hc|hc
  ·exact .inl hc
  ·exact .inr hc.1
open Go.Abs Go.Abs.S
def yY(l:List Int)(n:Int):mO l++[.int .i64 n]=mO (l++[n]):=by simp[mO]
def Cr{E:aO}{x:Cs}{cb n0:Nat}{O:Nat->Prop}{H:aa}(A:pi E x cb n0 O H)(n:Int)(hl:x.cons.length<=100000) :
  aq Tryz.prog aF 165 [ah cb 7 0,.int .i64 n] H λu H'=>u=.int .i64 (x.conI n:Int)/\∃O',pi E (x.con n) cb n0 O' H'/\fU O H O' H':=by
 have A0:=A;obtain⟨vc,vd,vn,vk,mb,mp,A⟩:=A;have hcb:=A.oN _ A.oc.1;have hmb:=A.oN _ A.oc.2.1;have hmp:=A.oN _ A.oc.2.2;refine ak rfl Ta rfl ?_;have l4:al false 1 H (ah cb 7 4)=some (.map (some mp)):=aj A.row rfl rfl;have l0:al false 1 H (ah cb 7 0)=some vc:=aj A.row rfl rfl;have lk:=A.pl.look n;have lv:=A.lc.len;unfold Cs.conI Cs.con;cases hf:eu n x.cons with
 |some i=>rw[hf]at lk;simp only[Option.isSome,Option.getD]at lk;simp only[RG,sC,seval,az,fld0,aA,l4,lk,bv,bu];exact⟨tt,O,A0,fU.refl _ _⟩
 |none=>
  rw[hf]at lk;simp only[Option.isSome,Option.getD]at lk;obtain⟨H1,m1,P1,n1,k1⟩:=A.pl.upd hf;have lc1:aT 1 H1 vc (mO x.cons) x.cons.length:=A.lc.same om (A.bc.mono λc hc=>k1 c hc.2.2.2);have l01:al false 1 H1 (ah cb 7 0)=some vc:=aj (A.row.same (k1 cb A.ne.2.1)) rfl rfl;have bs:aL 1 [.int .i64 0] H1 [(0,1,.int .i64 n)]=some (.slice (some ⟨H1.next,1,0⟩) 1 (.known 1),H1.push (.cells [.int .i64 n] 0 false)):=rfl;obtain⟨vc',H2,a2,L2,n2,b2,k2⟩:=lc1.add (j:=1) (xs:=[.int .i64 n]) rfl rfl om (bytes:=8) om om;have a2':a8 1 8 (H1.push (.cells [.int .i64 n] 0 false)) vc (.slice (some ⟨H1.next,1,0⟩) 1 (.known 1))=some (vc',H2):=a2;have hbl:∀{w:ae},bx w (λb=>O b/\b≠cb/\b≠mb/\b≠mp)->bx w (·<H1.next):=λh=>h.mono λc hc=>by have:=(A.oN c hc.1).2;omega
  have ccb:bx vc (cb≠·):=A.bc.mono λc hc=>hc.2.1.symm;obtain⟨H3,m3,r3,n3,k3⟩:=bQ (A.row.same (by rw[k2 cb om ccb,k1 cb A.ne.2.1]:H2.get cb=H.get cb)) (n:=7) rfl (i:=0) om (x:=vc') L2.one (l':=[vc',.int .i64 (x.regs:Int),vd,.map (some mb),.map (some mp),vn,vk]) rfl;simp only[RG,sC,seval,az,fld0,aA,l4,lk,bv,bu,l0,lv,m1,l01,bs,a2',m3];have hl':x.cons.length+1=(x.cons++[n]).length:=by simp
  rw[yY,hl']at L2;have hL:=L2.blk;have bc':=b2 _ A.bc;have kk:∀c,c<H.next->c≠cb->c≠mp->bx vc (c≠·)->H3.get c=H.get c:=λc h1 h2 h3 h4=>by rw[k3 c h2,k2 c om h4,k1 c h3]
  have same:∀{w:ae},bx w (λb=>O b/\b≠cb/\b≠mb/\b≠mp)->Dj w vc->bx w λc=>H3.get c=H.get c:=λh d a j r e=>kk _ (A.oN _ (h a j r e).1).2 (h a j r e).2.1 (h a j r e).2.2.2 (d a j r e);have mono:∀{w:ae},bx w (λb=>O b/\b≠cb/\b≠mb/\b≠mp)->bx w (λb=>OX O H.next H3.next b/\b≠cb/\b≠mb/\b≠mp):=λh=>h.mono λc hc=>⟨.inl hc.1,hc.2⟩;have cmb:bx vc (mb≠·):=A.bc.mono λc hc=>hc.2.2.1.symm;have cmp:bx vc (mp≠·):=A.bc.mono λc hc=>hc.2.2.2.symm;have lc3:aT 1 H3 vc' (mO (x.cons++[n])) (x.cons++[n]).length:=L2.same om λa j r e=>k3 _ (by
   have q:(O a.b/\a.b≠cb/\a.b≠mb/\a.b≠mp)∨H1.next<=a.b:=bc' a j r e;rcases q with q|q
   ·exact q.2.1
   ·omega)
  have pl3:Np mp (x.cons++[n]) H3:=by unfold Np;rw[k3 mp A.ne.2.1.symm,k2 mp om cmp];exact P1
  refine⟨tt,OX O H.next H3.next,⟨vc',vd,vn,vk,mb,mp,r3,lc3,A.ld.same om (same A.bd A.cd.symm),A.ln.same om (same A.bn A.cn.symm),A.lk.same om (same A.bk A.ck.symm),
   (kk _ hmb.2 A.ne.1.symm A.ne.2.2 cmb).trans A.bl,pl3,⟨.inl A.oc.1,.inl A.oc.2.1,.inl A.oc.2.2⟩,A.ne,λc hc=>?_,?_,mono A.bd,mono A.bn,mono A.bk,A.cd.fresh b2 (hbl A.bd),A.cn.fresh b2 (hbl A.bn),A.ck.fresh b2 (hbl A.bk),A.dn,A.dk,A.nk⟩,⟨om,λc h1 h2=>?_,λc hc=>?_⟩⟩
  ·rcases hc with hc|hc
   ·have:=A.oN c hc;omega
   ·omega
  ·intro a j r e;have q:(O a.b/\a.b≠cb/\a.b≠mb/\a.b≠mp)∨H1.next<=a.b:=bc' a j r e;have q2:=hL a j r e;rcases q with q|q
   ·exact⟨.inl q.1,q.2⟩
   ·exact⟨.inr ⟨om,om⟩,om,om,om⟩
  ·exact kk c h1 (λe=>h2 (e ▸ A.oc.1)) (λe=>h2 (e ▸ A.oc.2.2)) (A.bc.mono λd hd e=>h2 (e ▸ hd.1))
  ·rcases hc with hc|hc
   ·exact .inl hc
   ·exact .inr hc.1
def Pq.regs{E:aO}{x:Cs}{cb n0:Nat}{O:Nat->Prop}{vc vd vn vk:ae}{mb mp:Nat}{H H':aa}(A:Pq E x cb n0 O vc vd vn vk mb mp H){r:Nat}(hr:be H' cb [vc,.int .i64 (r:Int),vd,.map (some mb),.map (some mp),vn,vk])(hn:H'.next=H.next)(k:∀c,c≠cb->H'.get c=H.get c):Pq E { x with regs:=r } cb n0 O vc vd vn vk mb mp H':=
 ⟨hr, A.lc.same (by omega) (A.bc.mono λc hc => k c hc.2.1), A.ld.same (by omega) (A.bd.mono λc hc => k c hc.2.1), A.ln.same (by omega) (A.bn.mono λc hc => k c hc.2.1), A.lk.same (by omega) (A.bk.mono λc hc => k c hc.2.1),
  (k _ A.ne.1.symm).trans A.bl, (k _ A.ne.2.1.symm).trans A.pl, A.oc, A.ne, λc hc => by have := A.oN c hc;omega, A.bc, A.bd, A.bn, A.bk, A.cd, A.cn, A.ck, A.dn, A.dk, A.nk⟩
def pX{E:aO}{x:Cs}{cb n0:Nat}{O:Nat->Prop}{H:aa}(A:pi E x cb n0 O H)(o a:Nat)(hl:x.code.length<=100000) :
  aq Tryz.prog aF 131 [ah cb 7 0,.int .u8 (o:Int),.int .i64 (a:Int)] H λu H'=>∃O' jb sb,u=.func (.func 170) [] [ah jb 1 0,ah sb 1 0]/\H.next<=jb/\jb<H'.next/\H.next<=sb/\sb<H'.next/\¬O' jb/\¬O' sb/\be H' jb [ah cb 7 0]/\be H' sb [.int .i64 (x.code.length:Int)]/\pi E (x.put o a 0 0) cb n0 O' H'/\fU O H O' H':=by
 refine ak rfl TD rfl ?_;obtain⟨H1,m1,r1,n1,k1⟩:=aC H [ah cb 7 0] (n:=1) rfl;have E1:aS H.next H H1:=⟨om,λc hc=>k1 c om⟩;have A1:=A.exts E1;have lb:al false 1 H1 (ah H.next 1 0)=some (ah cb 7 0):=aj r1 rfl rfl;have hN:=A.oN;simp only[U0,sC,seval,fH,m1,lb];refine(dA A1 o a 0 0 hl).mono ?_;rintro _ H2 ⟨rfl,O2,A2,F2⟩;have e2:=F2.next;have hN2:=A2.oN;obtain⟨H3,m3,r3,n3,k3⟩:=aC H2 [.int .i64 0] (n:=1) rfl;obtain⟨H4,m4,r4,n4,k4⟩:=bQ r3 (n:=1) rfl (i:=0) om (x:=.int .i64 (x.code.length:Int)) rfl (l':=[.int .i64 (x.code.length:Int)]) rfl;have k24:∀c,c<H2.next->H4.get c=H2.get c:=λc hc=>by rw[k4 c om,k3 c om]
 have oj:¬O H.next:=λh=>by have:=hN _ h;omega
 have r24:be H4 H.next [ah cb 7 0]:=r1.same (by rw[k24 _ om,F2.old _ om oj]);simp only[sC,seval,m3,m4];refine⟨O2,H.next,H2.next,tt,Nat.le_refl _,om,om,om,λh=>?_,λh=>?_,r24,r4,A2.keep om λc hc=>k24 c (hN2 c hc).2,(fU.exts E1).trans (F2.trans ⟨om,λc h _=>k24 c h,λc h=>.inl h⟩)⟩
 ·rcases F2.own _ h with h|h
  ·exact oj h
  ·omega
 ·have:=hN2 _ h;omega
open Go.Abs Go.Abs.S
def aT.write{m k:Nat}{H:aa}{s:ae}{L:List ae}(h:aT m H s L k){i j:Nat}(hi:i<k)(hj:j<m){x:ae}(hx:x.one=true) :
  ∃b n H',jk m s (.int .i64 (i:Int))=some (ah b n (i*m))/\bx s (b=·)/\bh 1 H (ah b n (i*m+j)) x=some H'/\aT m H' s (L.set (i*m+j) x) k/\H'.next=H.next/\∀c,c≠b->H'.get c=H.get c:=by
 have him:i*m+m<=k*m:=by have:(i+1)*m<=k*m:=Nat.mul_le_mul_right _ hi;rwa [Nat.add_mul,Nat.one_mul]at this
 have hb:Nat.blt i k=true:=by simpa[Nat.blt_eq]using hi
 rcases h with⟨_,_,h⟩|⟨b,C,low,r,rfl,h2,h3,h4,h5,h6,h7,h8⟩
 ·omega
 ·obtain⟨H',m1,r1,n1,k1⟩:=cD (H:=H) (b:=b) (n:=C.length) ⟨low,h3,h4⟩ rfl (i:=i*m+j) om hx;obtain⟨low',g1,g2⟩:=r1;have hl:(C.set (i*m+j) x).length=C.length:=by simp
  refine⟨b,C.length,H',?_,cp rfl,m1,.inr ⟨b,C.set (i*m+j) x,low',r,by rw[hl],?_,g1,g2,?_,by simp[h6],by rw[hl];exact h7,om⟩,n1,k1⟩
  ·rcases h2 with rfl|⟨cap,rfl,_⟩
   ·exact Ra .i64 hi
   ·show(bif Nat.blt i k then some (ae.ptr (some ⟨b,C.length,0+i*m⟩))else none)=_;rw[hb,Nat.zero_add];rfl
  ·rcases h2 with rfl|⟨cap,rfl,q1,q2⟩
   ·exact .inl rfl
   ·exact .inr ⟨cap,rfl,q1,by rw[hl];exact q2⟩
  ·rw[List.take_set,h5]
def tu:∀(l:List JE) (i n:Nat),i<l.length->(jo l).set (i*4+3) (.int .i64 (n:Int))=jo (yF i n l)
 | [],i,n,h=>by simp at h
 |x::l,0,n,_=>rfl
 |x::l,i+1,n,h=>by have ih:=tu l i n (by simpa using h);simp only[jo,yF,<- ih];rw[List.set_append_right _ _ (by simp[xr];omega)];congr 2;simp[xr];omega
def jf{E:aO}{x:Cs}{cb n0 jb sb i:Nat}{O:Nat->Prop}{H:aa}(A:pi E x cb n0 O H)(rj:be H jb [ah cb 7 0])(rs:be H sb [.int .i64 (i:Int)])(hi:i<x.code.length) :
  aq Tryz.prog aF 170 [ah jb 1 0,ah sb 1 0] H λ_ H'=>pi E (x.land i) cb n0 O H'/\H'.next=H.next/\∀c,¬O c->H'.get c=H.get c:=by
 obtain⟨vc,vd,vn,vk,mb,mp,A⟩:=A;refine ak rfl SX rfl ?_;have lj:al false 1 H (ah jb 1 0)=some (ah cb 7 0):=aj rj rfl rfl;have ls:al false 1 H (ah sb 1 0)=some (.int .i64 (i:Int)):=aj rs rfl rfl;have l2:al false 1 H (ah cb 7 2)=some vd:=aj A.row rfl rfl;have lv:=A.ld.len;obtain⟨b,n,H1,ix,hb,m1,L1,n1,k1⟩:=aT.write A.ld hi (j:=3) om (x:=.int .i64 (x.code.length:Int)) rfl;simp only[UD,sC,seval,az,fld0,aA,lj,ls,l2,lv,ix,m1];have hbd:∃a j r,vd=.slice (some a) j r/\a.b=b:=by
  rcases A.ld with⟨_,_,h0⟩|⟨b',C,low,r,rfl,_⟩
  ·omega
  ·exact⟨_,_,_,rfl,(hb _ _ _ rfl).symm⟩
 obtain⟨a,j,r,ev,ea⟩:=hbd;have ob:=A.bd a j r ev;rw[ea]at ob;have kO:∀c,¬O c->H1.get c=H.get c:=λc hc=>k1 c λe=>hc (e ▸ ob.1);have same:∀{w:ae},Dj w vd->bx w λc=>H1.get c=H.get c:=λd a' j' r' e=>k1 _ (by have:=d a' j' r' e a j r ev;rw[ea]at this;exact this);rw[tu _ _ _ hi]at L1;have hl:x.code.length=(x.land i).code.length:=by simp[Cs.land,oV]
 refine⟨_,rfl,⟨vc,vd,vn,vk,mb,mp,A.row.same (k1 cb ob.2.1.symm),A.lc.same om (same A.cd),by rw[<- hl];exact L1,A.ln.same om (same A.dn.symm),A.lk.same om (same A.dk.symm),
  (k1 mb ob.2.2.1.symm).trans A.bl,(k1 mp ob.2.2.2.symm).trans A.pl,A.oc,A.ne,λc hc=>by have:=A.oN c hc;omega,A.bc,A.bd,A.bn,A.bk,A.cd,A.cn,A.ck,A.dn,A.dk,A.nk⟩,n1,kO⟩
def Ox{H:aa}:aq Tryz.prog aF 187 [.str [124,124]] H λv H'=>v=.int .u8 (fy [124,124]:Int)/\H=H':=by refine ak rfl mG rfl ?_;simp only[tx,sC,seval];exact⟨by rfl,tt⟩
def Ow{H:aa}:aq Tryz.prog aF 187 [.str [38,38]] H λv H'=>v=.int .u8 (fy [38,38]:Int)/\H=H':=by refine ak rfl mG rfl ?_;simp only[tx,sC,seval];exact⟨by rfl,tt⟩
def Ov{H:aa}:aq Tryz.prog aF 187 [.str [61,61]] H λv H'=>v=.int .u8 (fy [61,61]:Int)/\H=H':=by refine ak rfl mG rfl ?_;simp only[tx,sC,seval];exact⟨by rfl,tt⟩
def Ou{H:aa}:aq Tryz.prog aF 187 [.str [33,61]] H λv H'=>v=.int .u8 (fy [33,61]:Int)/\H=H':=by refine ak rfl mG rfl ?_;simp only[tx,sC,seval];exact⟨by rfl,tt⟩
def Ot{H:aa}:aq Tryz.prog aF 187 [.str [60,61]] H λv H'=>v=.int .u8 (fy [60,61]:Int)/\H=H':=by refine ak rfl mG rfl ?_;simp only[tx,sC,seval];exact⟨by rfl,tt⟩
def Oq{H:aa}:aq Tryz.prog aF 187 [.str [62,61]] H λv H'=>v=.int .u8 (fy [62,61]:Int)/\H=H':=by refine ak rfl mG rfl ?_;simp only[tx,sC,seval];exact⟨by rfl,tt⟩
def Oo{H:aa}:aq Tryz.prog aF 187 [.str [60]] H λv H'=>v=.int .u8 (fy [60]:Int)/\H=H':=by refine ak rfl mG rfl ?_;simp only[tx,sC,seval];exact⟨by rfl,tt⟩
def On{H:aa}:aq Tryz.prog aF 187 [.str [62]] H λv H'=>v=.int .u8 (fy [62]:Int)/\H=H':=by refine ak rfl mG rfl ?_;simp only[tx,sC,seval];exact⟨by rfl,tt⟩
def Om{H:aa}:aq Tryz.prog aF 187 [.str [43]] H λv H'=>v=.int .u8 (fy [43]:Int)/\H=H':=by refine ak rfl mG rfl ?_;simp only[tx,sC,seval];exact⟨by rfl,tt⟩
def Ol{H:aa}:aq Tryz.prog aF 187 [.str [45]] H λv H'=>v=.int .u8 (fy [45]:Int)/\H=H':=by refine ak rfl mG rfl ?_;simp only[tx,sC,seval];exact⟨by rfl,tt⟩
def Lo{H:aa}:aq Tryz.prog aF 187 [.str [42]] H λv H'=>v=.int .u8 (fy [42]:Int)/\H=H':=by refine ak rfl mG rfl ?_;simp only[tx,sC,seval];exact⟨by rfl,tt⟩
def Lm{H:aa}:aq Tryz.prog aF 187 [.str [47]] H λv H'=>v=.int .u8 (fy [47]:Int)/\H=H':=by refine ak rfl mG rfl ?_;simp only[tx,sC,seval];exact⟨by rfl,tt⟩
def pW{s:Bs}(hs:nC s 2=true){H:aa}:aq Tryz.prog aF 187 [.str s] H λv H'=>v=.int .u8 (fy s:Int)/\H=H':=by
 have hm:s∈([[124,124],[38,38],[61,61],[33,61],[60,61],[62,61],[60],[62],[43],[45],[42],[47]]:List Bs):=by simpa[nC]using hs
 simp only[List.mem_cons,List.not_mem_nil,or_false]at hm;rcases hm with rfl|rfl|rfl|rfl|rfl|rfl|rfl|rfl|rfl|rfl|rfl|rfl
 ·exact Ox
 ·exact Ow
 ·exact Ov
 ·exact Ou
 ·exact Ot
 ·exact Oq
 ·exact Oo
 ·exact On
 ·exact Om
 ·exact Ol
 ·exact Lo
 ·exact Lm
def qR{E:aO}{x:Cs}{cb n0:Nat}{O:Nat->Prop}{H:aa}(A:pi E x cb n0 O H):∃vn vk,al false 1 H (ah cb 7 5)=some vn/\al false 1 H (ah cb 7 6)=some vk/\aT 1 H vn (gh E) E.length/\aT 1 H vk (iu E) E.length/\bx vn (·<H.next)/\bx vk (·<H.next):=by obtain⟨vc,vd,vn,vk,mb,mp,A⟩:=A;exact⟨vn,vk,aj A.row rfl rfl,aj A.row rfl rfl,A.ln,A.lk,A.ln.blk,A.lk.blk⟩
def EP{E:aO}(hE:kW E)(hEl:E.length<=100000){x:Cs}{cb n0:Nat}{O:Nat->Prop}{H:aa}(A:pi E x cb n0 O H){s:Bs}{n:Int}{kids:List Ex}{v p:ae}{C:List ae}{r:Nat}
  (pt:mS H p [.int .u8 3,.str s,.int .i64 n,v]) (hp:∀a,p=.ptr (some a)->a.b<n0) (z1:rZ (·<n0) H 4 v kids.length C) (z2:ed (·<n0) H kids C) (hok:lD (.mk 3 s n kids)=true) (hs:aU kids<=1000) (hd:bG kids<=40) (hl:x.code.length<=100000) (hr:r<=100000) :
  aq Tryz.prog aF 166 [ah cb 7 0,p,.int .i64 (r:Int)] H λ_ H'=>∃O',pi E (je E 3 s n kids r x) cb n0 O' H'/\fU O H O' H':=by
 obtain⟨hpf,hks⟩:=qN hok;obtain⟨_,hop,_⟩:=Ac hpf;have hop:=hop rfl;have nc:=pt.chk;have f1:=pt.fld 1;have f3:=pt.fld 3;have l1:al false 1 H (fp p 1)=some (.str s):=pt.load (o:=1) rfl;have l3:al false 1 H (fp p 3)=some v:=pt.load (o:=3) rfl;have ln:=z1.sl.len;have hlast:je E 3 s n kids r x=(if kids.length=1 then x.put (if s=[33]then 8 else 7) r r 0 else if s=[42]/\wx E kids=2 then x.put 5 r (r+1) r else x.put (fy s) r r (r+1)):=rfl;have wr:IntKind.i64.wrap ((r:Int)+1)=((r+1:Nat):Int):=iP;rw[hlast];refine ak rfl S0 rfl ?_;by_cases h1:kids.length=1
 ·have h1':(kids.length:Int)=1:=om;rw[if_pos h1];by_cases hb:s=[33]
  ·subst hb;simp only[Ml,sC,seval,nc,f3,l3,ln,h1',f1,l1];refine(dA A 8 r r 0 hl).mono ?_;rintro _ H2 ⟨rfl,O2,A2,F2⟩;simp only[sC,seval];exact⟨_,rfl,O2,A2,F2⟩
  ·simp only[Ml,sC,seval,nc,f3,l3,ln,h1',f1,l1,hb,if_false];refine(dA A 7 r r 0 hl).mono ?_;rintro _ H2 ⟨rfl,O2,A2,F2⟩;simp only[sC,seval];exact⟨_,rfl,O2,A2,F2⟩
 have h1':¬(kids.length:Int)=1:=om;have h2:kids.length=2:=by
  rcases hk:kids.length with _|_|_|m
  ·rw[hk]at hop;simp[nC]at hop
  ·omega
  ·rfl
  ·rw[hk]at hop;simp[nC]at hop
 rw[h2]at hop;rw[if_neg h1];by_cases hb:s=[42]
 ·subst hb;obtain⟨e0,e1,rfl⟩:∃a b,kids=[a,b]:=by
   match kids,h2 with
   | [a,b],_=>exact⟨a,b,rfl⟩
  have ix:=z1.sl.idx (i:=0) (by simp);have ld:=z1.sl.load (i:=0) (by simp);have hx:=z2.at (i:=0) (e:=e0) rfl;simp only[Int.cast_ofNat_Int]at ix;obtain⟨vn,vk,ln5,ln6,Ln,Lk,bn,bk⟩:=qR A;have hsz:e0.size<=1000:=by simp only[aU]at hs;omega
  have hdp:e0.deep<=40:=by simp only[bG]at hd;omega
  have hok0:lD e0=true:=by simp only[eY,XA]at hks;exact hks.1
  have hn0:=A.lt;have hT:wx E [e0,e1]=ef E e0:=rfl;simp only[Ml,sC,seval,nc,f3,l3,ln,h1',f1,l1,ix,ld,az,aA,ln5,ln6];refine(vA hE om Ln Lk bn bk rL om hx hok0 hsz hdp).mono ?_;rintro _ H1 ⟨rfl,E1⟩;have A1:=A.exts E1;have F1:fU O H O H1:=fU.exts E1;have l1':al false 1 H1 (fp p 1)=some (.str [42]):=(pt.same (by intro a e;exact E1.old _ (by have:=hp a e;omega))).load (o:=1) rfl;cases hty:lB E e0 with
  |error f=>
   have hq:wx E [e0,e1]=0:=by rw[hT];unfold ef;rw[hty]
   rw[if_neg (λh=>by rw[hq]at h;exact absurd h.2 dD)];simp only[sC,seval,oJ,co,bv,bu,Int.cast_ofNat_Int,nc,f1,l1'];refine(pW (s:=[42]) (by rfl)).mono ?_;rintro _ _ ⟨rfl,rfl⟩;simp only[sC,seval,wr];refine(dA A1 (fy [42]) r r (r+1) hl).mono ?_;rintro _ H2 ⟨rfl,O2,A2,F2⟩;simp only[sC,seval];exact⟨_,rfl,O2,A2,F1.trans F2⟩
  |ok t=>
   have hq:wx E [e0,e1]=t:=by rw[hT];unfold ef;rw[hty]
   by_cases h2t:t=2
   ·subst h2t;rw[if_pos ⟨by trivial,hq⟩];simp only[sC,seval,oJ,co,bv,bu,Int.cast_ofNat_Int,nc,f1,l1',wr];refine(dA A1 5 r (r+1) r hl).mono ?_;rintro _ H2 ⟨rfl,O2,A2,F2⟩;simp only[sC,seval];exact⟨_,rfl,O2,A2,F1.trans F2⟩
   ·have h2z:¬(t:Int)=2:=om;rw[if_neg (λh=>h2t (hq ▸ h.2))];simp only[sC,seval,oJ,co,bv,bu,h2z,nc,f1,l1'];refine(pW (s:=[42]) (by rfl)).mono ?_;rintro _ _ ⟨rfl,rfl⟩;simp only[sC,seval,wr];refine(dA A1 (fy [42]) r r (r+1) hl).mono ?_;rintro _ H2 ⟨rfl,O2,A2,F2⟩;simp only[sC,seval];exact⟨_,rfl,O2,A2,F1.trans F2⟩
 ·simp only[Ml,sC,seval,nc,f3,l3,ln,h1',f1,l1,hb];refine(pW hop).mono ?_;rintro _ _ ⟨rfl,rfl⟩;simp only[sC,seval,wr];refine(dA A (fy s) r r (r+1) hl).mono ?_;rintro _ H2 ⟨rfl,O2,A2,F2⟩;simp only[sC,seval,hb,false_and,if_false];exact⟨_,rfl,O2,A2,F2⟩
end Go.Proofs.Wo
