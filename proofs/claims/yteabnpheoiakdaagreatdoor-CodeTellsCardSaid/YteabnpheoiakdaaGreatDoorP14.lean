/- Part of a proof (YJ2 YJ3 YJ4 YJ5 YD4 YK1 YK2 YK3 YK5 YWE YWF); no condition. -/
import Derived.Test.YteabnpheoiakdaaGreatDoorProg
import Derived.KernelRfl
import Derived.Test.YteabnpheoiakdaaGreatDoorP5
import Derived.Test.YteabnpheoiakdaaGreatDoorP6
import Derived.Test.YteabnpheoiakdaaGreatDoorP13
set_option linter.unusedSimpArgs false
set_option linter.unusedVariables false
set_option linter.defProp false
set_option linter.unnecessarySimpa false
namespace Go.Proofs.Wo
open Go.Abs Go.Abs.S
def Qs{E:aO}{x:Cs}{cb n0:Nat}{O:Nat->Prop}{vc vd vn vk vr:ae}{H:aa}(A:Nn E x cb n0 O vc vd vn vk vr H){n:Int}(hf:eu n x.cons=none)(hl:x.cons.length<=100000) :
  ∃vc' H2 H3,a8 1 8 (H.push (.cells [.int .i64 n] 0 false)) vc (.slice (some ⟨H.next,1,0⟩) 1 (.known 1))=some (vc',H2)/\bh 1 H2 (ah cb 7 0) vc'=some H3/\∃O',po E (x.con n) cb n0 O' H3/\fU O H O' H3:=by
 have hcb:=A.oN _ A.oc;have hxc:x.con n={ x with cons:=x.cons++[n] }:=by unfold Cs.con;rw[hf]
 rw[hxc];obtain⟨vc',H2,a2,L2,n2,b2,k2⟩:=A.lc.add (j:=1) (xs:=[.int .i64 n]) rfl rfl om (bytes:=8) om om;have hbl:∀{w:ae},bx w (λb=>O b/\b≠cb)->bx w (·<H.next):=λh=>h.mono λc hc=>(A.oN c hc.1).2;have ccb:bx vc (cb≠·):=A.bc.mono λc hc=>hc.2.symm;obtain⟨H3,m3,r3,n3,k3⟩:=bQ (A.row.same (k2 cb hcb.2 ccb)) (n:=7) rfl (i:=0) om (x:=vc') L2.one (l':=[vc',.int .i64 (x.regs:Int),vd,vn,vk,vr,.int .i64 (E.length:Int)]) rfl;have hl':x.cons.length+1=(x.cons++[n]).length:=by simp
 rw[yY,hl']at L2;have hL:=L2.blk;have bc':=b2 _ A.bc;have kk:∀c,c<H.next->c≠cb->bx vc (c≠·)->H3.get c=H.get c:=λc h1 h2 h3=>by rw[k3 c h2,k2 c h1 h3]
 have same:∀{w:ae},bx w (λb=>O b/\b≠cb)->Dj w vc->bx w λc=>H3.get c=H.get c:=λh d a j r e=>kk _ (A.oN _ (h a j r e).1).2 (h a j r e).2 (d a j r e);have mono:∀{w:ae},bx w (λb=>O b/\b≠cb)->bx w (λb=>OX O H.next H3.next b/\b≠cb):=λh=>h.mono λc hc=>⟨.inl hc.1,hc.2⟩;have lc3:aT 1 H3 vc' (mO (x.cons++[n])) (x.cons++[n]).length:=L2.same om λa j r e=>k3 _ (by
  have q:(O a.b/\a.b≠cb)∨H.next<=a.b:=bc' a j r e;rcases q with q|q
  ·exact q.2
  ·omega)
 refine⟨vc',H2,H3,a2,m3,OX O H.next H3.next,⟨vc',vd,vn,vk,vr,r3,lc3,A.ld.same om (same A.bd A.cd.symm),A.ln.same om (same A.bn A.cn.symm),A.lk.same om (same A.bk A.ck.symm),A.lr.same om (same A.br A.cr.symm),
  .inl A.oc,λc hc=>?_,?_,mono A.bd,mono A.bn,mono A.bk,mono A.br,A.cd.fresh b2 (hbl A.bd),A.cn.fresh b2 (hbl A.bn),A.ck.fresh b2 (hbl A.bk),A.cr.fresh b2 (hbl A.br),A.dn,A.dk,A.dr,A.nk,A.nr,A.kr⟩,⟨om,λc h1 h2=>?_,λc hc=>?_⟩⟩
 ·rcases hc with hc|hc
  ·have:=A.oN c hc;omega
  ·omega
 ·intro a j r e;have q:(O a.b/\a.b≠cb)∨H.next<=a.b:=bc' a j r e;have q2:=hL a j r e;rcases q with q|q
  ·exact⟨.inl q.1,q.2⟩
  ·exact⟨.inr ⟨om,om⟩,om⟩
 ·exact kk c h1 (λe=>h2 (e ▸ A.oc)) (A.bc.mono λd hd e=>h2 (e ▸ hd.1))
 ·rcases hc with hc|hc
  ·exact .inl hc
  ·exact .inr hc.1
def ud{n:Int}:∀{l:List Int} {i:Nat} {y:Int},l[i]?=some y->eu n (l.take i)=none->(y=n->eu n l=some i)/\(y≠n->eu n (l.take (i+1))=none)
 | [],_,_,h,_=>by simp at h
 |x::l,0,y,h,_=>by simp only[XH,sJ]at h;subst h;exact⟨λe=>by simp[eu,e],λe=>by simp[eu,e]⟩
 |x::l,i+1,y,h,h0=>by
  simp only[XI]at h;simp only[List.take_succ_cons,eu]at h0 ⊢;by_cases hx:x=n
  ·rw[if_pos hx]at h0;simp at h0
  ·rw[if_neg hx]at h0;simp only[Option.map_eq_none_iff]at h0;obtain⟨q1,q2⟩:=ud h h0;exact⟨λe=>by rw[if_neg hx,q1 e];rfl,λe=>by rw[if_neg hx,q2 e];rfl⟩
def Mr:∀y∈iq,y.1∈mR.map (·.1):=by decide
def Mh{s:Bs}{ts:List Nat}{t:Nat}(h:js s ts=.ok t):s∈mR.map (·.1):=by
 unfold js at h;cases ha:ew iq s with
 |none=>rw[ha]at h;simp at h
 |some x=>exact Mr _ (iK ha)
set_option maxHeartbeats 1000000 in
def uW{E:aO}(hE:kW E)(hEl:E.length<=100000){cb n0:Nat}:∀(N:Nat) {e:Ex} {x:Cs} {O:Nat->Prop} {H:aa} {c:List ae} {r t:Nat},e.size<=N->po E x cb n0 O H->XE (·<n0) H e c->lD e=true->lB E e=.ok t->e.size<=1000->e.deep<=40->Rm x e.size->r+e.size<=50000 ->
  aq Tryz.prog aF 138 [ah cb 7 0,.int .i64 (r:Int),.agg c] H λ_ H'=>∃O',po E (cE E e r x) cb n0 O' H'/\fU O H O' H'
 |0,e,_,_,_,_,_,_,h,_,_,_,_,_,_,_,_=>absurd (fg e) om
 |N+1,.mk k s n kids,x,O,H,c,r,t,h,A,hx,hok,hty,hs,hd,hr,hrr=>by
  obtain⟨v,C,rfl,z1,z2⟩:=hx;have hsz:(Ex.mk k s n kids).size=aU kids+1:=rfl;have hdp:(Ex.mk k s n kids).deep=bG kids+1:=rfl;have hr1:=hr.code;have hr2:=hr.cons;obtain⟨ts,hts,hkt⟩:=Br hty;obtain⟨hpf,hks⟩:=qN hok;obtain⟨hk4,hop,hk0⟩:=Ac hpf;have hlen:=cO kids;have hcb:=A.lt;have hON:=A.oN;have wr:IntKind.i64.wrap ((r:Int)+1)=((r+1:Nat):Int):=iP;obtain⟨H1,m1,r1,n1,k1⟩:=aC H [.int .u8 (k:Int),.str s,.int .i64 n,v] (n:=4) rfl;have E1:aS H.next H H1:=⟨om,λc hc=>k1 c om⟩;have A1:=A.exts E1;have F01:fU O H O H1:=fU.exts E1;obtain⟨eb,heb⟩:∃b,b=H.next:=⟨_,rfl⟩;rw[<- heb]at m1 r1 k1;have ebO:∀{O2:Nat->Prop} {K:aa},fU O H1 O2 K->be K eb [.int .u8 (k:Int),.str s,.int .i64 n,v]:=λF=>r1.same (F.old eb om λq=>by have:=hON _ q;omega);have ln:=z1.len;refine ak rfl Tw rfl ?_;simp only[UV,sC,seval,aG,m1];refine(Im A1 r om).mono ?_;rintro _ H2 ⟨A2,n2,k2⟩;have F12:fU O H1 O H2:=⟨om,λc _ h2=>k2 c h2,λ_ h=>.inl h⟩;have r2:=ebO F12;have f0:al false 1 H2 (ah eb 4 0)=some (.int .u8 (k:Int)):=aj r2 rfl rfl;have f1:al false 1 H2 (ah eb 4 1)=some (.str s):=aj r2 rfl rfl;have f2:al false 1 H2 (ah eb 4 2)=some (.int .i64 n):=aj r2 rfl rfl;have hc:cE E (.mk k s n kids) r x=je E k s n kids r (oi E kids r (x.use r)):=rfl;rw[hc];have u1:(x.use r).code=x.code:=rfl;have u2:(x.use r).cons=x.cons:=rfl;by_cases h1:k=1
  ·subst h1;have hkn:kids=[]:=List.length_eq_zero_iff.1 (hk0 (.inl rfl));subst hkn;have hce:je E 1 s n [] r (oi E [] r (x.use r))=((x.use r).con n).put 1 r ((x.use r).conI n) 0:=rfl;rw[hce];obtain⟨vc,vd,vn,vk,vr,A2⟩:=A2;have lc:=A2.lc.len;have cc:=(aT.cel1 A2.lc A2.lc.blk).1;have g0:al false 1 H2 (ah cb 7 0)=some vc:=aj A2.row rfl rfl;rw[u2]at lc cc;simp only[Int.cast_ofNat_Int]at f0;simp only[sC,seval,fld0,f0];refine aM (λm (T:bZ) L=>L=H2/\∃i:Nat,m=x.cons.length-i/\i<=x.cons.length/\T 0=ah cb 7 0/\T 1=.int .i64 (r:Int)/\T 5=ah eb 4 0/\T 6=.int .i64 (i:Int)/\eu n (x.cons.take i)=none) x.cons.length
    ⟨rfl,0,rfl,Nat.zero_le _,by simp only[sC,seval];try rfl,by simp only[sC,seval];try rfl,by simp only[sC,seval];try rfl,by simp only[sC,seval];try rfl,rfl⟩ ?_
   rintro m U L ⟨rfl,i,rfl,hi,t0,t1,t5,t6,hfi⟩;have hxc:(x.use r).cons=x.cons:=rfl;by_cases hlt:i<x.cons.length
   ·have hlt':(i:Int)<(x.cons.length:Int):=om;obtain⟨y,hy⟩:∃y,x.cons[i]?=some y:=⟨_,Xx hlt⟩;have io:=cc.idx .i64 (i:=i) (by rw[rD];exact hlt);have lo:=cc.load (i:=i) (x:=.int .i64 y) (by simp[mO,hy]);have wk:IntKind.i64.wrap ((i:Int)+1)=((i+1:Nat):Int):=fT i 1 om;obtain⟨q1,q2⟩:=ud hy hfi;by_cases he:y=n
    ·have hf:=q1 he;have hne:¬(i:Int)=(x.cons.length:Int):=om;have hci:(x.use r).conI n=i:=by unfold Cs.conI;rw[hxc,hf];rfl
     have hcx:(x.use r).con n=x.use r:=by unfold Cs.con;rw[hxc,hf]
     rw[hci,hcx];simp only[sC,seval,t0,t1,t5,t6,az,fld0,aA,g0,lc,hlt',io,lo,f2,he,hne];refine(de ⟨_,_,_,_,_,A2⟩ 1 r i 0 (by show x.code.length<=_;omega)).mono ?_;rintro _ H3 ⟨rfl,O3,A3,F3⟩;simp only[sC,seval];exact⟨_,rfl,O3,A3,F01.trans (F12.trans F3)⟩
    ·simp only[sC,seval,t0,t1,t5,t6,az,fld0,aA,g0,lc,hlt',io,lo,f2,he,wk];exact⟨x.cons.length-(i+1),om,tt,i+1,rfl,om,tt,tt,tt,tt,q2 he⟩
   ·obtain rfl:i=x.cons.length:=om;have hlt':¬(x.cons.length:Int)<(x.cons.length:Int):=om;rw[List.take_length]at hfi;have hci:(x.use r).conI n=x.cons.length:=by unfold Cs.conI;rw[hxc,hfi];rfl
    obtain⟨vc',H3,H4,a3,m4,O4,A4,F4⟩:=Qs A2 (n:=n) (by rw[hxc];exact hfi) (by rw[hxc];omega);have bs:aL 1 [.int .i64 0] L [(0,1,.int .i64 n)]=some (.slice (some ⟨L.next,1,0⟩) 1 (.known 1),L.push (.cells [.int .i64 n] 0 false)):=rfl;have g0':al false 1 (L.push (.cells [.int .i64 n] 0 false)) (ah cb 7 0)=some vc:=aj (A2.row.same (aB (A2.oN _ A2.oc).2)) rfl rfl;rw[hci];simp only[sC,seval,t0,t1,t5,t6,az,fld0,aA,g0,lc,hlt'];refine dI rfl ?_;simp only[sR,sC,seval,t0,t1,t5,t6,az,fld0,aA,g0,f2,bs,a3,m4];simp only[ci,cj,bP,cm,cQ,and_true,true_and,List.map_cons,List.map_nil,sC,seval,t0,t1,t5,t6,az,fld0,aA];refine⟨⟨_,rfl,λ_=>⟨_,g0',aT.aeq A2.lc⟩⟩,?_⟩;have hlc:=(rC n (x.use r)).1;refine(de A4 1 r x.cons.length 0 (by rw[hlc];show x.code.length<=_;omega)).mono ?_;rintro _ H5 ⟨rfl,O5,A5,F5⟩;simp only[sC,seval];exact⟨_,rfl,O5,A5,F01.trans (F12.trans (F4.trans F5))⟩
  have h1':¬(k:Int)=1:=om;by_cases h2:k=2
  ·subst h2;have hkn:kids=[]:=List.length_eq_zero_iff.1 (hk0 (.inr rfl));subst hkn;obtain⟨t',ht'⟩:∃t',fk E s=some t':=by
    unfold jT at hkt;cases hl:fk E s with
    |none=>rw[hl]at hkt;simp at hkt
    |some u=>exact⟨u,rfl⟩
   obtain⟨i,hi1,hi2⟩:=tX ht';have hreg:mI s E=i:=by unfold mI;rw[hi1];rfl
   have hce:je E 2 s n [] r (oi E [] r (x.use r))=(x.use r).put 2 r i 0:=by rw[<- hreg];rfl
   rw[hce];simp only[Int.cast_ofNat_Int]at f0;simp only[sC,seval,fld0,aA,f0,f1];refine(xU hE A2 hi1 om).mono ?_;rintro _ _ ⟨rfl,rfl⟩;simp only[sC,seval];refine(de A2 2 r i 0 (by show x.code.length<=_;omega)).mono ?_;rintro _ H3 ⟨rfl,O3,A3,F3⟩;simp only[sC,seval];exact⟨_,rfl,O3,A3,F01.trans (F12.trans F3)⟩
  have h2':¬(k:Int)=2:=om;simp only[sC,seval,fld0,f0,h1',h2'];refine aM (λm (T:bZ) K=>∃(i:Nat) (O1:Nat->Prop),m=kids.length-i/\i<=kids.length/\T 0=ah cb 7 0/\T 1=.int .i64 (r:Int)/\T 5=ah eb 4 0/\T 7=.int .i64 (i:Int)/\po E (oi E (kids.take i) r (x.use r)) cb n0 O1 K/\fU O H1 O1 K) kids.length
   ⟨0,O,rfl,Nat.zero_le _,by simp only[sC,seval];try rfl,by simp only[sC,seval];try rfl,by simp only[sC,seval];try rfl,by simp only[sC,seval];try rfl,A2,F12⟩ ?_
  rintro m T K ⟨i,O1,rfl,hi,t0,t1,t5,t7,AK,FK⟩;have nK:=FK.next;have F0K:=F01.trans FK;have kmK:∀c,c<n0->c<n0/\K.get c=H.get c:=λc hc=>⟨hc,F0K.old c om (λq=>by have:=hON c q;omega)⟩;have z1K:=z1.mono kmK;have z2K:=z2.mono kmK;have rK:=ebO FK;have f0:al false 1 K (ah eb 4 0)=some (.int .u8 (k:Int)):=aj rK rfl rfl;have f1:al false 1 K (ah eb 4 1)=some (.str s):=aj rK rfl rfl;have f3:al false 1 K (ah eb 4 3)=some v:=aj rK rfl rfl;obtain⟨q1,q2,q3⟩:=uM E (kids.take i) r (x.use r);have hst:=vE kids i;rw[u1]at q1;rw[u2]at q2;by_cases hlt:i<kids.length
  ·have hlt':(i:Int)<(kids.length:Int):=om;obtain⟨e,he⟩:∃e,kids[i]?=some e:=⟨_,Xx hlt⟩;have hmem:=XG he;have hsm:=BL he;have hdm:=kL hmem;obtain⟨te,hte⟩:=qA hts e hmem;have ix:=z1K.idx hlt;have ld:=z1K.load hlt;have wi:IntKind.i64.wrap ((i:Int)+1)=((i+1:Nat):Int):=fT i 1 om;have wri:IntKind.i64.wrap ((r:Int)+(i:Int))=((r+i:Nat):Int):=fT r i om;have hil:i+e.size<=aU kids:=by
    have:i=(kids.take i).length:=by rw[XT];omega
    have:=cO (kids.take i);omega
   simp only[sC,seval,t0,t1,t5,t7,aA,f3,ln,hlt',ix,ld,wri];refine(uW hE hEl N om AK (z2K.at he) (B7 hks hmem) hte om om ⟨om,om⟩ om).mono ?_;rintro _ K2 ⟨O2,A2,F2⟩;simp only[sC,seval,t0,t1,t5,t7,wi];refine⟨kids.length-(i+1),om,i+1,O2,rfl,om,tt,tt,tt,tt,?_,FK.trans F2⟩;rw[C5 he];exact A2
  obtain rfl:i=kids.length:=om;have hlt':¬(kids.length:Int)<(kids.length:Int):=om;rw[List.take_length]at AK q1 q2 q3;by_cases h3:k=3
  ·subst h3;have hlast:je E 3 s n kids r (oi E kids r (x.use r))=(if kids.length=1 then(oi E kids r (x.use r)).put (if s=[33]then 8 else 7) r r 0 else if s=[42]/\wx E kids=2 then(oi E kids r (x.use r)).put 5 r (r+1) r else(oi E kids r (x.use r)).put (fy s) r r (r+1)):=rfl;rw[hlast];have hop3:=hop rfl;simp only[Int.cast_ofNat_Int]at f0;by_cases hk1:kids.length=1
   ·have hk1':(kids.length:Int)=1:=om;rw[if_pos hk1];have hnn:¬(1:Int)<1:=om;by_cases hb:s=[33]
    ·rw[if_pos hb];rw[hk1']at t7 ln;simp only[sC,seval,t0,t1,t5,t7,fld0,aA,f3,ln,hnn,f0,f1,hb];refine(de AK 8 r r 0 om).mono ?_;rintro _ H3 ⟨rfl,O3,A3,F3⟩;simp only[sC,seval];exact⟨_,rfl,O3,A3,F0K.trans F3⟩
    ·rw[if_neg hb];rw[hk1']at t7 ln;simp only[sC,seval,t0,t1,t5,t7,fld0,aA,f3,ln,hnn,f0,f1,hb];refine(de AK 7 r r 0 om).mono ?_;rintro _ H3 ⟨rfl,O3,A3,F3⟩;simp only[sC,seval];exact⟨_,rfl,O3,A3,F0K.trans F3⟩
   have hk1':¬(kids.length:Int)=1:=om;have hk2:kids.length=2:=by
    rcases hk:kids.length with _|_|_|m
    ·rw[hk]at hop3;simp[nC]at hop3
    ·omega
    ·rfl
    ·rw[hk]at hop3;simp[nC]at hop3
   rw[hk2]at hop3;rw[if_neg hk1];obtain⟨e0,e1,rfl⟩:∃a b,kids=[a,b]:=by
    match kids,hk2 with
    | [a,b],_=>exact⟨a,b,rfl⟩
   have ix:=z1K.idx (i:=0) (by simp);have ld:=z1K.load (i:=0) (by simp);have hx0:=z2K.at (i:=0) (e:=e0) rfl;simp only[Int.cast_ofNat_Int]at ix;obtain⟨vc1,vd1,vn1,vk1,vr1,AK⟩:=AK;have g3:al false 1 K (ah cb 7 3)=some vn1:=aj AK.row rfl rfl;have g4:al false 1 K (ah cb 7 4)=some vk1:=aj AK.row rfl rfl;have hcbK:=AK.oN _ AK.oc;have hnn:¬(2:Int)<2:=om;have hn1:¬(2:Int)=1:=om;have hle:(([e0,e1]:List Ex).length:Int)=2:=rfl;rw[hle]at t7 ln;have hs0:e0.size<=1000:=by simp only[aU]at hsz;omega
   have hd0:e0.deep<=40:=by simp only[bG]at hdp;omega
   obtain⟨t0',ht0'⟩:=qA hts e0 (by simp);have hq:wx E [e0,e1]=t0':=by show ef E e0=t0';unfold ef;rw[ht0']
   simp only[sC,seval,t0,t1,t5,t7,fld0,aA,f3,ln,hnn,f0,hn1,ix,ld,az,g3,g4];refine(tp hE om (hx0.mono λb hb=>⟨om,rfl⟩) (aT.cel1 AK.ln AK.ln.blk).1 (aT.cel1 AK.lk AK.lk.blk).1 om hd0).mono ?_;rintro _ K2 ⟨rfl,E2⟩;have e2:=E2.next;rw[ht0'];have AS:po E (oi E [e0,e1] r (x.use r)) cb n0 O1 K2:=po.exts ⟨_,_,_,_,_,AK⟩ E2;have FK2:fU O H O1 K2:=F0K.trans (fU.exts E2);have f1':al false 1 K2 (ah eb 4 1)=some (.str s):=aj (rK.same (E2.old _ om)) rfl rfl;by_cases hb:s=[42]
   ·by_cases h2t:t0'=2
    ·subst h2t;rw[if_pos ⟨hb,hq⟩];simp only[sC,seval,oJ,co,bv,bu,Int.cast_ofNat_Int,t0,t1,t5,aA,f1',hb,wr];refine(de AS 5 r (r+1) r om).mono ?_;rintro _ H3 ⟨rfl,O3,A3,F3⟩;simp only[sC,seval];exact⟨_,rfl,O3,A3,FK2.trans F3⟩
    ·have h2z:¬(t0':Int)=2:=om;rw[if_neg (λh=>h2t (hq ▸ h.2))];simp only[sC,seval,oJ,co,bv,bu,t0,t1,t5,aA,f1',hb,h2z];refine(uV (s:=[42]) (by rfl)).mono ?_;rintro _ K3 ⟨rfl,E3⟩;simp only[sC,seval,t1,wr];refine(de (AS.exts E3) (fy [42]) r r (r+1) om).mono ?_;rintro _ H3 ⟨rfl,O3,A3,F3⟩;simp only[sC,seval];exact⟨_,rfl,O3,A3,FK2.trans ((fU.exts E3).trans F3)⟩
   ·rw[if_neg (λh=>hb h.1)];simp only[sC,seval,oJ,co,bv,bu,t0,t1,t5,aA,f1',hb];refine(uV hop3).mono ?_;rintro _ K3 ⟨rfl,E3⟩;simp only[sC,seval,t1,wr];refine(de (AS.exts E3) (fy s) r r (r+1) om).mono ?_;rintro _ H3 ⟨rfl,O3,A3,F3⟩;simp only[sC,seval];exact⟨_,rfl,O3,A3,FK2.trans ((fU.exts E3).trans F3)⟩
  have h3':¬(k:Int)=3:=om;have h4:k=4:=om;subst h4;have hct:js s ts=.ok t:=hkt;have hbt:=Mh hct;have hl4:je E 4 s n kids r (oi E kids r (x.use r))=Cs.put (lQ s) r r (if kids.length=2 then r+1 else 0) (oi E kids r (x.use r)):=rfl;rw[hl4];simp only[Int.cast_ofNat_Int]at f0;by_cases hk2:kids.length=2
  ·have hk2':(kids.length:Int)=2:=om;have hnn:¬(2:Int)<2:=om;rw[if_pos hk2];rw[hk2']at t7 ln;simp only[sC,seval,t0,t1,t5,t7,fld0,aA,f3,ln,hnn,f0,f1,wr];refine(xV hbt).mono ?_;rintro _ K3 ⟨rfl,E3⟩;simp only[sC,seval,t0,t1];refine(de (AK.exts E3) (lQ s) r r (r+1) om).mono ?_;rintro _ H3 ⟨rfl,O3,A3,F3⟩;simp only[sC,seval];exact⟨_,rfl,O3,A3,F0K.trans ((fU.exts E3).trans F3)⟩
  ·have hk2':¬(kids.length:Int)=2:=om;rw[if_neg hk2];simp only[sC,seval,t0,t1,t5,t7,fld0,aA,f3,ln,hlt',f0,f1,hk2'];refine(xV hbt).mono ?_;rintro _ K3 ⟨rfl,E3⟩;simp only[sC,seval,t0,t1];refine(de (AK.exts E3) (lQ s) r r 0 om).mono ?_;rintro _ H3 ⟨rfl,O3,A3,F3⟩;simp only[sC,seval];exact⟨_,rfl,O3,A3,F0K.trans ((fU.exts E3).trans F3)⟩
open Go.Abs Go.Abs.S
def xt:∀(N:Nat) {l:List St} {C:List ae} {v:ae} {H:aa},au l<=N->N<=1000000->eM (·<H.next) H 9 v l.length C->lV (·<H.next) H l C->aq Tryz.prog aF 142 [v] H λu H'=>u=.bool (gt l)/\aS H.next H H':=by
 intro N;induction N with
 |zero=>
  intro l C v H hsz hN z1 z2;have hl0:l=[]:=by
   cases l with
   |nil=>rfl
   |cons x l=>have:=ee x;simp only[au]at hsz;omega
  subst hl0;have ln:=z1.len;have h0:(([]:List St).length:Int)=0:=rfl;refine ak rfl JK rfl ?_;simp only[Jo,sC,seval,ln,h0];exact⟨tt,aS.refl _ _⟩
 |succ N ih=>
  intro l C v H hsz hN z1 z2;have ln:=z1.len;by_cases hl0:l=[]
  ·subst hl0;have h0:(([]:List St).length:Int)=0:=rfl;refine ak rfl JK rfl ?_;simp only[Jo,sC,seval,ln,h0];exact⟨tt,aS.refl _ _⟩
  obtain⟨x,j,hj,he,hr⟩:=uF hl0;have hjl:j<l.length:=om;have hlen:=db l;have hn0:¬(l.length:Int)=0:=om;have wj:IntKind.i64.wrap ((l.length:Int)-1)=(j:Int):=iP;have ix:=z1.idx hjl;have ld:=z1.load hjl;have hsm:=dl (XG he);have hx:=z2.at he;obtain⟨k,s,e,body,els,line⟩:=x;obtain⟨ce,vb,Cb,ve,Ce,hcell,x1,y1,y2,y3,y4⟩:=hx;obtain⟨c0,c1,c2,c3,rfl⟩:∃a b c d,ce=[a,b,c,d]:=by
   have:=x1.len
   match ce,this with
   | [a,b,c,d],_=>exact⟨a,b,c,d,rfl⟩
  have hone:((C.drop (j*9)).take 9).all ae.one=true:=(z2.at he).one;rw[hcell]at ld hone;have hsz2:(St.mk k s e body els line).size=e.size+au body+au els+1:=rfl;have hrs:Ev (.mk k s e body els line)=(decide (k=5)||(decide (k=3)&&(gt body&&gt els))):=rfl;obtain⟨H1,m1,r1,n1,k1⟩:=aC H [.int .u8 0,.str [],.int .u8 0,.str [],.int .i64 0,.slice none 0 (.known 0),.slice none 0 (.known 0),.slice none 0 (.known 0),.int .i64 0] (n:=9) rfl;obtain⟨H2,m2,r2,n2,k2⟩:=am r1 (n:=9) rfl (xs:=.int .u8 (k:Int)::.str s::([c0,c1,c2,c3]++[vb,ve,.int .i64 line])) rfl hone;have m2':bh 9 H1 (ah H.next 9 0) (.agg [.int .u8 (k:Int),.str s,c0,c1,c2,c3,vb,ve,.int .i64 line])=some H2:=m2;have E2:aS H.next H H2:=⟨om,λc hc=>by rw[k2 c om,k1 c om]⟩;have km:∀b,b<H.next->b<H2.next/\H2.get b=H.get b:=λb hb=>⟨om,E2.old b hb⟩;have l0:al false 1 H2 (ah H.next 9 0)=some (.int .u8 (k:Int)):=aj r2 rfl rfl;have l6:al false 1 H2 (ah H.next 9 6)=some vb:=aj r2 rfl rfl;rw[hr,hrs];refine ak rfl JK rfl ?_;by_cases h5:k=5
  ·subst h5;simp only[Int.cast_ofNat_Int]at ld m2' l0;simp only[Jo,sC,seval,ln,hn0,wj,ix,ld,m1,m2',fld0,l0,Int.cast_ofNat_Int];exact⟨tt,E2⟩
  have h5':¬(k:Int)=5:=om;by_cases h3:k=3
  ·subst h3;simp only[Int.cast_ofNat_Int]at ld m2' l0;simp only[Jo,sC,seval,ln,hn0,wj,ix,ld,m1,m2',fld0,aA,l0,l6,Int.cast_ofNat_Int];refine(ih om om (y1.mono km) (y2.mono km)).mono ?_;rintro _ H3 ⟨rfl,E3⟩;have e3:=E3.next;have E23:aS H.next H H3:=⟨om,λc hc=>by rw[E3.old c om,E2.old c hc]⟩;cases hb:gt body with
   |false=>simp only[sC,seval];exact⟨tt,E23⟩
   |true=>have l7:al false 1 H3 (ah H.next 9 7)=some ve:=aj (r2.same (E3.old _ om)) rfl rfl;have km3:∀b,b<H.next->b<H3.next/\H3.get b=H.get b:=λb hb=>⟨om,E23.old b hb⟩;simp only[sC,seval,aA,l7];refine(ih om om (y3.mono km3) (y4.mono km3)).mono ?_;rintro _ H4 ⟨rfl,E4⟩;have e4:=E4.next;simp only[sC,seval];exact⟨by simp,om,λc hc=>by rw[E4.old c om,E23.old c hc]⟩
  ·have h3':¬(k:Int)=3:=om;simp only[Jo,sC,seval,ln,hn0,wj,ix,ld,m1,m2',fld0,l0,h5',h3',h5,h3];exact⟨tt,E2⟩
def NP(E:aO)(x:Bs×Nat):BR E.length++[.int .i64 (E.length:Int)]=BR (E++[x]).length:=by rw[Ku];simp
def Qq{E:aO}{x:Cs}{cb n0:Nat}{O:Nat->Prop}{vc vd vn vk vr:ae}{H Hr:aa}(A:Nn E x cb n0 O vc vd vn vk vr H)(hHr:Hr=((H.push (.cells [] 0 false)).push (.cells [] 0 false)).push (.cells [] 0 false))(s:Bs)(t:Nat)(hEl:E.length<=100000) :
  ∃H2 vn' H3 H4 vk' H5 H6 vr' H7 H8 H9 H10 H11,kj (.fill H.next (.lit 1 [.str []] [(0,1)])) Hr [.str s]=some (.slice (some ⟨H.next,1,0⟩) 1 (.known 1),H2)/\a8 1 16 H2 vn (.slice (some ⟨H.next,1,0⟩) 1 (.known 1))=some (vn',H3) /\
   kj (.fill (H.next+1) (.lit 1 [.int .u8 0] [(0,1)])) H3 [co t]=some (.slice (some ⟨H.next+1,1,0⟩) 1 (.known 1),H4)/\a8 1 1 H4 vk (.slice (some ⟨H.next+1,1,0⟩) 1 (.known 1))=some (vk',H5) /\
   kj (.fill (H.next+2) (.lit 1 [.int .i64 0] [(0,1)])) H5 [.int .i64 (E.length:Int)]=some (.slice (some ⟨H.next+2,1,0⟩) 1 (.known 1),H6)/\a8 1 8 H6 vr (.slice (some ⟨H.next+2,1,0⟩) 1 (.known 1))=some (vr',H7) /\
   bh 1 H7 (ah cb 7 3) vn'=some H8/\bh 1 H8 (ah cb 7 4) vk'=some H9/\bh 1 H9 (ah cb 7 5) vr'=some H10/\al false 1 H10 (ah cb 7 6)=some (.int .i64 (E.length:Int))/\bh 1 H10 (ah cb 7 6) (.int .i64 ((E.length+1:Nat):Int))=some H11 /\
   (al false 1 Hr (ah cb 7 3)=some vn/\al false 1 H2 (ah cb 7 3)=some vn)/\(al false 1 Hr (ah cb 7 4)=some vk/\al false 1 H2 (ah cb 7 4)=some vk/\al false 1 H3 (ah cb 7 4)=some vk/\al false 1 H4 (ah cb 7 4)=some vk) /\
   (al false 1 Hr (ah cb 7 5)=some vr/\al false 1 H2 (ah cb 7 5)=some vr/\al false 1 H3 (ah cb 7 5)=some vr/\al false 1 H4 (ah cb 7 5)=some vr/\al false 1 H5 (ah cb 7 5)=some vr/\al false 1 H6 (ah cb 7 5)=some vr) /\
   (∀c,cg vn=some c->c<H.next)/\(∀c,cg vk=some c->c<H.next)/\(∀c,cg vn'=some c->c≠H.next+1/\c≠H.next+2)/\(∀c,cg vk'=some c->c≠H.next+2)/\(∀c,c<H.next->Hr.get c=H.get c) /\
   ∃O',po (E++[(s,t)]) x cb n0 O' H11/\fU O H O' H11:=by
 have hcb:=A.oN _ A.oc;have nr:Hr.next=H.next+3:=by rw[hHr];rfl
 have kr:∀c,c<H.next->Hr.get c=H.get c:=λc hc=>by rw[hHr,aa.get_push,if_neg (by simp only[aV];omega),aa.get_push,if_neg (by rw[aV];omega),aB hc]
 have gr0:Hr.get H.next=some (.cells [] 0 false):=by rw[hHr,aa.get_push,if_neg (by simp only[aV];omega),aa.get_push,if_neg (by rw[aV];omega),aa.get_push,if_pos rfl]
 have gr1:Hr.get (H.next+1)=some (.cells [] 0 false):=by rw[hHr,aa.get_push,if_neg (by simp only[aV];omega),aa.get_push,if_pos (by rw[aV])]
 have gr2:Hr.get (H.next+2)=some (.cells [] 0 false):=by rw[hHr,aa.get_push,if_pos (by simp only[aV])]
 have bN:=A.ln.blk;have bK:=A.lk.blk;have bR:=A.lr.blk;obtain⟨H2,fl1,n2,g2,k2⟩:=ju gr0 (len:=1) (z:=[.str []]) (ofs:=[(0,1)]) (l:=[.str s]) (xs:=[.str s]) rfl;have k02:∀c,c<H.next->H2.get c=H.get c:=λc hc=>by rw[k2 c om,kr c hc]
 have ln2:aT 1 H2 vn (gh E) E.length:=A.ln.same om (bN.mono λb hb=>k02 b hb);obtain⟨vn',H3,a3,L3,n3,b3,k3⟩:=ln2.many (kz g2) rfl rfl om (bytes:=16) om om;have bcb:bx vn (cb≠·):=A.bn.mono λb hb=>hb.2.symm;have kcb:bx vk (cb≠·):=A.bk.mono λb hb=>hb.2.symm;have rcb:bx vr (cb≠·):=A.br.mono λb hb=>hb.2.symm;have rr:=A.row.same (kr cb hcb.2);have r2:=A.row.same (k02 cb hcb.2);have r3:=r2.same (k3 cb om bcb);have gr13:H3.get (H.next+1)=some (.cells [] 0 false):=by rw[k3 _ om (bN.mono λb hb=>om),k2 _ om];exact gr1
 have gr23:H3.get (H.next+2)=some (.cells [] 0 false):=by rw[k3 _ om (bN.mono λb hb=>om),k2 _ om];exact gr2
 obtain⟨H4,fl2,n4,g4,k4⟩:=ju gr13 (len:=1) (z:=[.int .u8 0]) (ofs:=[(0,1)]) (l:=[co t]) (xs:=[co t]) rfl;have lk4:aT 1 H4 vk (iu E) E.length:=A.lk.same om λa j r e=>by have h1:=bK a j r e;show H4.get a.b=H.get a.b;rw[k4 _ om,k3 _ om (A.nk.symm a j r e),k02 _ h1]
 obtain⟨vk',H5,a5,L5,n5,b5,k5⟩:=lk4.many (kz g4) rfl rfl om (bytes:=1) om om;have r4:=r3.same (k4 cb om);have r5:=r4.same (k5 cb om kcb);have gr25:H5.get (H.next+2)=some (.cells [] 0 false):=by rw[k5 _ om (bK.mono λb hb=>om),k4 _ om];exact gr23
 obtain⟨H6,fl3,n6,g6,k6⟩:=ju gr25 (len:=1) (z:=[.int .i64 0]) (ofs:=[(0,1)]) (l:=[.int .i64 (E.length:Int)]) (xs:=[.int .i64 (E.length:Int)]) rfl;have lr6:aT 1 H6 vr (BR E.length) E.length:=A.lr.same om λa j r e=>by have h1:=bR a j r e;show H6.get a.b=H.get a.b;rw[k6 _ om,k5 _ om (A.kr.symm a j r e),k4 _ om,k3 _ om (A.nr.symm a j r e),k02 _ h1]
 obtain⟨vr',H7,a7,L7,n7,b7,k7⟩:=lr6.many (kz g6) rfl rfl om (bytes:=8) om om;have r6:=r5.same (k6 cb om);have r7:=r6.same (k7 cb om rcb);obtain⟨H8,m8,r8,n8,k8⟩:=bQ r7 (n:=7) rfl (i:=3) om (x:=vn') L3.one (l':=[vc,.int .i64 (x.regs:Int),vd,vn',vk,vr,.int .i64 (E.length:Int)]) rfl;obtain⟨H9,m9,r9,n9,k9⟩:=bQ r8 (n:=7) rfl (i:=4) om (x:=vk') L5.one (l':=[vc,.int .i64 (x.regs:Int),vd,vn',vk',vr,.int .i64 (E.length:Int)]) rfl;obtain⟨H10,m10,r10,n10,k10⟩:=bQ r9 (n:=7) rfl (i:=5) om (x:=vr') L7.one (l':=[vc,.int .i64 (x.regs:Int),vd,vn',vk',vr',.int .i64 (E.length:Int)]) rfl;obtain⟨H11,m11,r11,n11,k11⟩:=bQ r10 (n:=7) rfl (i:=6) om (x:=.int .i64 ((E.length+1:Nat):Int)) rfl (l':=[vc,.int .i64 (x.regs:Int),vd,vn',vk',vr',.int .i64 ((E.length+1:Nat):Int)]) rfl;have ks:∀c,c≠cb->H11.get c=H7.get c:=λc hc=>by rw[k11 c hc,k10 c hc,k9 c hc,k8 c hc]
 have bv3:=b3 (λx=>x<H.next/\(O x/\x≠cb)/\bx vk (x≠·)/\bx vr (x≠·)) (λa j r e=>⟨bN a j r e,A.bn a j r e,A.nk a j r e,A.nr a j r e⟩);have bv5:=b5 (λx=>x<H.next/\(O x/\x≠cb)/\bx vr (x≠·)) (λa j r e=>⟨bK a j r e,A.bk a j r e,A.kr a j r e⟩);have bv7:=b7 (λx=>x<H.next/\(O x/\x≠cb)) (λa j r e=>⟨bR a j r e,A.br a j r e⟩);have hL3:=L3.blk;have hL5:=L5.blk;have hL7:=L7.blk;have q3:∀c,cg vn'=some c->c≠H.next+1/\c≠H.next+2:=λc hc=>by have:=fh bv3 L3 c hc;rcases this with⟨this,_⟩|this<;>omega
 have q5:∀c,cg vk'=some c->c≠H.next+2:=λc hc=>by have:=fh bv5 L5 c hc;rcases this with⟨this,_⟩|this<;>omega
 rw[ux E s t]at L3;rw[uy]at L5;rw[NP E (s,t)]at L7;have hEl2:(E++[(s,t)]).length=E.length+1:=by simp
 have kn:bx vn' λc=>H11.get c=H3.get c:=λa j r e=>by
  have h3:=hL3 a j r e;have hc:=bv3 a j r e;have hb:a.b≠cb:=by
   rcases hc with⟨_,⟨_,hc⟩,_⟩|hc
   ·exact hc
   ·omega
  have hv:bx vk (a.b≠·):=by
   rcases hc with⟨_,_,hc,_⟩|hc
   ·exact hc
   ·exact bK.mono λb hb=>om
  have hw:bx vr (a.b≠·):=by
   rcases hc with⟨_,_,_,hc⟩|hc
   ·exact hc
   ·exact bR.mono λb hb=>om
  have h1:a.b≠H.next+1/\a.b≠H.next+2:=by rcases hc with⟨hc,_⟩|hc<;>omega
  show H11.get a.b=H3.get a.b;rw[ks _ hb,k7 _ om hw,k6 _ h1.2,k5 _ om hv,k4 _ h1.1]
 have kk:bx vk' λc=>H11.get c=H5.get c:=λa j r e=>by
  have h5:=hL5 a j r e;have hc:=bv5 a j r e;have hb:a.b≠cb:=by
   rcases hc with⟨_,⟨_,hc⟩,_⟩|hc
   ·exact hc
   ·omega
  have hw:bx vr (a.b≠·):=by
   rcases hc with⟨_,_,hc⟩|hc
   ·exact hc
   ·exact bR.mono λb hb=>om
  have h1:a.b≠H.next+2:=by rcases hc with⟨hc,_⟩|hc<;>omega
  show H11.get a.b=H5.get a.b;rw[ks _ hb,k7 _ om hw,k6 _ h1]
 have kR:bx vr' λc=>H11.get c=H7.get c:=λa j r e=>by
  have hc:=bv7 a j r e;have hb:a.b≠cb:=by
   rcases hc with⟨_,_,hc⟩|hc
   ·exact hc
   ·omega
  exact ks _ hb
 have old:∀c,c<H.next->c≠cb->bx vn (c≠·)->bx vk (c≠·)->bx vr (c≠·)->H11.get c=H.get c:=λc h1 h2 h3 h4 h5=>by rw[ks c h2,k7 c om h5,k6 c om,k5 c om h4,k4 c om,k3 c om h3,k02 c h1]
 have same:∀{w:ae},bx w (λb=>O b/\b≠cb)->Dj w vn->Dj w vk->Dj w vr->bx w λc=>H11.get c=H.get c:=λh d d2 d3 a j r e=>old _ (A.oN _ (h a j r e).1).2 (h a j r e).2 (d a j r e) (d2 a j r e) (d3 a j r e);have mono:∀{w:ae},bx w (λb=>O b/\b≠cb)->bx w (λb=>OX O H.next H11.next b/\b≠cb):=λh=>h.mono λc hc=>⟨.inl hc.1,hc.2⟩;have hbl:∀{w:ae},bx w (λb=>O b/\b≠cb)->bx w (·<H2.next):=λh=>h.mono λc hc=>by have:=(A.oN c hc.1).2;omega
 have hbl4:∀{w:ae},bx w (λb=>O b/\b≠cb)->bx w (·<H4.next):=λh=>h.mono λc hc=>by have:=(A.oN c hc.1).2;omega
 have hbl6:∀{w:ae},bx w (λb=>O b/\b≠cb)->bx w (·<H6.next):=λh=>h.mono λc hc=>by have:=(A.oN c hc.1).2;omega
 have dnk:Dj vn' vk':=λa j r e=>by
  have h3:=hL3 a j r e;have hc:=bv3 a j r e;refine(b5 (a.b≠·) ?_).mono λx hx=>?_
  ·rcases hc with⟨_,_,hc,_⟩|hc
   ·exact hc
   ·exact bK.mono λb hb=>om
  ·rcases hx with hx|hx
   ·exact hx
   ·omega
 have dnr:Dj vn' vr':=λa j r e=>by
  have h3:=hL3 a j r e;have hc:=bv3 a j r e;refine(b7 (a.b≠·) ?_).mono λx hx=>?_
  ·rcases hc with⟨_,_,_,hc⟩|hc
   ·exact hc
   ·exact bR.mono λb hb=>om
  ·rcases hx with hx|hx
   ·exact hx
   ·omega
 have dkr:Dj vk' vr':=λa j r e=>by
  have h3:=hL5 a j r e;have hc:=bv5 a j r e;refine(b7 (a.b≠·) ?_).mono λx hx=>?_
  ·rcases hc with⟨_,_,hc⟩|hc
   ·exact hc
   ·exact bR.mono λb hb=>om
  ·rcases hx with hx|hx
   ·exact hx
   ·omega
 refine⟨H2,vn',H3,H4,vk',H5,H6,vr',H7,H8,H9,H10,H11,fl1,a3,fl2,a5,fl3,a7,m8,m9,m10,aj r10 rfl rfl,m11,⟨aj rr rfl rfl,aj r2 rfl rfl⟩,⟨aj rr rfl rfl,aj r2 rfl rfl,aj r3 rfl rfl,aj r4 rfl rfl⟩,⟨aj rr rfl rfl,aj r2 rfl rfl,aj r3 rfl rfl,aj r4 rfl rfl,aj r5 rfl rfl,aj r6 rfl rfl⟩,
  λc hc=>fh bN A.ln c hc,λc hc=>fh bK A.lk c hc,q3,q5,kr,OX O H.next H11.next,⟨vc,vd,vn',vk',vr',by rw[hEl2];exact r11,A.lc.same om (same A.bc A.cn A.ck A.cr),A.ld.same om (same A.bd A.dn A.dk A.dr),by rw[hEl2];exact L3.same om kn,by rw[hEl2];exact L5.same om kk,by rw[hEl2]at L7 ⊢;exact L7.same om kR,
  .inl A.oc,?_,mono A.bc,mono A.bd,?_,?_,?_,A.cd,(A.cn.symm.fresh b3 (hbl A.bc)).symm,(A.ck.symm.fresh b5 (hbl4 A.bc)).symm,(A.cr.symm.fresh b7 (hbl6 A.bc)).symm,(A.dn.symm.fresh b3 (hbl A.bd)).symm,(A.dk.symm.fresh b5 (hbl4 A.bd)).symm,(A.dr.symm.fresh b7 (hbl6 A.bd)).symm,dnk,dnr,dkr⟩,om,?_,?_⟩
 ·intro c hc;rcases hc with hc|hc
  ·have:=A.oN c hc;omega
  ·omega
 ·intro a j r e;have h3:=hL3 a j r e;have hc:=bv3 a j r e;rcases hc with⟨_,hc,_⟩|hc
  ·exact⟨.inl hc.1,hc.2⟩
  ·exact⟨.inr ⟨om,om⟩,om⟩
 ·intro a j r e;have h3:=hL5 a j r e;have hc:=bv5 a j r e;rcases hc with⟨_,hc,_⟩|hc
  ·exact⟨.inl hc.1,hc.2⟩
  ·exact⟨.inr ⟨om,om⟩,om⟩
 ·intro a j r e;have h3:=hL7 a j r e;have hc:=bv7 a j r e;rcases hc with⟨_,hc⟩|hc
  ·exact⟨.inl hc.1,hc.2⟩
  ·exact⟨.inr ⟨om,om⟩,om⟩
 ·intro c h1 h2;exact old c h1 (λe=>h2 (e ▸ A.oc)) (A.bn.mono λd hd e=>h2 (e ▸ hd.1)) (A.bk.mono λd hd e=>h2 (e ▸ hd.1)) (A.br.mono λd hd e=>h2 (e ▸ hd.1))
 ·intro c hc;rcases hc with hc|hc
  ·exact .inl hc
  ·exact .inr hc.1
def Qr{E Ei:aO}{x:Cs}{cb n0:Nat}{O:Nat->Prop}{vc vd vn vk vr:ae}{H:aa}(A:Nn Ei x cb n0 O vc vd vn vk vr H)(htk:Ei.take E.length=E)(hl:E.length<=Ei.length) :
  ∃vn' vk' vr' H1 H2 H3 H4,Ii 1 vn none (some (.int .i64 (E.length:Int))) none=some vn'/\Ii 1 vk none (some (.int .i64 (E.length:Int))) none=some vk'/\Ii 1 vr none (some (.int .i64 (E.length:Int))) none=some vr'/\bh 1 H (ah cb 7 3) vn'=some H1/\bh 1 H1 (ah cb 7 4) vk'=some H2/\bh 1 H2 (ah cb 7 5) vr'=some H3/\bh 1 H3 (ah cb 7 6) (.int .i64 (E.length:Int))=some H4/\po E x cb n0 O H4/\fU O H O H4:=by
 obtain⟨vn',s1,L1,b1⟩:=A.ln.cut om hl;obtain⟨vk',s2,L2,b2⟩:=A.lk.cut om hl;obtain⟨vr',s3,L3,b3⟩:=A.lr.cut om hl;rw[Nat.mul_one,Cj,htk]at L1;rw[Nat.mul_one,Cq,htk]at L2;rw[Nat.mul_one,Kt hl]at L3;obtain⟨H1,m1,r1,n1,k1⟩:=bQ A.row (n:=7) rfl (i:=3) om (x:=vn') L1.one (l':=[vc,.int .i64 (x.regs:Int),vd,vn',vk,vr,.int .i64 (Ei.length:Int)]) rfl;obtain⟨H2,m2,r2,n2,k2⟩:=bQ r1 (n:=7) rfl (i:=4) om (x:=vk') L2.one (l':=[vc,.int .i64 (x.regs:Int),vd,vn',vk',vr,.int .i64 (Ei.length:Int)]) rfl;obtain⟨H3,m3,r3,n3,k3⟩:=bQ r2 (n:=7) rfl (i:=5) om (x:=vr') L3.one (l':=[vc,.int .i64 (x.regs:Int),vd,vn',vk',vr',.int .i64 (Ei.length:Int)]) rfl;obtain⟨H4,m4,r4,n4,k4⟩:=bQ r3 (n:=7) rfl (i:=6) om (x:=.int .i64 (E.length:Int)) rfl (l':=[vc,.int .i64 (x.regs:Int),vd,vn',vk',vr',.int .i64 (E.length:Int)]) rfl;have k:∀c,c≠cb->H4.get c=H.get c:=λc hc=>by rw[k4 c hc,k3 c hc,k2 c hc,k1 c hc]
 exact⟨vn',vk',vr',H1,H2,H3,H4,s1,s2,s3,m1,m2,m3,m4,⟨vc,vd,vn',vk',vr',r4,A.lc.same om (A.bc.mono λc hc=>k c hc.2),A.ld.same om (A.bd.mono λc hc=>k c hc.2),L1.same om ((b1 _ A.bn).mono λc hc=>k c hc.2),L2.same om ((b2 _ A.bk).mono λc hc=>k c hc.2),L3.same om ((b3 _ A.br).mono λc hc=>k c hc.2),
  A.oc,λc hc=>by have:=A.oN c hc;omega,A.bc,A.bd,b1 _ A.bn,b2 _ A.bk,b3 _ A.br,A.cd,(show Dj vc vn' from A.cn.mono λc hc=>b1 _ hc),(show Dj vc vk' from A.ck.mono λc hc=>b2 _ hc),(show Dj vc vr' from A.cr.mono λc hc=>b3 _ hc),(show Dj vd vn' from A.dn.mono λc hc=>b1 _ hc),(show Dj vd vk' from A.dk.mono λc hc=>b2 _ hc),(show Dj vd vr' from A.dr.mono λc hc=>b3 _ hc),
  b1 _ (A.nk.mono λc hc=>b2 _ hc),b1 _ (A.nr.mono λc hc=>b3 _ hc),b2 _ (A.kr.mono λc hc=>b3 _ hc)⟩,⟨om,λc _ h2=>k c λe=>h2 (e ▸ A.oc),λ_ h=>.inl h⟩⟩
open Go.Abs Go.Abs.S
def CL(E:aO):List St->aO
 | []=>E
 |s::l=>CL (eo E s) l
def yV:∀(l:List St) (E:aO) {n:Nat},n<=E.length->(CL E l).take n=E.take n
 | [],_,_,_=>rfl
 |s::l,E,n,h=>by have:=lM E s;simp only[CL];rw[yV l (eo E s) om,vW E s h]
def CK:∀(l:List St) (E:aO),E.length<=(CL E l).length
 | [],_=>Nat.le_refl _
 |s::l,E=>by have:=lM E s;have:=CK l (eo E s);simp only[CL];omega
def ZL(N:Nat):Prop:=∀{l:List St} {C:List ae} {v:ae} {E F:aO} {b:Bool} {x:Cs} {cb n0:Nat} {O:Nat->Prop} {H:aa},au l<=N->po E x cb n0 O H->eM (·<n0) H 9 v l.length C->lV (·<n0) H l C->cA l=true->au l<=1000->bw l<=40->kW E->ft E b l=.ok F ->
 x.code.length+3*au l<=40000->x.cons.length+au l<=40000->E.length+au l<=40000->aq Tryz.prog aF 141 [ah cb 7 0,v] H λ_ H'=>∃O',po E (cL E l x) cb n0 O' H'/\fU O H O' H'
def fU.same{O:Nat->Prop}{H H':aa}(n:H'.next=H.next)(k:∀c,¬O c->H'.get c=H.get c):fU O H O H':=⟨om,λc _ h=>k c h,λ_ h=>.inl h⟩
set_option maxHeartbeats 2000000 in
def JI{N:Nat}(ih:∀M,M<N->ZL M){k:Nat}{s:Bs}{e:Ex}{body els:List St}{line:Int}{ce Cb Ce:List ae}{vb ve:ae}{E E':aO}{x:Cs}{cb n0:Nat}{O:Nat->Prop}{H:aa}
  (hsz:(St.mk k s e body els line).size<=N) (A:po E x cb n0 O H) (hx:XE (·<n0) H e ce)
  (y1:eM (·<n0) H 9 vb body.length Cb) (y2:lV (·<n0) H body Cb) (y3:eM (·<n0) H 9 ve els.length Ce) (y4:lV (·<n0) H els Ce) (hok:Bb (.mk k s e body els line)=true) (hs:(St.mk k s e body els line).size<=1000) (hd:(St.mk k s e body els line).deep<=40)
  (hE:kW E) (hck:xJ E (.mk k s e body els line)=.ok E') (hc1:x.code.length+3*(St.mk k s e body els line).size<=40000) (hc2:x.cons.length+(St.mk k s e body els line).size<=40000) (hc3:E.length+(St.mk k s e body els line).size<=40000) :
  aq Tryz.prog aF 90 [ah cb 7 0,.agg (.int .u8 (k:Int)::.str s::(ce++[vb,ve,.int .i64 line]))] H λ_ H'=>∃O',po (eo E (.mk k s e body els line)) (cS E (.mk k s e body els line) x) cb n0 O' H'/\fU O H O' H':=by
 obtain⟨hlf,hokE,hokB,hokL⟩:=oT hok;have hk5:=uE hlf;have hS:(St.mk k s e body els line).size=e.size+au body+au els+1:=rfl;have hD:(St.mk k s e body els line).deep=max e.deep (max (bw body) (bw els))+1:=rfl;obtain⟨t,hty,hhd,⟨Fb,hFb⟩,Fl,hFl⟩:=oZ hck;have hnx:=p8 hhd;obtain⟨c0,c1,c2,c3,rfl⟩:∃a b c d,ce=[a,b,c,d]:=by
  have:=hx.len
  match ce,this with
  | [a,b,c,d],_=>exact⟨a,b,c,d,rfl⟩
 have hcb:=A.lt;have hON:=A.oN;obtain⟨H1,m1,r1,n1,k1⟩:=aC H (.int .u8 (k:Int)::.str s::([c0,c1,c2,c3]++[vb,ve,.int .i64 line])) (n:=9) rfl;have m1':ga H [.int .u8 (k:Int),.str s,c0,c1,c2,c3,vb,ve,.int .i64 line]=(ah H.next 9 0,H1):=m1;have E1:aS H.next H H1:=⟨om,λc hc=>k1 c om⟩;have A1:=A.exts E1;have F01:fU O H O H1:=fU.exts E1;obtain⟨eb,heb⟩:∃b,b=H.next:=⟨_,rfl⟩;rw[<- heb]at m1' r1 k1;have ebR:∀{O2:Nat->Prop} {K:aa},fU O H1 O2 K->be K eb (.int .u8 (k:Int)::.str s::([c0,c1,c2,c3]++[vb,ve,.int .i64 line])):=λF=>r1.same (F.old eb om λq=>by have:=hON _ q;omega);have ebO:∀{O2:Nat->Prop} {K:aa},fU O H1 O2 K->al false 1 K (ah eb 9 0)=some (.int .u8 (k:Int))/\al false 1 K (ah eb 9 1)=some (.str s)/\al true 4 K (ah eb 9 2)=some (.agg [c0,c1,c2,c3])/\al false 1 K (ah eb 9 6)=some vb/\al false 1 K (ah eb 9 7)=some ve:=λF=>by have r:=ebR F;refine⟨aj r rfl rfl,aj r rfl rfl,?_,aj r rfl rfl,aj r rfl rfl⟩;have h:=iF r (n:=9) rfl (i:=2) (k:=4) (by simp);simp only[al,ah];rw[h];rfl
 obtain⟨q0,q1,q2,q6,q7⟩:=ebO (fU.refl O H1);have km:∀{O2:Nat->Prop} {K:aa},fU O H1 O2 K->∀c,c<n0->c<n0/\K.get c=H.get c:=λF c hc=>⟨hc,by rw[F.old c om (λq=>by have:=hON c q;omega),E1.old c om]⟩;obtain⟨l6,vd,l2,Ld⟩:al false 1 H1 (ah cb 7 6)=some (.int .i64 (E.length:Int))/\∃vd,al false 1 H1 (ah cb 7 2)=some vd/\aT 4 H1 vd (jo x.code) x.code.length:=by obtain⟨vc,vd,vn,vk,vr,A1⟩:=A1;exact⟨aj A1.row rfl rfl,vd,aj A1.row rfl rfl,A1.ld⟩
 have ldd:=Ld.len;refine ak rfl V0 rfl ?_;simp only[c90,sC,seval,aG,m1',az,fld0,aA,l6,l2,ldd,q2];refine(uW hE om e.size rL A1 (hx.mono (km (fU.refl O H1))) hokE hty om om ⟨om,om⟩ om).mono ?_;rintro _ H2 ⟨O2,A2,F2⟩;obtain⟨w1,w2,w3⟩:=AO E e E.length x;have w4:=uN E e E.length x;obtain⟨y,hy⟩:∃y,y=cE E e E.length x:=⟨_,rfl⟩;rw[<- hy]at A2 w1 w2 w3 w4;have e2:=F2.next;obtain⟨q0,q1,q2,q6,q7⟩:=ebO F2;have nxE:k≠1->E'=E:=λh=>by rw[hnx,if_neg h]
 simp only[sC,seval,fld0,q0];rcases hk5 with rfl|rfl|rfl|rfl|rfl
 ·-- let
  have hcS:cS E (.mk 1 s e body els line) x=y:=by rw[hy];rfl
  have hnn:eo E (.mk 1 s e body els line)=E++[(s,t)]:=by
   have:ef E e=t:=by unfold ef;rw[hty]
   rw[<- this];rfl
  rw[hcS,hnn];obtain⟨vc1,vd1,vn1,vk1,vr1,A2⟩:=A2;have hON2:=A2.oN;have g3:al false 1 H2 (ah cb 7 3)=some vn1:=aj A2.row rfl rfl;have g4:al false 1 H2 (ah cb 7 4)=some vk1:=aj A2.row rfl rfl;simp only[sC,seval,Int.cast_ofNat_Int,aA,q2,az,g3,g4];refine(tp hE om ((hx.mono (km F2)).mono λb hb=>⟨by have:=A2.oN _ A2.oc;omega,rfl⟩) (aT.cel1 A2.ln A2.ln.blk).1 (aT.cel1 A2.lk A2.lk.blk).1 om om).mono ?_;rintro _ H3 ⟨rfl,E3⟩;rw[hty];have e3:=E3.next;have A3:=A2.keep E3.next λc hc=>E3.old c (hON2 c hc).2;have F3:=F2.trans (fU.exts E3);obtain⟨q0,q1,q2,q6,q7⟩:=ebO F3;obtain⟨Hr,hHr⟩:∃J,J=((H3.push (.cells [] 0 false)).push (.cells [] 0 false)).push (.cells [] 0 false):=⟨_,rfl⟩;obtain⟨X2,vn',X3,X4,vk',X5,X6,vr',X7,X8,X9,X10,X11,fl1,a3,fl2,a5,fl3,a7,m8,m9,m10,l10,m11,⟨u1,u2⟩,⟨u3,u4,u5,u6⟩,⟨u7,u8,u9,u10,u11,u12⟩,ap1,ap2,ap3,ap4,kr,O8,A8,F8⟩:=Qq A3 hHr s t om;have qr1:al false 1 Hr (ah eb 9 1)=some (.str s):=aj ((ebR F3).same (kr eb om)) rfl rfl;have wn:IntKind.i64.wrap ((E.length:Int)+1)=((E.length+1:Nat):Int):=iP;have apN:∀{x:ae},(∀c,cg x=some c->H3.next+1≠c)->mV .apart [.slice (some ⟨H3.next+1,1,0⟩) 1 (.known 1),x]=some (.bool true):=λh=>jH (pa _ h);have apM:∀{x:ae},(∀c,cg x=some c->H3.next+2≠c)->mV .apart [.slice (some ⟨H3.next+2,1,0⟩) 1 (.known 1),x]=some (.bool true):=λh=>jH (pa _ h);have cl:∀(i d:Nat) ,∀c,cg (ah cb 7 i)=some c->H3.next+d≠c:=λi d c hc=>by simp only[cg,ah,sJ]at hc;omega
  have ce':∀(d:Nat),∀c,cg (ah eb 9 1)=some c->H3.next+d≠c:=λd c hc=>by simp only[cg,ah,sJ]at hc;omega
  have sl:∀(i d:Nat),i≠d->∀c,cg (.slice (some ⟨H3.next+i,1,0⟩) 1 (.known 1))=some c->H3.next+d≠c:=λi d hi c hc=>by simp only[cg,sJ]at hc;omega
  have p1:=apN (sl 0 1 dD);have p2:=apN (cl 3 1);have p3:=apN (ce' 1);have p4:=apN (cl 4 1);have p5:=apN (cl 5 1);have p6:=apN (x:=vn1) λc hc=>by have:=ap1 c hc;omega
  have p7:=apN (x:=vn') λc hc=>by have:=ap3 c hc;omega
  have s1:=apM (sl 0 2 dD);have s2:=apM (cl 3 2);have s3:=apM (ce' 2);have s4:=apM (cl 4 2);have s5:=apM (cl 5 2);have s6:=apM (x:=vn1) λc hc=>by have:=ap1 c hc;omega
  have s7:=apM (x:=vn') λc hc=>by have:=ap3 c hc;omega
  have s8:=apM (sl 1 2 dD);have s9:=apM (x:=vk1) λc hc=>by have:=ap2 c hc;omega
  have s10:=apM (x:=vk') λc hc=>by have:=ap4 c hc;omega
  simp only[Nat.add_zero]at p1 s1;have aN:=aT.aeq A3.ln;have aK:=aT.aeq A3.lk;have aR:=aT.aeq A3.lr;simp only[sC,seval,oJ,bv,bu];refine er ?_;simp only[aH,dT,bp,iE,jF,<- hHr];simp only[sR,sC,seval,az,fld0,aA,u1,qr1,fl1,a3,u5,fl2,a5,u11,fl3,a7,m8,m9,m10];simp only[ci,cj,bP,dE,cm,cQ,and_true,true_and,List.map_cons,List.map_nil,sC,seval,az,fld0,aA];refine⟨⟨⟨_,rfl,λ_=>⟨_,u2,aN⟩⟩,⟨⟨_,rfl,λ_=>⟨_,u3,aK⟩⟩,⟨_,rfl,λ_=>⟨_,u4,aK⟩⟩,⟨_,rfl,λ_=>⟨_,u6,aK⟩⟩⟩,⟨_,rfl,λ_=>⟨_,u7,aR⟩⟩,⟨_,rfl,λ_=>⟨_,u8,aR⟩⟩,⟨_,rfl,λ_=>⟨_,u9,aR⟩⟩,⟨_,rfl,λ_=>⟨_,u10,aR⟩⟩,⟨_,rfl,λ_=>⟨_,u12,aR⟩⟩⟩,?_⟩;simp only[sC,seval,p1,p2,p3,p4,p5,p6,p7,s1,s2,s3,s4,s5,s6,s7,s8,s9,s10,az,aA,l10,wn,m11];exact⟨_,rfl,O8,A8,F01.trans (F3.trans F8)⟩
 ·have hEE:=nxE dD;subst hEE;have hcS:cS E' (.mk 2 s e body els line) x=y.put 2 (mI s E') E'.length 0:=by rw[hy];rfl
  have hnn:eo E' (.mk 2 s e body els line)=E':=rfl;rw[hcS,hnn];obtain⟨i,hi1⟩:∃i,bB s E'=some i:=by
   cases hf:bB s E' with
   |some i=>exact⟨i,rfl⟩
   |none=>simp[dc,hf]at hhd
  have hreg:mI s E'=i:=by unfold mI;rw[hi1];rfl
  rw[hreg];simp only[sC,seval,Int.cast_ofNat_Int,aA,q1];refine(xU hE A2 hi1 om).mono ?_;rintro _ _ ⟨rfl,rfl⟩;simp only[sC,seval];refine(de A2 2 i E'.length 0 om).mono ?_;rintro _ H3 ⟨rfl,O3,A3,F3⟩;simp only[sC,seval];exact⟨_,rfl,O3,A3,F01.trans (F2.trans F3)⟩
 ·have hEE:=nxE dD;subst hEE;have hcS:cS E' (.mk 3 s e body els line) x=(if els.length=0 then(cL E' body (y.put 33 E'.length 0 0)).land y.code.length else if gt body then cL E' els ((cL E' body (y.put 33 E'.length 0 0)).land y.code.length)
   else(cL E' els (((cL E' body (y.put 33 E'.length 0 0)).put 32 0 0 0).land y.code.length)).land (cL E' body (y.put 33 E'.length 0 0)).code.length):=by rw[hy];rfl
  have hnn:eo E' (.mk 3 s e body els line)=E':=rfl;rw[hcS,hnn];simp only[sC,seval,Int.cast_ofNat_Int];refine(de A2 33 E'.length 0 0 om).mono ?_;rintro _ H3 ⟨rfl,O3,A3,F3⟩;have F13:=F2.trans F3;have e3:=F3.next;obtain⟨p1,p2⟩:=iG 33 E'.length 0 0 y;obtain⟨q0,q1,q2,q6,q7⟩:=ebO F13;simp only[sC,seval,aA,q6];refine(ih (au body) om rL A3 (y1.mono (km F13)) (y2.mono (km F13)) hokB om om hE hFb om (by rw[p2];omega) om).mono ?_;rintro _ H4 ⟨O4,A4,F4⟩;have F14:=F13.trans F4;have e4:=F4.next;obtain⟨b1,b2,b3⟩:=mB E' body (y.put 33 E'.length 0 0);have b4:=iS E' body (y.put 33 E'.length 0 0);obtain⟨z,hz⟩:∃z,z=cL E' body (y.put 33 E'.length 0 0):=⟨_,rfl⟩;rw[<- hz]at A4 b1 b2 b3 b4 ⊢;rw[p1]at b1 b4;rw[p2]at b2;have lel:=(y3.mono (km F14)).len;obtain⟨q0,q1,q2,q6,q7⟩:=ebO F14;have hcl0:(0:Int)<=(y.code.length:Int):=om;by_cases h0:els.length=0
  ·have h0':¬(0:Int)<(els.length:Int):=om;simp only[sC,seval,aA,q7,lel,h0',hcl0];rw[if_pos h0];refine(jI A4 om).mono ?_;rintro _ H5 ⟨A5,n5,k5⟩;simp only[sC,seval];exact⟨_,rfl,O4,A5,F01.trans (F14.trans (.same n5 k5))⟩
  ·have h0':(0:Int)<(els.length:Int):=om;rw[if_neg h0];simp only[sC,seval,aA,q7,lel,h0',q6];have kmN:∀b,b<n0->b<H4.next/\H4.get b=H.get b:=λb hb=>⟨by have:=A4.lt;omega,(km F14 b hb).2⟩;refine(xt (au body) rL om (y1.mono kmN) (y2.mono kmN)).mono ?_;rintro _ H5 ⟨rfl,E5⟩;have e5:=E5.next;have A5:=A4.exts E5;have F15:=F14.trans (fU.exts E5);obtain⟨z1,z2⟩:=hU y.code.length z;cases hr:gt body with
   |true=>rw[if_pos rfl];simp only[sC,seval];refine(jI A5 om).mono ?_;rintro _ H6 ⟨A6,n6,k6⟩;have F16:=F15.trans (.same n6 k6);obtain⟨q0,q1,q2,q6,q7⟩:=ebO F16;have hm1:¬(0:Int)<=-1:=om;simp only[sC,seval,aA,q7];refine(ih (au els) om rL A6 (y3.mono (km F16)) (y4.mono (km F16)) hokL om om hE hFl om (by rw[z2];omega) om).mono ?_;rintro _ H7 ⟨O7,A7,F7⟩;simp only[sC,seval,hm1];exact⟨_,rfl,O7,A7,F01.trans (F16.trans F7)⟩
   |false=>rw[if_neg (by simp)];simp only[sC,seval];refine(de A5 32 0 0 0 om).mono ?_;rintro _ H6 ⟨rfl,O6,A6,F6⟩;obtain⟨v1,v2⟩:=iG 32 0 0 0 z;have F16:=F15.trans F6;simp only[sC,seval];refine(jI A6 om).mono ?_;rintro _ H7 ⟨A7,n7,k7⟩;have F17:=F16.trans (.same n7 k7);obtain⟨q0,q1,q2,q6,q7⟩:=ebO F17;obtain⟨u1,u2⟩:=hU y.code.length (z.put 32 0 0 0);have hzl0:(0:Int)<=(z.code.length:Int):=om;simp only[sC,seval,aA,q7];refine(ih (au els) om rL A7 (y3.mono (km F17)) (y4.mono (km F17)) hokL om om hE hFl om (by rw[u2,v2];omega) om).mono ?_;rintro _ H8 ⟨O8,A8,F8⟩;have gr:=iS E' els ((z.put 32 0 0 0).land y.code.length);simp only[sC,seval,hzl0];refine(jI A8 om).mono ?_;rintro _ H9 ⟨A9,n9,k9⟩;simp only[sC,seval];exact⟨_,rfl,O8,A9,F01.trans (F17.trans (F8.trans (.same n9 k9)))⟩
 ·have hEE:=nxE dD;subst hEE;have hcS:cS E' (.mk 4 s e body els line) x=((cL E' body (y.put 33 E'.length 0 0)).put 32 0 0 x.code.length).land y.code.length:=by rw[hy];rfl
  have hnn:eo E' (.mk 4 s e body els line)=E':=rfl;rw[hcS,hnn];simp only[sC,seval,Int.cast_ofNat_Int];refine(de A2 33 E'.length 0 0 om).mono ?_;rintro _ H3 ⟨rfl,O3,A3,F3⟩;have F13:=F2.trans F3;obtain⟨p1,p2⟩:=iG 33 E'.length 0 0 y;obtain⟨q0,q1,q2,q6,q7⟩:=ebO F13;simp only[sC,seval,aA,q6];refine(ih (au body) om rL A3 (y1.mono (km F13)) (y2.mono (km F13)) hokB om om hE hFb om (by rw[p2];omega) om).mono ?_;rintro _ H4 ⟨O4,A4,F4⟩;have F14:=F13.trans F4;obtain⟨b1,b2,b3⟩:=mB E' body (y.put 33 E'.length 0 0);have b4:=iS E' body (y.put 33 E'.length 0 0);obtain⟨z,hz⟩:∃z,z=cL E' body (y.put 33 E'.length 0 0):=⟨_,rfl⟩;rw[<- hz]at A4 b1 b2 b3 b4 ⊢;rw[p1]at b1 b4;simp only[sC,seval];refine(de A4 32 0 0 x.code.length om).mono ?_;rintro _ H5 ⟨rfl,O5,A5,F5⟩;obtain⟨v1,v2⟩:=iG 32 0 0 x.code.length z;simp only[sC,seval];refine(jI A5 om).mono ?_;rintro _ H6 ⟨A6,n6,k6⟩;simp only[sC,seval];exact⟨_,rfl,O5,A6,F01.trans (F14.trans (F5.trans (.same n6 k6)))⟩
 ·have hEE:=nxE dD;subst hEE;have hcS:cS E' (.mk 5 s e body els line) x=y.put 34 E'.length 0 0:=by rw[hy];rfl
  have hnn:eo E' (.mk 5 s e body els line)=E':=rfl;rw[hcS,hnn];simp only[sC,seval,Int.cast_ofNat_Int];refine(de A2 34 E'.length 0 0 om).mono ?_;rintro _ H3 ⟨rfl,O3,A3,F3⟩;simp only[sC,seval];exact⟨_,rfl,O3,A3,F01.trans (F2.trans F3)⟩
def Bd{N:Nat}(ih:∀M,M<N->ZL M){l:List St}{C:List ae}{v:ae}{E F:aO}{b:Bool}{x:Cs}{cb n0:Nat}{O:Nat->Prop}{H:aa}(hsz:au l<=N)(A:po E x cb n0 O H)(z1:eM (·<n0) H 9 v l.length C)(z2:lV (·<n0) H l C)(hok:cA l=true)(hs:au l<=1000)(hd:bw l<=40)(hE:kW E)(hck:ft E b l=.ok F)
  (hc1:x.code.length+3*au l<=40000) (hc2:x.cons.length+au l<=40000) (hc3:E.length+au l<=40000):aq Tryz.prog aF 47 [ah cb 7 0,v] H λ_ H'=>∃O',po (CL E l) (cL E l x) cb n0 O' H'/\fU O H O' H':=by
 have ln:=z1.len;have hcb:=A.lt;have hON:=A.oN;have hlenl:=db l;refine ak rfl Wr rfl ?_;simp only[c47,sC,seval];refine aM (λm (T:bZ) K=>∃(i:Nat) (Ei:aO) (xi:Cs) (Oi:Nat->Prop),m=l.length-i/\i<=l.length/\T 0=ah cb 7 0/\T 1=v/\T 4=.int .i64 (i:Int)/\po Ei xi cb n0 Oi K/\fU O H Oi K/\CL E l=CL Ei (l.drop i)/\kW Ei /\
   cL E l x=cL Ei (l.drop i) xi/\(∃b' F',ft Ei b' (l.drop i)=.ok F')/\xi.code.length+3*au (l.drop i)<=40000/\xi.cons.length+au (l.drop i)<=40000/\Ei.length+au (l.drop i)<=40000) l.length
  ⟨0,E,x,O,rfl,Nat.zero_le _,by simp only[sC,seval];try rfl,by simp only[sC,seval];try rfl,by simp only[sC,seval];try rfl,A,fU.refl _ _,rfl,hE,rfl,⟨b,F,hck⟩,hc1,hc2,hc3⟩ ?_
 rintro m T K ⟨i,Ei,xi,Oi,rfl,hi,t0,t1,t4,AK,FK,hen,hEi,hcl,⟨b',F',hckK⟩,hd1,hd2,hd3⟩;by_cases hlt:i<l.length
 case neg=>obtain rfl:i=l.length:=om;have hlt':¬(l.length:Int)<(l.length:Int):=om;rw[List.drop_length]at hcl hen;simp only[sC,seval,t0,t1,t4,ln,hlt'];refine⟨_,rfl,Oi,?_,FK⟩;rw[hcl,hen];exact AK
 have hlt':(i:Int)<(l.length:Int):=om;obtain⟨y,he⟩:∃e,l[i]?=some e:=⟨_,Xx hlt⟩;have hdrop:l.drop i=y::l.drop (i+1):=by rw[<- (Xy.1 he).2,<- List.drop_eq_getElem_cons hlt]
 rw[hdrop]at hcl hckK hd1 hd2 hd3 hen;obtain⟨hcy,b2,hck2⟩:=CW hckK;have hmem:=XG he;have hsm:=dl hmem;have hdm:=mz hmem;have low:∀c,c<n0->c<n0/\K.get c=H.get c:=λc hc=>⟨hc,FK.old c om λq=>by have:=hON c q;omega⟩;have z1K:=z1.mono low;have z2K:=z2.mono low;have ix:=z1K.idx hlt;have ld:=z1K.load hlt;have hx3:=z2K.at he;have hokx:=Ah hok hmem;have wi:IntKind.i64.wrap ((i:Int)+1)=((i+1:Nat):Int):=fT i 1 om;have hscp:=HB hEi hcy;have hnl:=lM Ei y;have hlim:=FF Ei y xi;have hpos:=ee y;simp only[au]at hd1 hd2 hd3;obtain⟨k,sx,e,body,els,line⟩:=y;obtain⟨ce,vb,Cb,ve,Ce,hcell,x1,y1,y2,y3,y4⟩:=hx3;rw[hcell]at ld;have hst:=JI (ce:=ce) (vb:=vb) (ve:=ve) (Cb:=Cb) (Ce:=Ce) ih om AK x1 y1 y2 y3 y4 hokx om om hEi hcy om om om;obtain⟨cc,hcc⟩:∃cc,cc=ae.int .u8 (k:Int)::.str sx::(ce++[vb,ve,.int .i64 line]):=⟨_,rfl⟩;rw[<- hcc]at ld hst;simp only[sC,seval,t0,t1,t4,ln,hlt',ix,ld];refine hst.mono ?_;rintro _ K2 ⟨O2,A2,F2⟩;simp only[sC,seval,t0,t1,t4,wi];exact⟨l.length-(i+1),om,i+1,eo Ei (.mk k sx e body els line),cS Ei (.mk k sx e body els line) xi,O2,rfl,om,tt,tt,tt,A2,FK.trans F2,hen,hscp,hcl,⟨b2,F',hck2⟩,om,om,om⟩
def Ns{N:Nat}(ih:∀M,M<N->ZL M):ZL N:=by
 intro l C v E F b x cb n0 O H hsz A z1 z2 hok hs hd hE hck hc1 hc2 hc3;obtain⟨vn,l3,Ln,l6⟩:∃vn,al false 1 H (ah cb 7 3)=some vn/\aT 1 H vn (gh E) E.length/\al false 1 H (ah cb 7 6)=some (.int .i64 (E.length:Int)):=by obtain⟨vc,vd,vn,vk,vr,A⟩:=A;exact⟨vn,aj A.row rfl rfl,A.ln,aj A.row rfl rfl⟩
 have lnn:=Ln.len;refine ak rfl Ts rfl ?_;simp only[US,sC,seval,az,aA,l3,lnn,l6];refine(Bd ih hsz A z1 z2 hok hs hd hE hck hc1 hc2 hc3).mono ?_;rintro _ K ⟨O2,AK,FK⟩;obtain⟨vc1,vd1,vn1,vk1,vr1,AK⟩:=AK;have g3:al false 1 K (ah cb 7 3)=some vn1:=aj AK.row rfl rfl;have g4:al false 1 K (ah cb 7 4)=some vk1:=aj AK.row rfl rfl;have g5:al false 1 K (ah cb 7 5)=some vr1:=aj AK.row rfl rfl;obtain⟨vn',vk',vr',H1,H2,H3,H4,s1,s2,s3,m1,m2,m3,m4,A4,F4⟩:=Qr AK (by rw[yV l E rL,List.take_length]) (CK l E);simp only[sC,seval,az,aA,g3,s1,g4,s2,g5,s3,m1,m2,m3,m4];exact⟨_,rfl,O2,A4,FK.trans F4⟩
def Qp(N:Nat):ZL N:=by
 induction N using Nat.strongRecOn with
 |_ N ih=>exact Ns ih
open Go.Abs Go.Abs.S
def xu{l:List St}{C:List ae}{v:ae}{n0:Nat}{H:aa}(z1:eM (·<n0) H 9 v l.length C)(z2:lV (·<n0) H l C)(hn:n0<=H.next)(hsz0:au l<=1000000) :
  aq Tryz.prog aF 21 [v] H λu H'=>(∃vc vd,u=.tuple [Ga (cI l).1 vc vd,.agg (iA (cI l).2)]/\Ik (cI l).1 vc vd (In H.next H'.next) H')/\aS H.next H H':=by
 refine ak rfl WM rfl ?_;obtain⟨H1,m1,r1,n1,k1⟩:=aC H [aX,.int .i64 0,aX] (n:=3) rfl;obtain⟨H2,m2,r2,n2,k2⟩:=aC H1 [.int .i64 0,.int .i64 0] (n:=2) rfl;have k02:∀c,c<H.next->H2.get c=H.get c:=λc hc=>by rw[k2 c om,k1 c om]
 have km:∀{K:aa},(∀c,c<H.next->K.get c=H.get c)->∀c,c<n0->c<H.next/\K.get c=H.get c:=λh c hc=>⟨om,h c om⟩;obtain⟨ab,hab⟩:∃b,b=H.next:=⟨_,rfl⟩;obtain⟨fb,hfb⟩:∃b,b=H1.next:=⟨_,rfl⟩;rw[<- hab]at m1 r1 k1;rw[<- hfb]at m2 r2 k2;have m1':ga H [.slice none 0 (.known 0),.int .i64 0,.slice none 0 (.known 0)]=_:=m1;simp only[c21,sC,seval,m1',m2];have km2:∀c,c<n0->c<H2.next/\H2.get c=H.get c:=λc hc=>⟨om,k02 c om⟩;refine(CR (z1.mono km2) (z2.mono km2) hsz0).mono ?_;rintro _ H3 ⟨rfl,E3⟩;have e3:=E3.next;obtain⟨H4,m4,r4,n4,k4⟩:=aC H3 [.int .i64 0,.int .i64 0] (n:=2) rfl;obtain⟨H5,m5,r5,n5,k5⟩:=am r4 (n:=2) rfl (xs:=iA (dm l)) rfl rfl;have k05:∀c,c<H.next->H5.get c=H.get c:=λc hc=>by rw[k5 c om,k4 c om,E3.old c om,k02 c hc]
 have rA:be H5 ab [aX,.int .i64 0,aX]:=r1.same (by rw[k5 ab om,k4 ab om,E3.old ab om,k2 ab om]);have rF:be H5 fb [.int .i64 0,.int .i64 0]:=r2.same (by rw[k5 fb om,k4 fb om,E3.old fb om]);have l5:al false 1 H5 (ah H3.next 2 0)=some (.int .i64 ((dm l).1:Int)):=aj r5 rfl rfl;simp only[sC,seval,m4,m5,fld0,l5];unfold cI;by_cases hc:(dm l).1=0
 case neg=>have hc':¬((dm l).1:Int)=0:=om;obtain⟨H6,m6,r6,n6,k6⟩:=am rA (n:=3) rfl (xs:=[aX,.int .i64 0,aX]) rfl rfl;obtain⟨H7,m7,r7,n7,k7⟩:=am (rF.same (k6 fb om)) (n:=2) rfl (xs:=iA (dm l)) rfl rfl;have l5a:al true 2 H5 (ah H3.next 2 0)=some (.agg (iA (dm l))):=aw r5 rfl;have l6a:al true 2 H6 (ah H3.next 2 0)=some (.agg (iA (dm l))):=aw (r5.same (k6 _ om)) rfl;have bz:aJ [.slice none 0 (.known 0),.int .i64 0,.slice none 0 (.known 0)] []=some (.agg [aX,.int .i64 0,aX]):=rfl;rw[if_neg hc];simp only[sC,seval,hc'];refine dI rfl ?_;simp only[sR,sC,seval,bz,l5a,m6,m7];simp only[ci,cj,bP,cm,cQ,and_true,true_and,List.map_cons,List.map_nil,sC,seval];refine⟨⟨_,rfl,λ_=>⟨_,l6a,by simp[aeq,iA,aeqs,gd]⟩⟩,?_⟩;refine nT _ _ _ _ _ _ _ (v:=.agg [aX,.int .i64 0,aX]) (v':=.agg (iA (dm l))) (by simp only[sC,seval];exact aw (r6.same (k7 ab om)) rfl) (by simp only[sC,seval];exact aw r7 rfl) ?_;exact⟨⟨aX,aX,rfl,Ik.nil _ _⟩,om,λc hcc=>by rw[k7 c om,k6 c om,k05 c om]⟩
 obtain⟨hc0,hr,hret,F,hck⟩:=CX hc;have hok:cA l=true:=by simp only[d8,XA]at hr;exact hr.1
 have hfit:au l<=1000/\bw l<=40:=by simp only[d8,hX,XA,XK]at hr;exact hr.2
 have hc':((dm l).1:Int)=0:=om;have bt:aJ [.slice none 0 (.known 0),.int .i64 0,.slice none 0 (.known 0)] [(1,1,.int .i64 4)]=some (.agg [aX,.int .i64 4,aX]):=rfl;rw[if_pos hc];obtain⟨H8,hH8⟩:∃J,J=H5.push (.cells (gh ba) 0 false):=⟨_,rfl⟩;have n8:H8.next=H5.next+1:=by rw[hH8];rfl
 obtain⟨H9,hH9⟩:∃J,J=H8.push (.cells (iu ba) 0 false):=⟨_,rfl⟩;have n9:H9.next=H8.next+1:=by rw[hH9];rfl
 obtain⟨Hg,hHg⟩:∃J,J=H9.push (.cells (BR 4) 0 false):=⟨_,rfl⟩;have ng:Hg.next=H9.next+1:=by rw[hHg];rfl
 have b8:aL 4 [.str []] H5 [(0,1,.str [117]),(1,1,.str [118]),(2,1,.str [112]),(3,1,.str [110])]=some (.slice (some ⟨H5.next,4,0⟩) 4 (.known 4),H8):=by rw[hH8];rfl
 have b9:aL 4 [.int .u8 0] H8 [(0,1,.int .u8 1),(1,1,.int .u8 1),(2,1,.int .u8 2),(3,1,.int .u8 2)]=some (.slice (some ⟨H8.next,4,0⟩) 4 (.known 4),H9):=by rw[hH9];rfl
 have bg:aL 4 [.int .i64 0] H9 [(0,1,.int .i64 0),(1,1,.int .i64 1),(2,1,.int .i64 2),(3,1,.int .i64 3)]=some (.slice (some ⟨H9.next,4,0⟩) 4 (.known 4),Hg):=by rw[hHg];rfl
 have L8:aT 1 H8 (.slice (some ⟨H5.next,4,0⟩) 4 (.known 4)) (gh ba) 4:=by rw[hH8];exact aT.built (m:=1) (k:=4) H5 (xs:=gh ba) rfl
 have L9:aT 1 H9 (.slice (some ⟨H8.next,4,0⟩) 4 (.known 4)) (iu ba) 4:=by rw[hH9];exact aT.built (m:=1) (k:=4) H8 (xs:=iu ba) rfl
 have Lg:aT 1 Hg (.slice (some ⟨H9.next,4,0⟩) 4 (.known 4)) (BR 4) 4:=by rw[hHg];exact aT.built (m:=1) (k:=4) H9 (xs:=BR 4) rfl
 obtain⟨H10,m10,r10,n10,k10⟩:=aC Hg [aX,.int .i64 4,aX,.slice (some ⟨H5.next,4,0⟩) 4 (.known 4),.slice (some ⟨H8.next,4,0⟩) 4 (.known 4),.slice (some ⟨H9.next,4,0⟩) 4 (.known 4),.int .i64 4] (n:=7) rfl;have bb:aJ [.slice none 0 (.known 0),.int .i64 0,.slice none 0 (.known 0),.slice none 0 (.known 0),.slice none 0 (.known 0),.slice none 0 (.known 0),.int .i64 0] [(0,3,.agg [aX,.int .i64 4,aX]),(3,1,.slice (some ⟨H5.next,4,0⟩) 4 (.known 4)),(4,1,.slice (some ⟨H8.next,4,0⟩) 4 (.known 4)),(5,1,.slice (some ⟨H9.next,4,0⟩) 4 (.known 4)),(6,1,.int .i64 4)] =
  some (.agg [aX,.int .i64 4,aX,.slice (some ⟨H5.next,4,0⟩) 4 (.known 4),.slice (some ⟨H8.next,4,0⟩) 4 (.known 4),.slice (some ⟨H9.next,4,0⟩) 4 (.known 4),.int .i64 4]):=rfl
 have bN:bx (.slice (some ⟨H5.next,4,0⟩) 4 (.known 4)) (·=H5.next):=cp rfl;have bK:bx (.slice (some ⟨H8.next,4,0⟩) 4 (.known 4)) (·=H8.next):=cp rfl;have bR:bx (.slice (some ⟨H9.next,4,0⟩) 4 (.known 4)) (·=H9.next):=cp rfl;have ob:∀c,H5.next<=c->c<H10.next->c≠Hg.next->(H5.next<=c/\c<H10.next)/\c≠Hg.next:=λc a1 a2 a3=>⟨⟨a1,a2⟩,a3⟩;have k05':∀c,c<H5.next->H10.get c=H5.get c:=λc hc=>by rw[k10 c om,hHg,aB om,hH9,aB om,hH8,aB hc]
 have A10:po ba uo Hg.next H.next (λc=>H5.next<=c/\c<H10.next) H10:=
  ⟨aX,aX,_,_,_,r10,.inl ⟨rfl,rfl,rfl⟩,.inl ⟨rfl,rfl,rfl⟩,L8.same om (bN.mono λc hc=>by show H10.get c=H8.get c;rw[k10 c om,hHg,aB om,hH9,aB om]),L9.same om (bK.mono λc hc=>by show H10.get c=H9.get c;rw[k10 c om,hHg,aB om]),Lg.same om (bR.mono λc hc=>k10 c om),
   ⟨om,om⟩,λc hc=>om,cP _,cP _,bN.mono λc hc=>ob c om om om,bK.mono λc hc=>ob c om om om,bR.mono λc hc=>ob c om om om,cP _,cP _,cP _,cP _,cP _,cP _,cP _,
   bN.mono λc hc=>bK.mono λd hd=>om,bN.mono λc hc=>bR.mono λd hd=>om,bK.mono λc hc=>bR.mono λd hd=>om⟩
 have k0A:∀c,c<H.next->H10.get c=H.get c:=λc hc=>by rw[k05' c om,k05 c hc]
 simp only[sC,seval,hc',bt,b8,b9,bg,bb,aG,m10];refine(Bd (λM _=>Qp M) (Nat.le_refl (au l)) A10 (z1.mono (km k0A)) (z2.mono (km k0A)) hok hfit.1 hfit.2 kW.given hck (by show 0+_<=_;omega) (by show 0+_<=_;omega) (by show 4+_<=_;omega)).mono ?_;rintro _ H11 ⟨O11,A11,F11⟩;have n11:=F11.next;have kOld:∀c,c<H5.next->H11.get c=H5.get c:=λc hc=>by rw[F11.old c om (by show¬(H5.next<=c/\c<H10.next);omega),k05' c hc]
 obtain⟨vc,vd,vn,vk,vr,A11⟩:=A11;have lr:al false 1 H11 (ah Hg.next 7 1)=some (.int .i64 ((cL ba l uo).regs:Int)):=aj A11.row rfl rfl;have rA11:=rA.same (kOld ab om);have rF11:=rF.same (kOld fb om);simp only[sC,seval,az,fld0,aA,lr];by_cases h250:250<(cL ba l uo).regs
 ·have h250':(250:Int)<((cL ba l uo).regs:Int):=om;have bz:aJ [.slice none 0 (.known 0),.int .i64 0,.slice none 0 (.known 0)] []=some (.agg [aX,.int .i64 0,aX]):=rfl;have bf:aJ [.int .i64 0,.int .i64 0] [(0,1,.int .i64 102)]=some (.agg [.int .i64 102,.int .i64 0]):=rfl;obtain⟨H12,m12,r12,n12,k12⟩:=am rA11 (n:=3) rfl (xs:=[aX,.int .i64 0,aX]) rfl rfl;obtain⟨H13,m13,r13,n13,k13⟩:=am (rF11.same (k12 fb om)) (n:=2) rfl (xs:=[.int .i64 102,.int .i64 0]) rfl rfl;rw[if_pos h250];simp only[sC,seval,h250',bz,bf,m12,m13];refine nT _ _ _ _ _ _ _ (v:=.agg [aX,.int .i64 0,aX]) (v':=.agg [.int .i64 102,.int .i64 0]) (by simp only[sC,seval];exact aw (r12.same (k13 ab om)) rfl) (by simp only[sC,seval];exact aw r13 rfl) ?_;exact⟨⟨aX,aX,rfl,Ik.nil _ _⟩,om,λc hcc=>by rw[k13 c om,k12 c om,kOld c om,k05 c om]⟩
 ·have h250':¬(250:Int)<((cL ba l uo).regs:Int):=om;have l3:al true 3 H11 (ah Hg.next 7 0)=some (Ga (cL ba l uo) vc vd):=by
   have h:=iF A11.row (n:=7) rfl (i:=0) (k:=3) (by simp);simp only[al,ah];rw[h];rfl
  have bf:aJ [.int .i64 0,.int .i64 0] []=some (.agg [.int .i64 0,.int .i64 0]):=rfl;obtain⟨H12,m12,r12,n12,k12⟩:=am rA11 (n:=3) rfl (xs:=[vc,.int .i64 ((cL ba l uo).regs:Int),vd]) rfl (by simp only[List.all_cons,List.all_nil,A11.lc.one,A11.ld.one];rfl);obtain⟨H13,m13,r13,n13,k13⟩:=am (rF11.same (k12 fb om)) (n:=2) rfl (xs:=[.int .i64 0,.int .i64 0]) rfl rfl;have m12':bh 3 H11 (ah ab 3 0) (Ga (cL ba l uo) vc vd)=some H12:=m12;have kk:∀c,c≠ab->c≠fb->H13.get c=H11.get c:=λc h1 h2=>by rw[k13 c h2,k12 c h1]
  have bIn:∀{w:ae},bx w (λb=>O11 b/\b≠Hg.next)->bx w λc=>In H.next H13.next c/\c≠ab/\c≠fb:=λh=>h.mono λc hc=>by
   have q1:=A11.oN c hc.1;have q2:=F11.own c hc.1;have q3:H5.next<=c:=by
    rcases q2 with q2|q2
    ·exact q2.1
    ·omega
   exact⟨⟨q1.1,om⟩,om,om⟩
  rw[if_neg h250];simp only[sC,seval,h250',l3,bf,m12',m13];refine nT _ _ _ _ _ _ _ (v:=Ga (cL ba l uo) vc vd) (v':=.agg [.int .i64 0,.int .i64 0]) (by simp only[sC,seval];exact aw (r12.same (k13 ab om)) rfl) (by simp only[sC,seval];exact aw r13 rfl) ?_;have i1:=bIn A11.bc;have i2:=bIn A11.bd;exact⟨⟨vc,vd,rfl,⟨A11.lc.same om (i1.mono λc hc=>kk c hc.2.1 hc.2.2),A11.ld.same om (i2.mono λc hc=>kk c hc.2.1 hc.2.2),i1.mono λc hc=>hc.1,i2.mono λc hc=>hc.1,A11.cd⟩⟩,om,λc hcc=>by rw[kk c om om,kOld c om,k05 c om]⟩
open Go.Abs Go.Abs.S
noncomputable section
set_option maxRecDepth 100000
def c5:cf:=⟨67,zq [zo 4 (.box (.t 1)),zo 5 (.box (.t 2)),zo 6 (.mv (.c (.bool false)))] (zr [zm 12 0,zx 13 7 [.t 12,zi 100,zi 1500],zm 14 13,zg 15 (.fieldA 2 (.t 4)) 14 false,zg 16 (.load false 1 (.t 15)) 14 false,zg 17 (.len false (.t 16)) 14 false,zg 18 (.fieldA 0 (.t 4)) 14 false,zg 19 (.load false 1 (.t 18)) 14 false,zg 20 (.len false (.t 19)) 14 false,zg 21 (.bin .add (.t 17) (.t 20)) 14 false,zg 22 (.bin .gtr (.t 21) (zi 5000)) 14 false,zo 23 (.pick (.t 14) (.c (.bool true)) (.t 22))] 23 (zq [zx 24 19 [],zm 6 24] .ret) .skip (zq [zm 25 0,zx 26 11 [.t 25],zm 7 26] (zq [zm 28 7,zx 29 20 [.t 28],zm 27 29,ze 30 0 27,ze 31 1 27,zo 8 (.new [zN,zI 0,zN]),zo 9 (.new [zI 0,zI 0]),zp (.store 3 (.t 8) (.t 30)),zp (.store 2 (.t 9) (.t 31))] (zq [zm 33 0,zx 34 21 [.t 33],zm 32 34,ze 35 0 32,ze 36 1 32,zo 10 (.new [zN,zI 0,zN]),zo 11 (.new [zI 0,zI 0]),zp (.store 3 (.t 10) (.t 35)),zp (.store 2 (.t 11) (.t 36))] (.seq (.draw [zt 37 3 8,zt 38 3 10,zx 39 22 [.t 37,.t 38],zm 40 39,zg 41 (.load true 2 (.t 9)) 40 true,zg 42 (.load true 2 (.t 11)) 40 true,zg 43 (.pf (.eqS false [(0,.int),(1,.int)]) [.t 41,.t 42]) 40 true,zo 44 (.pick (.t 40) (.t 43) (.c (.bool false))),zm 45 44,zg 46 (.load true 3 (.t 4)) 45 true,zg 47 (.call 23 [.t 46]) 45 true,zg 48 (.load true 3 (.t 4)) 45 true,zg 49 (.call 24 [.t 48]) 45 true,zg 50 (.bin .eql (.t 47) (.t 49)) 45 true,zo 51 (.pick (.t 45) (.t 50) (.c (.bool false))),zm 52 51,zg 53 (.load true 4 (.t 5)) 52 true,zg 54 (.call 25 [.t 53]) 52 true,zg 55 (.load true 4 (.t 5)) 52 true,zg 56 (.call 26 [.t 55]) 52 true,zg 57 (.bin .eql (.t 54) (.t 56)) 52 true,zo 58 (.pick (.t 52) (.t 57) (.c (.bool false))),zm 59 58,zg 60 (.mv (.t 7)) 59 true,zg 61 (.mv (.t 0)) 59 true,zg 62 (.call 14 [.t 60,.t 61,.c (.bool true)]) 59 true,zo 63 (.pick (.t 59) (.t 62) (.c (.bool false))),zm 64 63,zg 65 (.call 19 []) 64 true,zo 66 (.pick (.t 64) (.t 65) (.c (.bool false))),zm 6 66] [[],[],[],[],[],[],[],[],[],[],[],[10],[],[],[],[],[],[],[17],[],[],[],[],[],[],[],[],[],[],[],[]]) .ret))))),[.t 6]⟩
def za5:cN Tryz.prog 5=some c5:=by kernel_rfl
def c19:cf:=by
 refine(λx (_:cN Tryz.prog 19=some x)=>x) ?a ?b
 case b=>cbv;rfl
def WO:cN Tryz.prog 19=some c19:=by kernel_rfl
def c43:cf:=by
 refine(λx (_:cN Tryz.prog 43=some x)=>x) ?a ?b
 case b=>cbv;rfl
def Wv:cN Tryz.prog 43=some c43:=by kernel_rfl
def c42:cf:=by
 refine(λx (_:cN Tryz.prog 42=some x)=>x) ?a ?b
 case b=>cbv;rfl
def Ww:cN Tryz.prog 42=some c42:=by kernel_rfl
def c22:cf:=by
 refine(λx (_:cN Tryz.prog 22=some x)=>x) ?a ?b
 case b=>cbv;rfl
def WL:cN Tryz.prog 22=some c22:=by kernel_rfl
def c48:cf:=by
 refine(λx (_:cN Tryz.prog 48=some x)=>x) ?a ?b
 case b=>cbv;rfl
def Wq:cN Tryz.prog 48=some c48:=by kernel_rfl
end
open Go.Abs Go.Abs.S
def vG{a:List Int}{v w:ae}{n m:Nat}{H:aa}(c:fo n H v (mO a))(d:fo m H w (mO a))(hl:a.length<=1000000):aq Tryz.prog aF 48 [v,w] H λu H'=>u=.bool true/\H=H':=by
 have lx:=c.len;have ly:=d.len;rw[rD]at lx ly;refine ak rfl Wq rfl ?_;simp only[c48,sC,seval,lx,ly];refine aM (λk (T:bZ) H'=>H=H'/\∃i:Nat,k=a.length-i/\i<=a.length/\T 0=v/\T 1=w/\T 5=.int .i64 (i:Int)) a.length
  ⟨rfl,0,rfl,Nat.zero_le _,by simp only[sC,seval];try rfl,by simp only[sC,seval];try rfl,by simp only[sC,seval];try rfl⟩ ?_
 rintro k T _ ⟨rfl,i,rfl,hi,t0,t1,t5⟩;by_cases hlt:i<a.length
 case neg=>obtain rfl:i=a.length:=om;have hlt':¬(a.length:Int)<(a.length:Int):=om;simp only[sC,seval,t0,t1,t5,lx,hlt'];exact⟨tt,tt⟩
 have hlt':(i:Int)<(a.length:Int):=om;obtain⟨x,hx⟩:∃x,a[i]?=some x:=⟨_,Xx hlt⟩;have i1:=c.idx .i64 (i:=i) (by rw[rD];exact hlt);have l1:=c.load (i:=i) (x:=.int .i64 x) (by simp[mO,hx]);have i2:=d.idx .i64 (i:=i) (by rw[rD];exact hlt);have l2:=d.load (i:=i) (x:=.int .i64 x) (by simp[mO,hx]);have wk:IntKind.i64.wrap ((i:Int)+1)=((i+1:Nat):Int):=iP;simp only[sC,seval,t0,t1,t5,lx,hlt',i1,l1,i2,l2,wk];exact⟨a.length-(i+1),om,tt,i+1,rfl,om,tt,tt,tt⟩
def vF{a:List Bs}{v w:ae}{n m:Nat}{H:aa}(c:fo n H v (a.map .str))(d:fo m H w (a.map .str))(hl:a.length<=1000000):aq Tryz.prog aF 42 [v,w] H λu H'=>u=.bool true/\H=H':=by
 have lx:=c.len;have ly:=d.len;rw[XM]at lx ly;refine ak rfl Ww rfl ?_;simp only[c42,sC,seval,lx,ly];refine aM (λk (T:bZ) H'=>H=H'/\∃i:Nat,k=a.length-i/\i<=a.length/\T 0=v/\T 1=w/\T 5=.int .i64 (i:Int)) a.length
  ⟨rfl,0,rfl,Nat.zero_le _,by simp only[sC,seval];try rfl,by simp only[sC,seval];try rfl,by simp only[sC,seval];try rfl⟩ ?_
 rintro k T _ ⟨rfl,i,rfl,hi,t0,t1,t5⟩;by_cases hlt:i<a.length
 case neg=>obtain rfl:i=a.length:=om;have hlt':¬(a.length:Int)<(a.length:Int):=om;simp only[sC,seval,t0,t1,t5,lx,hlt'];exact⟨tt,tt⟩
 have hlt':(i:Int)<(a.length:Int):=om;obtain⟨x,hx⟩:∃x,a[i]?=some x:=⟨_,Xx hlt⟩;have i1:=c.idx .i64 (i:=i) (by rw[XM];exact hlt);have l1:=c.load (i:=i) (x:=.str x) (by simp[hx]);have i2:=d.idx .i64 (i:=i) (by rw[XM];exact hlt);have l2:=d.load (i:=i) (x:=.str x) (by simp[hx]);have wk:IntKind.i64.wrap ((i:Int)+1)=((i+1:Nat):Int):=iP;simp only[sC,seval,t0,t1,t5,lx,hlt',i1,l1,i2,l2,wk];exact⟨a.length-(i+1),om,tt,i+1,rfl,om,tt,tt,tt⟩
def Lh{m k:Nat}{H:aa}{v:ae}{L:List ae}(h:aT m H v L k):eM (λ_=>True) H m v k L:=by
 rcases h with⟨rfl,rfl,rfl⟩|⟨b,C,low,r,rfl,h2,h3,h4,h5,h6,h7,h8⟩
 ·exact .inl ⟨rfl,rfl,rfl⟩
 ·refine .inr ⟨_,r,rfl,trivial,?_⟩;have:=iF (H:=H) ⟨low,h3,h4⟩ rfl (i:=0) (k:=m*k) (by rw[Nat.mul_comm];omega);rw[this,List.drop_zero,Nat.mul_comm,h5]
def AF:∀{l:List JE} {i:Nat} {x:JE},l[i]?=some x->((jo l).drop (i*4)).take 4=xr x
 | [],i,x,h=>by simp at h
 |y::l,0,x,h=>by simp only[XH,sJ]at h;subst h;rfl
 |y::l,i+1,x,h=>by simp only[XI]at h;have:=AF h;rw[show(i+1)*4=(xr y).length+i*4 by simp[xr];omega];simp only[jo];rw[List.drop_append,List.drop_of_length_le om,List.nil_append,show(xr y).length+i*4-(xr y).length=i*4 by omega];exact this
def BQ{x:Cs}{vc vd wc wd:ae}{P Q:Nat->Prop}{H:aa}(A:Ik x vc vd P H)(B:Ik x wc wd Q H)(hl1:x.code.length<=1000000)(hl2:x.cons.length<=1000000):aq Tryz.prog aF 22 [Ga x vc vd,Ga x wc wd] H λu H'=>u=.bool true/\aS H.next H H':=by
 obtain⟨H1,m1,r1,n1,k1⟩:=aC H [vc,.int .i64 (x.regs:Int),vd] (n:=3) rfl;obtain⟨H2,m2,r2,n2,k2⟩:=aC H1 [wc,.int .i64 (x.regs:Int),wd] (n:=3) rfl;have E2:aS H.next H H2:=⟨om,λc hc=>by rw[k2 c om,k1 c om]⟩;have q1:be H2 H.next [vc,.int .i64 (x.regs:Int),vd]:=r1.same (k2 _ om);have l1:al false 1 H2 (ah H.next 3 1)=some (.int .i64 (x.regs:Int)):=aj q1 rfl rfl;have l1':al false 1 H2 (ah H1.next 3 1)=some (.int .i64 (x.regs:Int)):=aj r2 rfl rfl;have l2:al false 1 H2 (ah H.next 3 2)=some vd:=aj q1 rfl rfl;have l2':al false 1 H2 (ah H1.next 3 2)=some wd:=aj r2 rfl rfl;have l0:al false 1 H2 (ah H.next 3 0)=some vc:=aj q1 rfl rfl;have l0':al false 1 H2 (ah H1.next 3 0)=some wc:=aj r2 rfl rfl;have ld1:aT 4 H2 vd (jo x.code) x.code.length:=A.ld.same om (A.ld.blk.mono λb hb=>E2.old b hb);have ld2:aT 4 H2 wd (jo x.code) x.code.length:=B.ld.same om (B.ld.blk.mono λb hb=>E2.old b hb);have lc1:aT 1 H2 vc (mO x.cons) x.cons.length:=A.lc.same om (A.lc.blk.mono λb hb=>E2.old b hb);have lc2:aT 1 H2 wc (mO x.cons) x.cons.length:=B.lc.same om (B.lc.blk.mono λb hb=>E2.old b hb);have e1:=ld1.len;have e2:=ld2.len;have s1:=Lh ld1;have s2:=Lh ld2;refine ak rfl WL rfl ?_;unfold Ga;simp only[c22,sC,seval,aG,m1,m2,fld0,aA,l1,l1',l2,l2',l0,l0',e1,e2];refine(vG (aT.cel1 lc1 lc1.blk).1 (aT.cel1 lc2 lc2.blk).1 hl2).mono ?_;rintro _ _ ⟨rfl,rfl⟩;simp only[sC,seval,aA,l2,e1];refine aM (λk (T:bZ) L=>L=H2/\∃i:Nat,k=x.code.length-i/\i<=x.code.length/\T 2=ah H.next 3 0/\T 3=ah H1.next 3 0/\T 30=.int .i64 (x.code.length:Int)/\T 31=.int .i64 (i:Int)) x.code.length
  ⟨rfl,0,rfl,Nat.zero_le _,by simp only[sC,seval];try rfl,by simp only[sC,seval];try rfl,by simp only[sC,seval];try rfl,by simp only[sC,seval];try rfl⟩ ?_
 rintro k T L ⟨rfl,i,rfl,hi,t2,t3,t30,t31⟩;by_cases hlt:i<x.code.length
 case neg=>obtain rfl:i=x.code.length:=om;have hlt':¬(x.code.length:Int)<(x.code.length:Int):=om;simp only[sC,seval,t2,t3,t30,t31,hlt'];exact⟨tt,E2⟩
 have hlt':(i:Int)<(x.code.length:Int):=om;obtain⟨y,hy⟩:∃y,x.code[i]?=some y:=⟨_,Xx hlt⟩;have i1:=s1.idx hlt;have i2:=s2.idx hlt;have p1:=s1.load hlt;have p2:=s2.load hlt;rw[AF hy]at p1 p2;have wk:IntKind.i64.wrap ((i:Int)+1)=((i+1:Nat):Int):=iP;have eq:mV (.eqS true [(0,.int),(1,.int),(2,.int),(3,.int)]) [.agg (xr y),.agg (xr y)]=some (.bool false):=by simp[mV,Du,eZ,So,OM,xr,gd]
 simp only[sC,seval,t2,t3,t30,t31,hlt',aA,l2,l2',i1,i2,p1,p2,eq,wk];exact⟨x.code.length-(i+1),om,tt,i+1,rfl,om,tt,tt,tt,tt⟩
def Rj(f:lY):mV (.eqS false [(0,.int),(1,.int)]) [.agg (iA f),.agg (iA f)]=some (.bool true):=by simp[mV,Du,eZ,So,OM,iA,gd]
open Go.Abs Go.Abs.S
def ig{u:Nat}(h:u<10):gV u=[UInt8.ofNat (48+u)]:=by rw[gV];rw[dif_pos h]
def lO{u:Nat}(h:¬u<10):gV u=gV (u / 10)++[UInt8.ofNat (48+u % 10)]:=by rw[gV];rw[dif_neg h]
def OR{H:aa}{d:Nat}(h:d<10):fo (H.next+1) (H.push (.cells [.int .u8 ((48+d:Nat):Int)] 0 false)) (.slice (some ⟨H.next,1,0⟩) 1 (.known 1)) (eJ [UInt8.ofNat (48+d)]):=by
 have e:eJ [UInt8.ofNat (48+d)]=[.int .u8 ((48+d:Nat):Int)]:=by
  have:(UInt8.ofNat (48+d)).toNat=48+d:=by simp;omega
  simp only[eJ,List.map_cons,List.map_nil,this]
 rw[e];exact dd (xs:=[ae.int .u8 ((48+d:Nat):Int)])
def lN:∀(N n:Nat),n<=N->(gV n).length<=n / 10+1
 |0,n,h=>by rw[ig om];simp
 |N+1,n,h=>by
  by_cases h10:n<10
  ·rw[ig h10];simp
  ·have:=lN N (n / 10) om;rw[lO h10,lA];simp only[XB,XC];omega
def VT(n:Int):MQ .neg (.int .u64 n)=some (.int .u64 (IntKind.u64.wrap (0-n))):=by simp only[MQ,mX]
def fd{z:Int}{H:aa}(h1:-9223372036854775808<=z)(h2:z<9223372036854775808):aq Tryz.prog aF 53 [.int .i64 z] H λu H'=>u=.str (cV z)/\aS H.next H H':=by
 have dP:∀(u:Nat) (K:aa),cT .add (.int .u64 48) (.int .u64 ((u % 10:Nat):Int))=some (.int .u64 ((48+u % 10:Nat):Int))/\IntKind.u8.wrap ((48+u % 10:Nat):Int)=((48+u % 10:Nat):Int)/\aL 1 [.int .u8 0] K [(0,1,.int .u8 ((48+u % 10:Nat):Int))]=some (.slice (some ⟨K.next,1,0⟩) 1 (.known 1),K.push (.cells [.int .u8 ((48+u % 10:Nat):Int)] 0 false)) /\
   FX (K.push (.cells [.int .u8 ((48+u % 10:Nat):Int)] 0 false)) (.slice (some ⟨K.next,1,0⟩) 1 (.known 1))=some (.str [UInt8.ofNat (48+u % 10)]):=λu K=>by
  have hm:=Nat.mod_lt u (show 0<10 by omega);refine⟨?_,?_,rfl,Go.Abs.S.bs_cel (OR hm)⟩
  ·rw[AP,IntKind.wrap_u64];congr 2;omega
  ·rw[IntKind.wrap_u8];omega
 refine ak rfl Wk rfl ?_;by_cases hz:z<0
 ·obtain⟨n,hn⟩:∃n,n=z.natAbs:=⟨_,rfl⟩;have hi:cV z=[45]++gV n:=by unfold cV;rw[if_pos hz,hn];rfl
  have w1:IntKind.u64.wrap (0-IntKind.u64.wrap z)=(n:Int):=by rw[IntKind.wrap_u64,IntKind.wrap_u64];omega
  have hn64:n<18446744073709551616:=om;obtain⟨d1,d2,d3,d4⟩:=dP n H;have rm:=vL (a:=n) 10 om;simp only[Int.cast_ofNat_Int]at rm;rw[hi];simp only[Xc,sC,seval,mA,hz,VT,w1,rm,d1,d2,d3,d4];refine aM (λm (T:bZ) K=>aS H.next H K/\∃(u:Nat) (S:Bs),m=u/\u<18446744073709551616/\T 3=.str [45]/\T 4=.int .u64 (u:Int)/\T 5=.str S/\gV n=(if u<10 then []else gV (u / 10))++S) n
   ⟨⟨by show _<=H.next+1;omega,λc hc=>aB hc⟩,n,[UInt8.ofNat (48+n % 10)],rfl,hn64,by simp only[sC,seval];try rfl,by simp only[sC,seval];try rfl,by simp only[sC,seval];try rfl,by
    by_cases h:n<10
    ·rw[if_pos h,ig h,Nat.mod_eq_of_lt h];rfl
    ·rw[if_neg h,lO h]⟩ ?_
  rintro m T K ⟨EK,u,S,hm,hu,t3,t4,t5,hd⟩;subst hm;have hSl:S.length<=n / 10+1:=by have:=lN n n rL;rw[hd,lA]at this;omega
  by_cases h10:m<10
  ·have h10':¬(10:Int)<=(m:Int):=om;rw[if_pos h10,List.nil_append]at hd;rw[hd];have sb:cT .add (.str [45]) (.str S)=some (.str ([45]++S)):=gD (by simp only[XB,XC];omega);simp only[sC,seval,t3,t4,t5,h10',sb];exact⟨tt,EK⟩
  have h10':(10:Int)<=(m:Int):=om;have qm:=Ew (a:=m) 10 om hu;have rm2:=vL (a:=m / 10) 10 om;simp only[Int.cast_ofNat_Int]at qm rm2;obtain⟨g1,g2,g3,g4⟩:=dP (m / 10) K;have sa:cT .add (.str [UInt8.ofNat (48+m / 10 % 10)]) (.str S)=some (.str ([UInt8.ofNat (48+m / 10 % 10)]++S)):=gD (by simp only[XB,XC];omega);simp only[sC,seval,t3,t4,t5,h10',qm,rm2,g1,g2,g3,g4,sa];refine⟨m / 10,om,⟨by have:=EK.next;show _<=K.next+1;omega,λc hc=>by rw[aB (by have:=EK.next;omega),EK.old c hc]⟩,m / 10,_,rfl,om,tt,tt,tt,?_⟩;rw[if_neg h10]at hd;rw[hd];by_cases h:m / 10<10
  ·rw[if_pos h,ig h,Nat.mod_eq_of_lt h];rfl
  ·rw[if_neg h,lO h];simp
 ·obtain⟨n,hn⟩:∃n,n=z.natAbs:=⟨_,rfl⟩;have hi:cV z=gV n:=by unfold cV;rw[if_neg hz,hn]
  have w1:IntKind.u64.wrap z=(n:Int):=by rw[IntKind.wrap_u64];omega
  have hn64:n<18446744073709551616:=om;obtain⟨d1,d2,d3,d4⟩:=dP n H;have rm:=vL (a:=n) 10 om;simp only[Int.cast_ofNat_Int]at rm;rw[hi];simp only[Xc,sC,seval,mA,hz,w1,rm,d1,d2,d3,d4];refine aM (λm (T:bZ) K=>aS H.next H K/\∃(u:Nat) (S:Bs),m=u/\u<18446744073709551616/\T 3=.str []/\T 4=.int .u64 (u:Int)/\T 5=.str S/\gV n=(if u<10 then []else gV (u / 10))++S) n
   ⟨⟨by show _<=H.next+1;omega,λc hc=>aB hc⟩,n,[UInt8.ofNat (48+n % 10)],rfl,hn64,by simp only[sC,seval];try rfl,by simp only[sC,seval];try rfl,by simp only[sC,seval];try rfl,by
    by_cases h:n<10
    ·rw[if_pos h,ig h,Nat.mod_eq_of_lt h];rfl
    ·rw[if_neg h,lO h]⟩ ?_
  rintro m T K ⟨EK,u,S,hm,hu,t3,t4,t5,hd⟩;subst hm;have hSl:S.length<=n / 10+1:=by have:=lN n n rL;rw[hd,lA]at this;omega
  by_cases h10:m<10
  ·have h10':¬(10:Int)<=(m:Int):=om;rw[if_pos h10,List.nil_append]at hd;rw[hd];have sb:cT .add (.str []) (.str S)=some (.str ([]++S)):=gD (by simp only[XB,XC];omega);simp only[sC,seval,t3,t4,t5,h10',sb];exact⟨tt,EK⟩
  have h10':(10:Int)<=(m:Int):=om;have qm:=Ew (a:=m) 10 om hu;have rm2:=vL (a:=m / 10) 10 om;simp only[Int.cast_ofNat_Int]at qm rm2;obtain⟨g1,g2,g3,g4⟩:=dP (m / 10) K;have sa:cT .add (.str [UInt8.ofNat (48+m / 10 % 10)]) (.str S)=some (.str ([UInt8.ofNat (48+m / 10 % 10)]++S)):=gD (by simp only[XB,XC];omega);simp only[sC,seval,t3,t4,t5,h10',qm,rm2,g1,g2,g3,g4,sa];refine⟨m / 10,om,⟨by have:=EK.next;show _<=K.next+1;omega,λc hc=>by rw[aB (by have:=EK.next;omega),EK.old c hc]⟩,m / 10,_,rfl,om,tt,tt,tt,?_⟩;rw[if_neg h10]at hd;rw[hd];by_cases h:m / 10<10
  ·rw[if_pos h,ig h,Nat.mod_eq_of_lt h];rfl
  ·rw[if_neg h,lO h];simp
open Go.Abs Go.Abs.S
def zP(z:Int):Prop:=-9223372036854775808<=z/\z<9223372036854775808
def qX{z:Int}(h:zP z):(cV z).length<=1000000000000000000:=by
 obtain⟨h1,h2⟩:=h;have:=lN z.natAbs z.natAbs rL;unfold cV;split
 ·simp only[XB];omega
 ·omega
def B3:∀s∈fN,s.length<=10:=by decide
def sf{o:Nat}(h:o<256):(dR o).length<=100:=by
 have d:∀n:Nat,n<256->(cV (n:Int)).length<=30:=λn hn=>by have:=lN n n rL;unfold cV;rw[if_neg om,show((n:Int)).natAbs=n from rfl];omega
 unfold dR;split
 ·have:=d 0 om;simp only[lA,XB,XC];have e:(cV 0).length=(cV ((0:Nat):Int)).length:=rfl;omega
 ·split
  ·rename_i s hs;have:=B3 s (XG hs);omega
  ·have:=d o h;simp only[lA,XB,XC];omega
set_option maxRecDepth 100000 in
def DO{i:xP}{H:aa}(ho:i.o<256)(ha:zP i.a)(hb:zP i.b)(hc:zP i.c):aq Tryz.prog aF 26 [DG i] H λu H'=>u=.str (gk i)/\aS H.next H H':=by
 obtain⟨o,a,b,c⟩:=i;simp only at ho ha hb hc;obtain⟨H1,m1,r1,n1,k1⟩:=aC H [.int .u8 (o:Int),.int .i64 a,.int .i64 b,.int .i64 c] (n:=4) rfl;have E1:aS H.next H H1:=⟨om,λc hc=>k1 c om⟩;obtain⟨H2,hH2⟩:∃J,J=H1.push (.cells (fN.map .str) 0 false):=⟨_,rfl⟩;have E2:aS H1.next H1 H2:=by rw[hH2];exact⟨by show _<=H1.next+1;omega,λc hc=>aB hc⟩
 have e2:=E2.next;have b2:aL 34 [.str []] H1 [(0,1,.str [99,111,110,115,116]),(1,1,.str [109,111,118,101]),(2,1,.str [97,100,100]),(3,1,.str [115,117,98]),(4,1,.str [116,105,109,101,115]),(5,1,.str [111,118,101,114]),(6,1,.str [110,101,103]),(7,1,.str [110,111,116]),(8,1,.str [101,113]),(9,1,.str [110,101]),(10,1,.str [108,101]),(11,1,.str [103,101]),(12,1,.str [108,116]),(13,1,.str [103,116]),(14,1,.str [97,110,100]),(15,1,.str [111,114]),(16,1,.str [118,101,99]),(17,1,.str [120]),(18,1,.str [121]),(19,1,.str [122]),(20,1,.str [100,111,116]),(21,1,.str [99,114,111,115,115]),(22,1,.str [117,110,105,116]),(23,1,.str [115,113,114,116]),(24,1,.str [115,105,110]),(25,1,.str [99,111,115]),(26,1,.str [97,98,115]),(27,1,.str [102,108,111,111,114]),(28,1,.str [109,105,110]),(29,1,.str [109,97,120]),(30,1,.str [115,97,109,112,108,101]),(31,1,.str [106,117,109,112]),(32,1,.str [117,110,108,101,115,115]),(33,1,.str [114,101,116,117,114,110])]=some (.slice (some ⟨H1.next,34,0⟩) 34 (.known 34),H2):=by rw[hH2];rfl
 have c2:fo (H1.next+1) H2 (.slice (some ⟨H1.next,34,0⟩) 34 (.known 34)) (fN.map .str):=by rw[hH2];exact dd (xs:=fN.map .str)
 have n2:H2.next=H1.next+1:=by rw[hH2];rfl
 have c2l:ez false (.slice (some ⟨H1.next,34,0⟩) 34 (.known 34))=some (.int .i64 34):=rfl;have LD:∀{K:aa},aS H1.next H1 K->al false 1 K (ah H.next 4 0)=some (.int .u8 (o:Int))/\al false 1 K (ah H.next 4 1)=some (.int .i64 a)/\al false 1 K (ah H.next 4 2)=some (.int .i64 b)/\al false 1 K (ah H.next 4 3)=some (.int .i64 c):=λe=>by have r:=r1.same (e.old _ om);exact⟨aj r rfl rfl,aj r rfl rfl,aj r rfl rfl,aj r rfl rfl⟩
 obtain⟨f0,_,_,_⟩:=LD E2;have w0:IntKind.i64.wrap (o:Int)=(o:Int):=iP;have d0:(cV (o:Int)).length<=1000000000000000000:=qX ⟨om,om⟩;have so:cT .add (.str [111,112]) (.str (cV (o:Int)))=some (.str ([111,112]++cV (o:Int))):=gD (by simp only[XB,XC];omega);have wl:=sf ho;have la:=qX ha;have lb:=qX hb;have lc:=qX hc;have tr:∀{K L:aa},aS H1.next H1 K->aS K.next K L->aS H1.next H1 L:=λe f=>e.trans ⟨f.next,λc hc=>f.old c (by have:=e.next;omega)⟩;have t1:cT .add (.str (dR o)) (.str [32])=some (.str (dR o++[32])):=gD (by simp only[XB,XC];omega);have t2:cT .add (.str (dR o++[32])) (.str (cV a))=some (.str (dR o++[32]++cV a)):=gD (by simp only[lA,XB,XC];omega);have t3:cT .add (.str (dR o++[32]++cV a)) (.str [32])=some (.str (dR o++[32]++cV a++[32])):=gD (by simp only[lA,XB,XC];omega);have t4:cT .add (.str (dR o++[32]++cV a++[32])) (.str (cV b))=some (.str (dR o++[32]++cV a++[32]++cV b)):=gD (by simp only[lA,XB,XC];omega);have t5:cT .add (.str (dR o++[32]++cV a++[32]++cV b)) (.str [32])=some (.str (dR o++[32]++cV a++[32]++cV b++[32])):=gD (by simp only[lA,XB,XC];omega);have t6:cT .add (.str (dR o++[32]++cV a++[32]++cV b++[32])) (.str (cV c))=some (.str (dR o++[32]++cV a++[32]++cV b++[32]++cV c)):=gD (by simp only[lA,XB,XC];omega);have hs:gk ⟨o,a,b,c⟩=dR o++[32]++cV a++[32]++cV b++[32]++cV c:=by simp[gk]
 rw[hs];obtain⟨W,hW⟩:∃W,W=dR o:=⟨_,rfl⟩;obtain⟨S2,hS2⟩:∃S,S=W++[32]:=⟨_,rfl⟩;obtain⟨S3,hS3⟩:∃S,S=S2++cV a:=⟨_,rfl⟩;obtain⟨S4,hS4⟩:∃S,S=S3++[32]:=⟨_,rfl⟩;obtain⟨S5,hS5⟩:∃S,S=S4++cV b:=⟨_,rfl⟩;obtain⟨S6,hS6⟩:∃S,S=S5++[32]:=⟨_,rfl⟩;obtain⟨S7,hS7⟩:∃S,S=S6++cV c:=⟨_,rfl⟩;rw[<- hW]at t1 t2 t3 t4 t5 t6 ⊢;rw[<- hS2]at t1 t2 t3 t4 t5 t6 ⊢;rw[<- hS3]at t2 t3 t4 t5 t6 ⊢;rw[<- hS4]at t3 t4 t5 t6 ⊢;rw[<- hS5]at t4 t5 t6 ⊢;rw[<- hS6]at t5 t6 ⊢;rw[<- hS7]at t6 ⊢;unfold DG;refine ak rfl WH rfl ?_;simp only[c26,sC,seval,aG,m1,b2,fld0,f0,mA,w0];refine(fd (z:=(o:Int)) om om).mono ?_;rintro _ H3 ⟨rfl,E3⟩;have e3:=E3.next;have EK:=tr E2 E3;obtain⟨f0,fa,fb,fc⟩:=LD EK;simp only[sC,seval,so,fld0,f0];by_cases h1:1<=o/\o<=34
 ·have g1:(1:Int)<=(o:Int):=om;have g2:(o:Int)<=34:=om;have w8:IntKind.u8.wrap ((o:Int)-1)=((o-1:Nat):Int):=by rw[IntKind.wrap_u8];omega
  obtain⟨y,hy⟩:∃y,fN[o-1]?=some y:=⟨_,Xx (by show o-1<34;omega)⟩;have hwo:dR o=y:=by unfold dR;rw[if_neg om,hy]
  have c3:fo (H1.next+1) H3 (.slice (some ⟨H1.next,34,0⟩) 34 (.known 34)) (fN.map .str):=c2.ext (E3.less om);have ix:=c3.idx .u8 (i:=o-1) (by rw[XM];show o-1<34;omega);have lo:=c3.load (i:=o-1) (x:=.str y) (by simp[hy]);rw[<- hwo,<- hW]at lo;simp only[sC,seval,g1,g2,mA,w0,c2l,fld0,f0,w8,ix,lo];refine dI rfl ?_;simp only[sR,sC,seval,t1,aA,fa];refine(fd ha.1 ha.2).mono ?_;rintro _ H4 ⟨rfl,E4⟩;obtain⟨_,fa4,fb4,fc4⟩:=LD (tr EK E4);simp only[sR,sC,seval,t2,t3,aA,fb4];refine(fd hb.1 hb.2).mono ?_;rintro _ H5 ⟨rfl,E5⟩;obtain⟨_,fa5,fb5,fc5⟩:=LD (tr (tr EK E4) E5);simp only[sR,sC,seval,t4,t5,aA,fc5];refine(fd hc.1 hc.2).mono ?_;rintro _ H6 ⟨rfl,E6⟩;simp only[sR,sC,seval,t6];simp only[ci,cj,bP,cm,cQ,and_true,true_and,List.map_cons,List.map_nil,sC,seval];refine⟨⟨⟨_,rfl,λ_=>⟨_,fb,dM _ _⟩⟩,⟨_,rfl,λ_=>⟨_,fc,dM _ _⟩⟩,⟨_,rfl,λ_=>⟨_,fc4,dM _ _⟩⟩⟩,?_⟩;have EE:=tr (tr (tr EK E4) E5) E6;exact⟨by have:=EE.next;omega,λc hc=>by rw[EE.old c om,E1.old c hc]⟩
 ·have hwo:dR o=[111,112]++cV (o:Int):=by
   unfold dR;by_cases h0:o=0
   ·subst h0;rfl
   ·rw[if_neg h0];have:fN[o-1]?=none:=XP (by show 34<=o-1;omega);rw[this]
  rw[<- hwo,<- hW]at so;by_cases g1:(1:Int)<=(o:Int)
  ·have g2:¬(o:Int)<=34:=om;have hq:([111,112]++cV (o:Int):Bs)=W:=by rw[hW,hwo]
   simp only[XQ,List.nil_append]at hq;simp only[sC,seval,g1,g2,mA,w0,c2l,fld0,f0,hq];refine dI rfl ?_;simp only[sR,sC,seval,t1,aA,fa];refine(fd ha.1 ha.2).mono ?_;rintro _ H4 ⟨rfl,E4⟩;obtain⟨_,fa4,fb4,fc4⟩:=LD (tr EK E4);simp only[sR,sC,seval,t2,t3,aA,fb4];refine(fd hb.1 hb.2).mono ?_;rintro _ H5 ⟨rfl,E5⟩;obtain⟨_,fa5,fb5,fc5⟩:=LD (tr (tr EK E4) E5);simp only[sR,sC,seval,t4,t5,aA,fc5];refine(fd hc.1 hc.2).mono ?_;rintro _ H6 ⟨rfl,E6⟩;simp only[sR,sC,seval,t6];simp only[ci,cj,bP,cm,cQ,and_true,true_and,List.map_cons,List.map_nil,sC,seval];refine⟨⟨⟨_,rfl,λ_=>⟨_,fb,dM _ _⟩⟩,⟨_,rfl,λ_=>⟨_,fc,dM _ _⟩⟩,⟨_,rfl,λ_=>⟨_,fc4,dM _ _⟩⟩⟩,?_⟩;have EE:=tr (tr (tr EK E4) E5) E6;exact⟨by have:=EE.next;omega,λc hc=>by rw[EE.old c om,E1.old c hc]⟩
  ·have hq:([111,112]++cV (o:Int):Bs)=W:=by rw[hW,hwo]
   simp only[XQ,List.nil_append]at hq;simp only[sC,seval,g1,hq];refine dI rfl ?_;simp only[sR,sC,seval,t1,aA,fa];refine(fd ha.1 ha.2).mono ?_;rintro _ H4 ⟨rfl,E4⟩;obtain⟨_,fa4,fb4,fc4⟩:=LD (tr EK E4);simp only[sR,sC,seval,t2,t3,aA,fb4];refine(fd hb.1 hb.2).mono ?_;rintro _ H5 ⟨rfl,E5⟩;obtain⟨_,fa5,fb5,fc5⟩:=LD (tr (tr EK E4) E5);simp only[sR,sC,seval,t4,t5,aA,fc5];refine(fd hc.1 hc.2).mono ?_;rintro _ H6 ⟨rfl,E6⟩;simp only[sR,sC,seval,t6];simp only[ci,cj,bP,cm,cQ,and_true,true_and,List.map_cons,List.map_nil,sC,seval];refine⟨⟨⟨_,rfl,λ_=>⟨_,fb,dM _ _⟩⟩,⟨_,rfl,λ_=>⟨_,fc,dM _ _⟩⟩,⟨_,rfl,λ_=>⟨_,fc4,dM _ _⟩⟩⟩,?_⟩;have EE:=tr (tr (tr EK E4) E5) E6;exact⟨by have:=EE.next;omega,λc hc=>by rw[EE.old c om,E1.old c hc]⟩
open Go.Abs Go.Abs.S
def lz(n:Nat)(H:aa)(s:ae)(l:List ae):Prop:=∃b low,s=.slice (some ⟨b,l.length,0⟩) l.length (.open_ 1)/\n<=b/\b<H.next/\H.get b=some (.cells l low false true)/\low<=l.length
def lz.sb(H:aa)(s:Bs):∃v H',RZ H (.str s)=some (v,H')/\lz H.next H' v (eJ s)/\aS H.next H H':=by refine⟨_,_,rfl,⟨H.next,0,by simp[eJ],Nat.le_refl _,Nat.lt_succ_self _,?_,Nat.zero_le _⟩,⟨by show _<=H.next+1;omega,λc hc=>aB hc⟩⟩;rw[aa.get_push,if_pos rfl];rfl
def lz.app{n:Nat}{H:aa}{s x:ae}{l xs:List ae}{k:Nat}(h:lz n H s l)(hs:gz 1 H x=some (k,xs))(hk:xs.length=k)(hk0:0<k)(ho:xs.all ae.one=true)(hb:2*(l.length+k)<=281474976710656) :
  ∃s' H',a8 1 1 H s x=some (s',H')/\lz n H' s' (l++xs)/\aS n H H':=by
 obtain⟨b,low,rfl,h2,h3,h4,h5⟩:=h;have hgrow:df H ⟨b,l.length,0⟩ l.length xs=some (H.set b (.cells (l++xs) low false true)):=by unfold df;simp only[h4,Xz h5,Xz rL,Xz (Nat.zero_le _),Nat.beq_refl,ho,Xz (show l.length+1<=l.length+xs.length by omega),Bool.and_self,cond_true,List.take_length]
 have e1:Nat.ble (0+(l.length+k)*1) l.length=false:=by rw[iT];exact decide_eq_false om
 have e0:Nat.beq k 0=false:=by rw[ch];exact decide_eq_false om
 have c1:(Nat.blt 0 1&&(Nat.ble ((2*(l.length+k)+0)*1) 281474976710656&&(Nat.ble (l.length+k) 9223372036854775807&&(Nat.beq xs.length (k*1)&&xs.all ae.one))))=true:=by simp only[Nat.add_zero,Nat.mul_one,Xz hb,Xz (show l.length+k<=9223372036854775807 by omega),hk,Nat.beq_refl,ho];rfl
 refine⟨.slice (some ⟨b,(l++xs).length,0⟩) (l++xs).length (.open_ 1),H.set b (.cells (l++xs) low false true),?_,⟨b,low,rfl,h2,by rw[eX];exact h3,by rw[aa.get_set,if_pos rfl],by simp;omega⟩,⟨by rw[eX];exact Nat.le_refl _,λc hc=>by rw[aa.get_set,if_neg om]⟩⟩;have q1:Nat.ble (2*(l.length+k)) 281474976710656=true:=Xz hb;have q2:Nat.ble (l.length+k) 9223372036854775807=true:=Xz om;have q3:Nat.ble (l.length+k) l.length=false:=by rw[iT];exact decide_eq_false om
 have q4:Nat.beq k k=true:=by rw[ch];exact decide_eq_true rfl
 have q5:Nat.blt 0 1=true:=rfl;simp only[a8,hs,e0,cond_false,hk,q1,q2,q3,q4,q5,ho,Bool.and_self,cond_true,Nat.beq_refl,Nat.zero_add,Nat.mul_one,Nat.add_zero,hgrow,lA]
open Go.Abs Go.Abs.S
def pd:Nat->Nat->List Nat
 |0,_=>[]
 |k+1,u=>pd k (u / 10)++[u % 10]
def QO(k u:Nat):(pd k u).length=k:=by
 induction k generalizing u with
 |zero=>rfl
 |succ k ih=>simp[pd,ih]
def Ez(k:Nat):∀u,10 ^ k<=u->u<10 ^ (k+1)->pd (k+1) u=jw u:=by
 induction k with
 |zero=>intro u h1 h2;rw[kM (by simpa using h2)];have:u % 10=u:=Nat.mod_eq_of_lt (by simpa using h2);simp[pd,this]
 |succ k ih=>
  intro u h1 h2;have h10:¬u<10:=by have:10 ^ 1<=10 ^ (k+1):=Nat.pow_le_pow_right om om;omega
  rw[rB h10,pd,ih (u / 10) (by rw[Nat.pow_succ]at h1;omega) (by rw[Nat.pow_succ]at h2;omega)]
def kY:Bs:=(List.range 100).flatMap λd=>[UInt8.ofNat (48+d / 10),UInt8.ofNat (48+d % 10)]
def Kd{d:Nat}(h:d<100):kY[d*2]?=some (UInt8.ofNat (48+d / 10)):=by
 have:∀d,d<100->kY[d*2]?=some (UInt8.ofNat (48+d / 10)):=by decide
 exact this d h
def Kc{d:Nat}(h:d<100):kY[d*2+1]?=some (UInt8.ofNat (48+d % 10)):=by
 have:∀d,d<100->kY[d*2+1]?=some (UInt8.ofNat (48+d % 10)):=by decide
 exact this d h
open Go.Abs Go.Abs.S
def pN:kY=[48,48,48,49,48,50,48,51,48,52,48,53,48,54,48,55,48,56,48,57,49,48,49,49,49,50,49,51,49,52,49,53,49,54,49,55,49,56,49,57,50,48,50,49,50,50,50,51,50,52,50,53,50,54,50,55,50,56,50,57,51,48,51,49,51,50,51,51,51,52,51,53,51,54,51,55,51,56,51,57,52,48,52,49,52,50,52,51,52,52,52,53,52,54,52,55,52,56,52,57,53,48,53,49,53,50,53,51,53,52,53,53,53,54,53,55,53,56,53,57,54,48,54,49,54,50,54,51,54,52,54,53,54,54,54,55,54,56,54,57,55,48,55,49,55,50,55,51,55,52,55,53,55,54,55,55,55,56,55,57,56,48,56,49,56,50,56,51,56,52,56,53,56,54,56,55,56,56,56,57,57,48,57,49,57,50,57,51,57,52,57,53,57,54,57,55,57,56,57,57]:=by kernel_rfl
def iY{d:Nat}(h:d<100)(k:IntKind):lU (.str kY) (.int k ((d*2:Nat):Int))=some (.int .u8 ((48+d / 10:Nat):Int)):=by
 rw[bA (Kd h)];have:(UInt8.ofNat (48+d / 10)).toNat=48+d / 10:=by rw[UInt8.toNat_ofNat'];omega
 rw[this]
def gO{d:Nat}(h:d<100)(k:IntKind):lU (.str kY) (.int k ((d*2+1:Nat):Int))=some (.int .u8 ((48+d % 10:Nat):Int)):=by
 rw[bA (Kc h)];have:(UInt8.ofNat (48+d % 10)).toNat=48+d % 10:=by rw[UInt8.toNat_ofNat'];omega
 rw[this]
def Kb{d:Nat}(h:d<100):eU (.str kY) (some (.int .i64 ((d*2:Nat):Int))) (some (.int .i64 ((d*2+2:Nat):Int)))=some (.str [UInt8.ofNat (48+d / 10),UInt8.ofNat (48+d % 10)]):=by
 have hl:kY.length=200:=by kernel_rfl
 rw[pL om om];have:∀d,d<100->(kY.drop (d*2)).take 2=[UInt8.ofNat (48+d / 10),UInt8.ofNat (48+d % 10)]:=of_decide_eq_true (by kernel_rfl);rw[show d*2+2-d*2=2 by omega,this d h]
def NJ:Bs:=[48,49,50,51,52,53,54,55,56,57,97,98,99,100,101,102,103,104,105,106,107,108,109,110,111,112,113,114,115,116,117,118,119,120,121,122]
def NI{d:Nat}(h:d<10):eU (.str NJ) (some (.int .i64 (d:Int))) (some (.int .i64 ((d+1:Nat):Int)))=some (.str [UInt8.ofNat (48+d)]):=by
 have hl:NJ.length=36:=by decide
 rw[pL om om];have:∀d,d<10->(NJ.drop d).take 1=[UInt8.ofNat (48+d)]:=by decide
 rw[show d+1-d=1 by omega,this d h]
def Lf:NJ=[48,49,50,51,52,53,54,55,56,57,97,98,99,100,101,102,103,104,105,106,107,108,109,110,111,112,113,114,115,116,117,118,119,120,121,122]:=rfl
set_option maxRecDepth 100000 in
def vD(h77:aF.is 177=false){d:Nat}(hd:d<100){H:aa} :
  aq Tryz.prog aF 177 [.int .i64 (d:Int)] H λv H'=>v=.str (ur (jw d))/\H'=H:=by
 refine ak h77 SO rfl ?_;simp only[Uz,<- pN,<- Lf];by_cases h:d<10
 ·have h':(d:Int)<10:=om;simp only[sC,Int.reduceNegSucc,reduceCtorEq,Nat.reduceEqDiff,↓reduceIte,Nat.reduceAdd,Int.reduceEq,Int.reduceLT,Int.reduceLE,Nat.reduceLT,h',dG d om,NI h];exact⟨by rw[kM h];rfl,by trivial⟩
 ·have h':¬(d:Int)<10:=om;have w1:IntKind.i64.wrap ((d:Int)*2)=((d*2:Nat):Int):=by rw[bi om om];omega
  have w2:IntKind.i64.wrap (((d*2:Nat):Int)+2)=((d*2+2:Nat):Int):=by rw[bi om om];omega
  simp only[sC,Int.reduceNegSucc,reduceCtorEq,Nat.reduceEqDiff,↓reduceIte,Nat.reduceAdd,Int.reduceEq,Int.reduceLT,Int.reduceLE,Nat.reduceLT,h',w1,w2,Kb hd];refine⟨?_,by trivial⟩;rw[rB h,kM om];simp[ur]
def FO(h95:aF.is 197=false)(b:Bool){H:aa} :
  aq Tryz.prog aF 197 [.bool b] H λv H'=>v=.int .i64 ((if b=true then 1 else 0:Nat):Int)/\H'=H:=by
 refine ak h95 SA rfl ?_;cases b with
 |true=>simp only[Rt,sC,Int.reduceNegSucc,reduceCtorEq,Nat.reduceEqDiff,↓reduceIte,Nat.reduceAdd,Int.reduceEq,Int.reduceLT,Int.reduceLE,Nat.reduceLT];exact⟨by trivial,by trivial⟩
 |false=>simp only[Rt,sC,Int.reduceNegSucc,reduceCtorEq,Nat.reduceEqDiff,↓reduceIte,Nat.reduceAdd,Int.reduceEq,Int.reduceLT,Int.reduceLE,Nat.reduceLT];exact⟨by trivial,by trivial⟩
def EG(h93:aF.is 195=false){x:Nat}(hx:x<=64){H:aa} :
  aq Tryz.prog aF 195 [.int .i64 (x:Int)] H λv H'=>v=.int .i64 ((x*78913 / 262144:Nat):Int)/\H'=H:=by
 refine ak h93 SC rfl ?_;have w1:IntKind.i64.wrap ((x:Int)*78913)=((x*78913:Nat):Int):=by rw[bi om om];omega
 have e1:=BO .i64 .u64 (x*78913) (b:=18) dD;simp only[Int.cast_ofNat_Int]at e1;simp only[Uu,sC,Int.reduceNegSucc,reduceCtorEq,Nat.reduceEqDiff,↓reduceIte,Nat.reduceAdd,Int.reduceEq,Int.reduceLT,Int.reduceLE,Nat.reduceLT,w1,e1];exact⟨by trivial,by trivial⟩
def Og:Bs:=[0,1,2,2,3,3,3,3,4,4,4,4,4,4,4,4,5,5,5,5,5,5,5,5,5,5,5,5,5,5,5,5,6,6,6,6,6,6,6,6,6,6,6,6,6,6,6,6,6,6,6,6,6,6,6,6,6,6,6,6,6,6,6,6,7,7,7,7,7,7,7,7,7,7,7,7,7,7,7,7,7,7,7,7,7,7,7,7,7,7,7,7,7,7,7,7,7,7,7,7,7,7,7,7,7,7,7,7,7,7,7,7,7,7,7,7,7,7,7,7,7,7,7,7,7,7,7,7,8,8,8,8,8,8,8,8,8,8,8,8,8,8,8,8,8,8,8,8,8,8,8,8,8,8,8,8,8,8,8,8,8,8,8,8,8,8,8,8,8,8,8,8,8,8,8,8,8,8,8,8,8,8,8,8,8,8,8,8,8,8,8,8,8,8,8,8,8,8,8,8,8,8,8,8,8,8,8,8,8,8,8,8,8,8,8,8,8,8,8,8,8,8,8,8,8,8,8,8,8,8,8,8,8,8,8,8,8,8,8,8,8,8,8,8,8,8,8,8,8,8,8,8,8,8,8,8]
def Li:Og=[0,1,2,2,3,3,3,3,4,4,4,4,4,4,4,4,5,5,5,5,5,5,5,5,5,5,5,5,5,5,5,5,6,6,6,6,6,6,6,6,6,6,6,6,6,6,6,6,6,6,6,6,6,6,6,6,6,6,6,6,6,6,6,6,7,7,7,7,7,7,7,7,7,7,7,7,7,7,7,7,7,7,7,7,7,7,7,7,7,7,7,7,7,7,7,7,7,7,7,7,7,7,7,7,7,7,7,7,7,7,7,7,7,7,7,7,7,7,7,7,7,7,7,7,7,7,7,7,8,8,8,8,8,8,8,8,8,8,8,8,8,8,8,8,8,8,8,8,8,8,8,8,8,8,8,8,8,8,8,8,8,8,8,8,8,8,8,8,8,8,8,8,8,8,8,8,8,8,8,8,8,8,8,8,8,8,8,8,8,8,8,8,8,8,8,8,8,8,8,8,8,8,8,8,8,8,8,8,8,8,8,8,8,8,8,8,8,8,8,8,8,8,8,8,8,8,8,8,8,8,8,8,8,8,8,8,8,8,8,8,8,8,8,8,8,8,8,8,8,8,8,8,8,8,8,8]:=rfl
def kH{v:Nat}(h:v<256):∃l:UInt8,Og[v]?=some l/\v<2 ^ l.toNat/\(0<v->2 ^ l.toNat<=2*v)/\l.toNat<=8:=by
 have:∀v,v<256->(match Og[v]? with|some l=>decide (v<2 ^ l.toNat)&&(decide (v=0)||decide (2 ^ l.toNat<=2*v))&&decide (l.toNat<=8)|none=>false)=true:=of_decide_eq_true (by kernel_rfl);have:=this v h;cases hl:Og[v]? with
 |none=>rw[hl]at this;simp at this
 |some l=>rw[hl]at this;simp only[XA,Bool.or_eq_true,XK]at this;exact⟨l,rfl,this.1.1,λh0=>by rcases this.1.2 with h|h;omega;exact h,this.2⟩
set_option maxRecDepth 100000 in
def EL(h94:aF.is 196=false){u:Nat}(h0:0<u)(hu:u<18446744073709551616){H:aa} :
  aq Tryz.prog aF 196 [.int .u64 (u:Int)] H λv H'=>(∃L:Nat,v=.int .i64 (L:Int)/\u<2 ^ L/\2 ^ L<=2*u/\L<=64)/\H'=H:=by
 refine ak h94 SB rfl ?_;simp only[Ut,<- Li];have key:∀(x:Nat) (s l:Nat),u / 2 ^ s=x->0<x->x<2 ^ l->2 ^ l<=2*x->s<=56->u<2 ^ (s+l)/\2 ^ (s+l)<=2*u:=by
  intro x s l hx hx0 h1 h2 hs;have hp:0<2 ^ s:=Nat.pos_of_ne_zero (by simp);rw[Nat.pow_add];generalize 2 ^ s=p at *;generalize 2 ^ l=q at *;subst hx;have h3:=Nat.div_mul_le_self u p;have h4:=Nat.lt_div_mul_add hp (a:=u);constructor
  ·have:(u / p+1)*p<=q*p:=Nat.mul_le_mul_right _ h1;rw[Nat.add_mul,Nat.one_mul]at this;rw[Nat.mul_comm p q];omega
  ·calc p*q<=p*(2*(u / p)):=Nat.mul_le_mul_left _ h2
    _=2*(u / p*p):=by rw[Nat.mul_comm p,Nat.mul_assoc]
    _<=2*u:=om
 by_cases c0:4294967296<=u
 ·have n32:(4294967296:Int)<=(u:Int):=om;have e32:=BO .u64 .u64 u (b:=32) dD;simp only[Int.cast_ofNat_Int,Nat.reducePow]at e32;have w0:IntKind.i64.wrap (0+32)=32:=by decide
  have hy:u / 4294967296<4294967296:=om;have hyu:u / 2 ^ 32=u / 4294967296:=rfl;have key':∀(x s:Nat) (l:Nat),u / 4294967296 / 2 ^ s=x->0<x->x<2 ^ l->2 ^ l<=2*x->s<=24->u<2 ^ (32+s+l)/\2 ^ (32+s+l)<=2*u:=λx s l h a b c d=>key x (32+s) l (by rw[Nat.pow_add,<- Nat.div_div_eq_div_mul];exact h) a b c om;have hy0:0<u / 4294967296:=om;generalize u / 4294967296=y at *;have e16:=BO .u64 .u64 y (b:=16) dD;simp only[Int.cast_ofNat_Int,Nat.reducePow]at e16;by_cases c1:65536<=y
  ·have c1':(65536:Int)<=(y:Int):=om;have e8:=BO .u64 .u64 (y / 65536) (b:=8) dD;simp only[Int.cast_ofNat_Int,Nat.reducePow]at e8;have w1:IntKind.i64.wrap (32+16)=48:=by decide
   by_cases c2:256<=y / 65536
   ·have c2':(256:Int)<=((y / 65536:Nat):Int):=om;have w2:IntKind.i64.wrap (48+8)=56:=by decide
    obtain⟨l,l1,l2,l3,l4⟩:=kH (v:=y / 65536 / 256) om;have w3:IntKind.u8.wrap ((y / 65536 / 256:Nat):Int)=((y / 65536 / 256:Nat):Int):=fZ om om;have w4:IntKind.i64.wrap (l.toNat:Int)=(l.toNat:Int):=bi om om;have w5:IntKind.i64.wrap (56+(l.toNat:Int))=((56+l.toNat:Nat):Int):=by rw[bi om om];omega
    simp only[sC,Int.reduceNegSucc,reduceCtorEq,Nat.reduceEqDiff,↓reduceIte,Nat.reduceAdd,Int.reduceEq,Int.reduceLT,Int.reduceLE,Nat.reduceLT,n32,e32,w0,e16,c1',w1,c2',e8,w2,w3,bA l1,w4,w5];obtain⟨k1,k2⟩:=key' (y / 65536 / 256) 24 l.toNat om om l2 (l3 om) om;exact⟨⟨56+l.toNat,by trivial,k1,k2,om⟩,by trivial⟩
   ·have c2':¬(256:Int)<=((y / 65536:Nat):Int):=om;obtain⟨l,l1,l2,l3,l4⟩:=kH (v:=y / 65536) om;have w3:IntKind.u8.wrap ((y / 65536:Nat):Int)=((y / 65536:Nat):Int):=fZ om om;have w4:IntKind.i64.wrap (l.toNat:Int)=(l.toNat:Int):=bi om om;have w5:IntKind.i64.wrap (48+(l.toNat:Int))=((48+l.toNat:Nat):Int):=by rw[bi om om];omega
    simp only[sC,Int.reduceNegSucc,reduceCtorEq,Nat.reduceEqDiff,↓reduceIte,Nat.reduceAdd,Int.reduceEq,Int.reduceLT,Int.reduceLE,Nat.reduceLT,n32,e32,w0,e16,c1',w1,c2',w3,bA l1,w4,w5];obtain⟨k1,k2⟩:=key' (y / 65536) 16 l.toNat om om l2 (l3 om) om;exact⟨⟨48+l.toNat,by trivial,k1,k2,om⟩,by trivial⟩
  ·have c1':¬(65536:Int)<=(y:Int):=om;have e8:=BO .u64 .u64 y (b:=8) dD;simp only[Int.cast_ofNat_Int,Nat.reducePow]at e8;by_cases c2:256<=y
   ·have c2':(256:Int)<=(y:Int):=om;have w2:IntKind.i64.wrap (32+8)=40:=by decide
    obtain⟨l,l1,l2,l3,l4⟩:=kH (v:=y / 256) om;have w3:IntKind.u8.wrap ((y / 256:Nat):Int)=((y / 256:Nat):Int):=fZ om om;have w4:IntKind.i64.wrap (l.toNat:Int)=(l.toNat:Int):=bi om om;have w5:IntKind.i64.wrap (40+(l.toNat:Int))=((40+l.toNat:Nat):Int):=by rw[bi om om];omega
    simp only[sC,Int.reduceNegSucc,reduceCtorEq,Nat.reduceEqDiff,↓reduceIte,Nat.reduceAdd,Int.reduceEq,Int.reduceLT,Int.reduceLE,Nat.reduceLT,n32,e32,w0,c1',c2',e8,w2,w3,bA l1,w4,w5];obtain⟨k1,k2⟩:=key' (y / 256) 8 l.toNat om om l2 (l3 om) om;exact⟨⟨40+l.toNat,by trivial,k1,k2,om⟩,by trivial⟩
   ·have c2':¬(256:Int)<=(y:Int):=om;obtain⟨l,l1,l2,l3,l4⟩:=kH (v:=y) om;have w3:IntKind.u8.wrap (y:Int)=(y:Int):=fZ om om;have w4:IntKind.i64.wrap (l.toNat:Int)=(l.toNat:Int):=bi om om;have w5:IntKind.i64.wrap (32+(l.toNat:Int))=((32+l.toNat:Nat):Int):=by rw[bi om om];omega
    simp only[sC,Int.reduceNegSucc,reduceCtorEq,Nat.reduceEqDiff,↓reduceIte,Nat.reduceAdd,Int.reduceEq,Int.reduceLT,Int.reduceLE,Nat.reduceLT,n32,e32,w0,c1',c2',w3,bA l1,w4,w5];obtain⟨k1,k2⟩:=key' y 0 l.toNat (by simp) om l2 (l3 om) om;exact⟨⟨32+l.toNat,by trivial,k1,k2,om⟩,by trivial⟩
 ·have n32:¬(4294967296:Int)<=(u:Int):=om;have e16:=BO .u64 .u64 u (b:=16) dD;simp only[Int.cast_ofNat_Int,Nat.reducePow]at e16;by_cases c1:65536<=u
  ·have c1':(65536:Int)<=(u:Int):=om;have e8:=BO .u64 .u64 (u / 65536) (b:=8) dD;simp only[Int.cast_ofNat_Int,Nat.reducePow]at e8;have w1:IntKind.i64.wrap (0+16)=16:=by decide
   by_cases c2:256<=u / 65536
   ·have c2':(256:Int)<=((u / 65536:Nat):Int):=om;have w2:IntKind.i64.wrap (16+8)=24:=by decide
    obtain⟨l,l1,l2,l3,l4⟩:=kH (v:=u / 65536 / 256) om;have w3:IntKind.u8.wrap ((u / 65536 / 256:Nat):Int)=((u / 65536 / 256:Nat):Int):=fZ om om;have w4:IntKind.i64.wrap (l.toNat:Int)=(l.toNat:Int):=bi om om;have w5:IntKind.i64.wrap (24+(l.toNat:Int))=((24+l.toNat:Nat):Int):=by rw[bi om om];omega
    simp only[sC,Int.reduceNegSucc,reduceCtorEq,Nat.reduceEqDiff,↓reduceIte,Nat.reduceAdd,Int.reduceEq,Int.reduceLT,Int.reduceLE,Nat.reduceLT,n32,e16,c1',w1,c2',e8,w2,w3,bA l1,w4,w5];obtain⟨k1,k2⟩:=key (u / 65536 / 256) 24 l.toNat om om l2 (l3 om) om;exact⟨⟨24+l.toNat,by trivial,k1,k2,om⟩,by trivial⟩
   ·have c2':¬(256:Int)<=((u / 65536:Nat):Int):=om;obtain⟨l,l1,l2,l3,l4⟩:=kH (v:=u / 65536) om;have w3:IntKind.u8.wrap ((u / 65536:Nat):Int)=((u / 65536:Nat):Int):=fZ om om;have w4:IntKind.i64.wrap (l.toNat:Int)=(l.toNat:Int):=bi om om;have w5:IntKind.i64.wrap (16+(l.toNat:Int))=((16+l.toNat:Nat):Int):=by rw[bi om om];omega
    simp only[sC,Int.reduceNegSucc,reduceCtorEq,Nat.reduceEqDiff,↓reduceIte,Nat.reduceAdd,Int.reduceEq,Int.reduceLT,Int.reduceLE,Nat.reduceLT,n32,e16,c1',w1,c2',w3,bA l1,w4,w5];obtain⟨k1,k2⟩:=key (u / 65536) 16 l.toNat om om l2 (l3 om) om;exact⟨⟨16+l.toNat,by trivial,k1,k2,om⟩,by trivial⟩
  ·have c1':¬(65536:Int)<=(u:Int):=om;have e8:=BO .u64 .u64 u (b:=8) dD;simp only[Int.cast_ofNat_Int,Nat.reducePow]at e8;by_cases c2:256<=u
   ·have c2':(256:Int)<=(u:Int):=om;have w2:IntKind.i64.wrap (0+8)=8:=by decide
    obtain⟨l,l1,l2,l3,l4⟩:=kH (v:=u / 256) om;have w3:IntKind.u8.wrap ((u / 256:Nat):Int)=((u / 256:Nat):Int):=fZ om om;have w4:IntKind.i64.wrap (l.toNat:Int)=(l.toNat:Int):=bi om om;have w5:IntKind.i64.wrap (8+(l.toNat:Int))=((8+l.toNat:Nat):Int):=by rw[bi om om];omega
    simp only[sC,Int.reduceNegSucc,reduceCtorEq,Nat.reduceEqDiff,↓reduceIte,Nat.reduceAdd,Int.reduceEq,Int.reduceLT,Int.reduceLE,Nat.reduceLT,n32,c1',c2',e8,w2,w3,bA l1,w4,w5];obtain⟨k1,k2⟩:=key (u / 256) 8 l.toNat om om l2 (l3 om) om;exact⟨⟨8+l.toNat,by trivial,k1,k2,om⟩,by trivial⟩
   ·have c2':¬(256:Int)<=(u:Int):=om;obtain⟨l,l1,l2,l3,l4⟩:=kH (v:=u) om;have w3:IntKind.u8.wrap (u:Int)=(u:Int):=fZ om om;have w4:IntKind.i64.wrap (l.toNat:Int)=(l.toNat:Int):=bi om om;have w5:IntKind.i64.wrap (0+(l.toNat:Int))=(l.toNat:Int):=by rw[bi om om];omega
    simp only[sC,Int.reduceNegSucc,reduceCtorEq,Nat.reduceEqDiff,↓reduceIte,Nat.reduceAdd,Int.reduceEq,Int.reduceLT,Int.reduceLE,Nat.reduceLT,n32,c1',c2',w3,bA l1,w4,w5];exact⟨⟨l.toNat,by trivial,l2,l3 h0,om⟩,by trivial⟩
def qJ:List ae:=(List.range 20).map λi=>.int .u64 ((10 ^ i:Nat):Int)
def Kz{i:Nat}(h:i<20):qJ[i]?=some (.int .u64 ((10 ^ i:Nat):Int)):=by simp[qJ,h]
def uf(h78:aF.is 178=false)(h93:aF.is 195=false)(h94:aF.is 196=false)(h95:aF.is 197=false){u:Nat}(h0:0<u)(hu:u<18446744073709551616){H:aa}(G:AW H 1 qJ) :
  aq Tryz.prog aF 178 [.int .u64 (u:Int)] H λv H'=>(∃k:Nat,v=.int .i64 ((k+1:Nat):Int)/\10 ^ k<=u/\u<10 ^ (k+1)/\k<20)/\H'=H:=by
 refine ak h78 SN rfl ?_;simp only[Uy,sC,Int.reduceNegSucc,reduceCtorEq,Nat.reduceEqDiff,↓reduceIte,Nat.reduceAdd,Int.reduceEq,Int.reduceLT,Int.reduceLE,Nat.reduceLT];refine(EL h94 h0 hu).mono ?_;rintro v _ ⟨⟨L,rfl,l1,l2,l3⟩,rfl⟩;simp only[sC,Int.reduceNegSucc,reduceCtorEq,Nat.reduceEqDiff,↓reduceIte,Nat.reduceAdd,Int.reduceEq,Int.reduceLT,Int.reduceLE,Nat.reduceLT];refine(EG h93 (show L<=64 by omega)).mono ?_;rintro v _ ⟨rfl,rfl⟩;have hL:1<=L:=by
  rcases Nat.eq_zero_or_pos L with h|h
  ·subst h;simp at l1;omega
  ·exact h
 have all:∀L,L<=64->1<=L->2 ^ L<=10 ^ (L*78913 / 262144+1)/\(10 ^ (L*78913 / 262144-1)*2<=2 ^ L)/\L*78913 / 262144<20:=of_decide_eq_true (by kernel_rfl);obtain⟨a1,a2,a3⟩:=all L l3 hL;generalize L*78913 / 262144=t at *;have ht:t<20:=om;simp only[sC,Int.reduceNegSucc,reduceCtorEq,Nat.reduceEqDiff,↓reduceIte,Nat.reduceAdd,Int.reduceEq,Int.reduceLT,Int.reduceLE,Nat.reduceLT,Ri G (n:=20) dD ht,OI G (n:=20) dD (Kz ht)];refine(FO h95 _).mono ?_;rintro v _ ⟨rfl,rfl⟩;by_cases hc:10 ^ t<=u
 ·have hc':((10 ^ t:Nat):Int)<=(u:Int):=om;have w:IntKind.i64.wrap ((t:Int)+1)=((t+1:Nat):Int):=by rw[bi om om];omega
  simp only[sC,Int.reduceNegSucc,reduceCtorEq,Nat.reduceEqDiff,↓reduceIte,Nat.reduceAdd,Int.reduceEq,Int.reduceLT,Int.reduceLE,Nat.reduceLT,hc',w];exact⟨⟨t,by trivial,hc,om,a3⟩,by trivial⟩
 ·have hc':¬((10 ^ t:Nat):Int)<=(u:Int):=om;have w:IntKind.i64.wrap ((t:Int)+0)=(t:Int):=by rw[bi om om];omega
  simp only[sC,Int.reduceNegSucc,reduceCtorEq,Nat.reduceEqDiff,↓reduceIte,Nat.reduceAdd,Int.reduceEq,Int.reduceLT,Int.reduceLE,Nat.reduceLT,hc',w];have ht0:t≠0:=by rintro rfl;simp at hc;omega
  obtain⟨s,rfl⟩:=Nat.exists_eq_succ_of_ne_zero ht0;exact⟨⟨s,rfl,by simp at a2;omega,by simpa using hc,om⟩,by trivial⟩
end Go.Proofs.Wo
