/- Part of a proof (T90 T91 TR2 TR3 TR4 TR5 TR7 TR8 TR9 TR10 TR11 TR12); no condition. -/
import Derived.Test.YtmfjeemdgdaelaaGreatP13
set_option linter.unusedSimpArgs false
set_option linter.unusedVariables false
set_option linter.unnecessarySimpa false
namespace Go.Proofs.Tb
open Go.Abs Go.Abs.S
theorem bytB(i:Nat):IntKind.u8.wrap (i:Int)=((UInt8.ofNat i).toNat:Int):=by
 rw[IntKind.wrap_u8,UInt8.toNat_ofNat']; omega
def LI(w h:Nat)(D:Bs)(PS:List Bs)(n0 nl e z m:Nat)(keep:Nat→Prop)(i:Nat)(H:AHeap)(av:AVal)(a:Bs):Prop:=
 AppN 1 0 H av (byts a) a.length∧Blk av (nl≤·)∧a.length≤90000 ∧
  ((i<w*h∧∃τ rows at_ bg b,PE m τ H e z w h (w*h-i) rows at_ bg b∧WR (manyL w h) PS i rows at_ b∧(∀c,keep c→τ c=0)∧Blk av (τ ·=0)∧((i=0∧bg=false∧a=[])∨(0<i∧bg=true∧a=midB w h)))∨(i=w*h∧FinB w h D a))
theorem li_step{w h:Nat}{D:Bs}{PS:List Bs}{n0 nl e z m i:Nat}{keep:Nat→Prop}{H:AHeap}{av:AVal}{a p:Bs}(hw:1≤w)(hw2:w≤20)(hh:1≤h)(hh2:h≤20)(L:LI w h D PS n0 nl e z m keep i H av a)(hi:i<w*h)(hD:D=PS.flatten)(hPS:PS.length=w*h)(hp:PS[i]?=some p)(hp4:p.length=4)(he:e<nl)(hz:z<nl)(hm:m≤nl)(hnl:nl≤H.next)(hk:¬keep e∧¬keep z)(hkl:∀c,keep c→c<H.next∧Blk av (c≠·)) :
  ACalls Tryz.prog natT 7 [cellR e 7 0,.agg (byts p)] H fun x H1=>∃v,x=.tuple [v,.int .i64 0]∧(∀c,keep c→H1.get c=H.get c)∧H.next≤H1.next∧∃av' H2 a',aAppend 1 1 H1 av v=some (av',H2)∧LI w h D PS n0 nl e z m keep (i+1) H2 av' a'∧H1.next≤H2.next∧∀c,keep c→H2.get c=H1.get c:=by
 have OK:=okP hw hw2 hh hh2
 have hwh:w*h≤20*20:=Nat.mul_le_mul hw2 hh2
 have hms:=many_sum OK
 have hmm:∀m∈manyL w h,1≤m:=fun m hm=>(OK.many m hm).1
 obtain⟨A,ab,al,⟨-,τ,rows,at_,bg,b,P,W,kt,at0,ha⟩ | ⟨e1,-⟩⟩:=L
 case inr=>omega
 obtain⟨m0,rest,rfl,hat,hm0⟩:=W.some om
 have hm20:=(OK.many m0 hm0).2
 have hbl:=W.blen
 have hfew:=OK.few
 obtain⟨left,hleft⟩:∃l,w*h-i=l+1:=⟨w*h-i-1,om⟩
 rw[hleft]at P
 have W2:=W.step hmm hp hp4
 refine (eput_spec P hw2 hh2 om hm20 hat om om hp4).mono ?_
 rintro _ H1 ⟨v,τ',rfl,g1,g2,n1,f1⟩
 have kp:∀c,keep c→H1.get c=H.get c:=fun c hkc=>(f1 c (hkl c hkc).1 (kt c hkc)).2 (by rintro rfl; exact hk.2 hkc) (by rintro rfl; exact hk.1 hkc)
 have hab:=A.blk'.and (ab.and at0)
 have Ak:∀c,(c<H.next∧nl≤c∧τ c=0)→H1.get c=H.get c:=fun c hc=>(f1 c hc.1 hc.2.2).2 om om
 have A1:=A.same (H':=H1) n1 (hab.mono fun c hc=>Ak c hc)
 have hfl:(headF w h).length=33:=rfl
 have hml:(midB w h).length=47:=rfl
 refine⟨v,rfl,kp,n1,?_⟩
 by_cases h0:left=0
 ·subst h0
  obtain⟨l,hl,A2,b2⟩:=g2 rfl
  have hiw:i+1=w*h:=om
  have hbl2:=W2.blen
  rw[hiw,← hms]at W2
  obtain⟨rs,e1,e2,e3⟩:=W2.over (by rw[hPS,hms])
  have hel:=endB8_len (bg:=true) (b:=b++(leadB at_++p)) om
  have hhd:(hdB bg).length≤2:=by cases bg <;> simp[hdB,hd]
  have hll:l.length≤30000:=by
   rw[hl]
   simp only[lA]
   have i1:(if 0+1=w*h then headF w h else []).length≤33:=by split <;> simp[hfl]
   have i2:(idatF (hdB bg++endB8 true (b++(leadB at_++p)))).length≤20100:=by
    unfold idatF
    split
    ·simp
    ·rw[chunkF_len rfl,lA]; omega
   have i3:(chunkF kIEND []).length=12:=rfl
   omega
  obtain⟨av',H2,m2,A3,k2,b3,o2⟩:=app_bytes A1 (src_cel (A2.cel1 A2.blk')) om
  refine⟨av',H2,a++l,m2,⟨A3,(b3 _ ab).mono fun c hc=>om,by rw[lA]; rcases ha with⟨_,_,rfl⟩ | ⟨_,_,rfl⟩ <;> simp only[List.length_nil,hml] <;> omega,.inr ⟨hiw,?_⟩⟩,k2,fun c hc=>o2 c (by have:=(hkl c hc).1; omega) (hkl c hc).2⟩
  rw[e1]at hl
  refine fin_bytes (bg:=bg) (ini:=if 0+1=w*h then headF w h else []) e2 (by rw[e3,hD]) (by rw[← e1]; omega) hl ?_
  rcases ha with⟨q1,q2,q3⟩ | ⟨q1,q2,q3⟩
  ·exact .inl ⟨q2,by rw[if_pos om],q3⟩
  ·exact .inr ⟨q2,by rw[if_neg om],q3⟩
 ·obtain⟨P2,A2,b2⟩:=g1 h0
  have hput:a++putF w h left bg=midB w h:=by
   obtain⟨x1,x2⟩:=idat_hd
   unfold putF
   rcases ha with⟨rfl,rfl,rfl⟩ | ⟨q1,rfl,rfl⟩
   ·rw[if_pos om,x1]; rfl
   ·rw[if_neg om,x2]; simp
  have hpl:(putF w h left bg).length≤47:=by
   have:=congrArg List.length hput
   rw[lA,hml]at this; omega
  obtain⟨av',H2,m2,A3,k2,b3,o2⟩:=app_bytes A1 (src_cel (A2.cel1 A2.blk')) om
  rw[hput]at A3
  have tz2:∀c,H1.next≤c→τ' c=0:=by
   obtain⟨⟨_,_,Z⟩,_,_,_,_⟩:=P2
   exact Z.lt.2.2
  have av0:Blk av (τ' ·=0):=hab.mono fun c hc=>(f1 c hc.1 hc.2.2).1
  have avb:=(b3 _ (ab.and av0))
  have o2':∀c,c<H1.next→(τ' c≠0∨c<nl)→H2.get c=H1.get c:=fun c hc q=>o2 c hc ((ab.and av0).mono fun d hd=>by rintro rfl; omega)
  refine⟨av',H2,midB w h,m2,⟨A3,avb.mono fun c hc=>om,by rw[hml]; omega,.inl ⟨om,τ',_,_,true,_,by rw[show w*h-(i+1)=left by omega]; exact P2.fr om k2 fun c hc q=>o2' c hc om,W2,fun c hkc=>(f1 c (hkl c hkc).1 (kt c hkc)).1,avb.mono fun c hc=>hc.elim And.right fun q=>tz2 c q,.inr ⟨om,rfl,rfl⟩⟩⟩,k2,fun c hc=>o2 c (by have:=(hkl c hc).1; omega) (hkl c hc).2⟩
theorem law_spec{H0:AHeap}{wv hv u v:Int}{pv:AVal}{ps:List Bs}(hpv:Pix4 H0.next H0 pv ps)(hA:∀H,ACalls Tryz.prog natT 12 [] H fun x _=>x=.bool true):ACalls Tryz.prog natT 3 [.int .i64 wv,.int .i64 hv,pv,.int .i64 u,.int .i64 v] H0 fun x _=>x=.bool true:=by
 refine acalls_ofN rfl za3 rfl ?_
 refine wp_cutP [1,1,1,1,1,1,1] ?_
 simp only[c3,sC,sA,sB,seval]
 refine (pick_spec wv 20 om om).mono ?_
 rintro _ _ ⟨⟨x,hx,rfl⟩,rfl⟩
 simp only[sA,sB,seval]
 refine (pick_spec hv 20 om om).mono ?_
 rintro _ _ ⟨⟨y,hy,rfl⟩,rfl⟩
 obtain⟨w,hw⟩:∃w,w=1+x:=⟨_,rfl⟩
 obtain⟨h,hh⟩:∃h,h=1+y:=⟨_,rfl⟩
 have w1:IntKind.i64.wrap (1+(x:Int))=(w:Int):=w64
 have w2:IntKind.i64.wrap (1+(y:Int))=(h:Int):=w64
 have b1:1≤w:=om
 have b2:w≤20:=om
 have b3:1≤h:=om
 have b4:h≤20:=om
 have OK:=okP b1 b2 b3 b4
 have hwh:w*h≤20*20:=Nat.mul_le_mul b2 b4
 have hwh0:1≤w*h:=Nat.mul_le_mul b1 b3
 simp only[sA,sB,seval,w1,w2]
 refine (pnew_spec b1 b2 b3 b4 H0).mono ?_
 rintro _ H1 ⟨e,z,m,τ,rfl,P1,hm1,he0,hz0,tz0,E1⟩
 have e1n:=E1.next
 have P1':=P1
 obtain⟨⟨n0,Kz,Z1⟩,⟨rs,R1,ro1,rb1⟩,en,et,ez⟩:=P1'
 obtain⟨hz1,tz,tzn⟩:=Z1.lt
 have w4:IntKind.i64.wrap (4*(w:Int))=((4*w:Nat):Int):=w64
 have hm4:4*w*h=4*(w*h):=Nat.mul_assoc 4 w h
 have w5:IntKind.i64.wrap (((4*w:Nat):Int)*(h:Int))=((4*(w*h):Nat):Int):=by rw[← Int.natCast_mul,hm4,wrap64 om om]
 obtain⟨N,hN⟩:∃N,N=4*(w*h):=⟨_,rfl⟩
 rw[← hN]at w5
 have mk:=row_make (H:=H1) (z:=.int .u8 0) (bytes:=1) (k:=N) om om
 obtain⟨PS,hPS⟩:∃l,l=(List.range (w*h)).map (pixV ps (orderL w h)):=⟨_,rfl⟩
 have PSl:PS.length=w*h:=by rw[hPS]; simp
 have PS4:∀p∈PS,p.length=4:=fun p hp=>by
  rw[hPS]at hp
  obtain⟨i,_,rfl⟩:=List.mem_map.1 hp
  exact pixV_len hpv _ i
 have PSat:∀i,i<w*h→PS[i]?=some (pixV ps (orderL w h) i):=fun i hi=>by rw[hPS,List.getElem?_map,List.getElem?_range hi]; rfl
 obtain⟨D,hD⟩:∃D,D=PS.flatten:=⟨_,rfl⟩
 have Dl:D.length=N:=by rw[hD,flat_len PS4,PSl,hN]
 obtain⟨H2,hH2⟩:∃H2,H2=H1.push (.cells (List.replicate N (.int .u8 0)) 0 false):=⟨_,rfl⟩
 rw[← hH2]at mk
 have n2:H2.next=H1.next+1:=by rw[hH2,push_next]
 have q2:∀c,c<H1.next→H2.get c=H1.get c:=fun c hc=>by rw[hH2]; exact get_push_lt hc
 have r2:Row H2 H1.next (byts (placeK (orderL w h) D N 0)):=by
  have e:byts (placeK (orderL w h) D N 0)=List.replicate N (.int .u8 0):=by simp[placeK,byts]
  rw[e,hH2]; exact row_push _ _
 simp only[sA,sB,seval,ext_0,ext_1,w4,w5,mk]
 refine (order_spec b1 b2 b3 b4 H2).mono ?_
 rintro ov H3 ⟨co,bo,E3⟩
 have e3n:=E3.next
 have lo:=co.len
 rw[nats_len,OK.len]at lo
 have obk:=(cel_blk co).and bo
 have e13:∀c,c<H1.next→H3.get c=H1.get c:=fun c hc=>by rw[E3.old c om,q2 c hc]
 have P3:=P1.fr (H':=H3) hm1 om fun c hc _=>e13 c hc
 simp only[sA,sB,seval,lo]
 refine aw_loop (fun mm (T:Env) H=>∃i av a,mm=w*h-i∧i≤w*h∧T 0=.int .i64 (w:Int)∧T 1=.int .i64 (h:Int)∧T 2=pv∧T 3=.int .i64 u∧T 4=.int .i64 v∧T 11=cellR e 7 0∧T 13=slR H1.next N (.known N)∧T 14=av∧T 50=ov∧T 51=.int .i64 ((w*h:Nat):Int)∧T 52=.int .i64 (i:Int)∧H3.next≤H.next∧Row H H1.next (byts (placeK (orderL w h) D N i))∧(∀c,c<H3.next→c≠e→c≠z→c≠H1.next→τ c=0→H.get c=H3.get c)∧LI w h D PS n0 H3.next e z m (fun c=>c<H3.next∧c≠e∧c≠z∧τ c=0) i H av a) (w*h)
  ⟨0,nilS,[],rfl,Nat.zero_le _,by simp only[sA,sB,seval],by simp only[sA,sB,seval],by simp only[sA,sB,seval],by simp only[sA,sB,seval],by simp only[sA,sB,seval],by simp only[sA,sB,seval],by simp only[sA,sB,seval],by simp only[sA,sB,seval]; try rfl,by simp only[sA,sB,seval],by simp only[sA,sB,seval],by simp only[sA,sB,seval]; try rfl,Nat.le_refl _,r2.same (E3.old _ om),fun _ _ _ _ _ _=>rfl,AppN.nil _ _ _,blk_nil _,by simp,.inl ⟨om,τ,_,_,false,[],P3,WR.zero (fun m hm=>(OK.many m hm).1) PS,fun c hc=>hc.2.2.2,blk_nil _,.inl ⟨rfl,rfl,rfl⟩⟩⟩ ?_
 rintro mm T H ⟨i,av,a,rfl,hi,t0,t1,t2,t3,t4,t11,t13,t14,t50,t51,t52,nn,wr,fr,L⟩
 by_cases hlt:i<w*h
 case neg=>
  obtain rfl:i=w*h:=om
  have hlt':¬((w*h:Nat):Int)<((w*h:Nat):Int):=om
  obtain⟨A,ab,al,⟨q,_⟩ | ⟨-,F⟩⟩:=L
  ·omega
  simp only[sA,sB,seval,t51,t52,hlt']
  refine law_rest (bw:=H1.next) (D:=D) b1 b2 b3 b4 hA (u:=u) (v:=v) (by simp only[sA,sB,seval,t0]) (by simp only[sA,sB,seval,t1]) (by simp only[sA,sB,seval,t3]) (by simp only[sA,sB,seval,t4]) (by simp only[sA,sB,seval,t13,hN]) (by simp only[sA,sB,seval,t14]) A F (by rw[Dl,hN]) (by rw[← hN]; exact wr) om
 have hlt':(i:Int)<((w*h:Nat):Int):=om
 obtain⟨n',ho1,ho2,ho3⟩:=orderL_lt OK hlt
 have fr0:∀c,c<H0.next→H.get c=H0.get c:=fun c hc=>by rw[fr c om om om om (tz0 c hc),e13 c om,E1.old c hc]
 have cob:Cel H3.next H ov (nats (orderL w h)):=cel_same co rL (obk.mono fun c hc=>fr c hc.1 om om om (tzn c om))
 have io:=cob.idx .i64 (i:=i) (by rw[nats_len,OK.len]; exact hlt)
 have lo':=cob.load (nats_at ho1)
 obtain⟨p,hp⟩:∃p,p=pixV ps (orderL w h) i:=⟨_,rfl⟩
 have hp4:p.length=4:=by rw[hp]; exact pixV_len hpv _ i
 have hpi:PS[i]?=some p:=by rw[hp]; exact PSat i hlt
 obtain⟨dflt,hdf⟩:∃d:Bs,d=[UInt8.ofNat i,7,UInt8.ofNat n',255]:=⟨_,rfl⟩
 have bd:aBuild [.int .u8 0,.int .u8 0,.int .u8 0,.int .u8 0] [(0,1,.int .u8 ((UInt8.ofNat i).toNat:Int)),(1,1,.int .u8 7),(2,1,.int .u8 ((UInt8.ofNat n').toNat:Int)),(3,1,.int .u8 255)]=some (.agg (byts dflt)):=by rw[hdf]; rfl
 obtain⟨H4,m4,r4,k4,q4⟩:=row_newL H [.int .u8 0,.int .u8 0,.int .u8 0,.int .u8 0] (n:=4) rfl
 obtain⟨H5,m5,r5,k5,q5⟩:=row_storeN r4 (n:=4) rfl (xs:=byts dflt) (by rw[hdf]; rfl) (byts_one _)
 have cb1:=bytB i
 have cb2:=bytB n'
 have lps:=hpv.1
 have R5:Row H5 H.next (byts dflt):=r5
 have q5':∀c,c<H.next→H5.get c=H.get c:=fun c hc=>by rw[q5 c om,q4 c om]
 by_cases hin:i<ps.length
 ·have hin':(i:Int)<(ps.length:Int):=om
  have hpp:ps[i]?=some p:=by
   rw[hp]
   unfold pixV
   rw[List.getElem?_eq_getElem hin]; rfl
  obtain⟨-,pb,pn,po,px,pbl,pld⟩:=hpv.2 i p hpp
  have pl5:=pld H5 (by rw[q5' pb om,fr0 pb pbl])
  obtain⟨H6,m6,r6,k6,q6⟩:=row_storeN R5 (n:=4) (by rw[hdf]; rfl) (xs:=byts p) (by rw[byts_len,hp4]) (byts_one _)
  have q6':∀c,c<H.next→H6.get c=H.get c:=fun c hc=>by rw[q6 c om,q5' c hc]
  have r6':oLoad true 4 H6 (cellR H.next 4 0)=some (.agg (byts p)):=row_loadN r6 (n:=4) (by rw[byts_len,hp4])
  have A6:=L.1.same (H':=H6) om (L.1.blk'.mono fun c hc=>q6' c hc)
  have L6:LI w h D PS n0 H3.next e z m (fun c=>(c<H3.next∧c≠e∧c≠z∧τ c=0)∨c=H.next) i H6 av a:=by
   obtain⟨_,ab,al,⟨hi',τ',rows,at_,bg,b,P,W,kt,at0,ha⟩ | ⟨e1,_⟩⟩:=L
   ·refine⟨A6,ab,al,.inl ⟨hi',τ',rows,at_,bg,b,P.fr om om fun c hc _=>q6' c hc,W,fun c hc=>?_,at0,ha⟩⟩
    rcases hc with hc | rfl
    ·exact kt c hc
    ·obtain⟨⟨_,_,Z⟩,_,_,_,_⟩:=P
     exact Z.lt.2.2 _ rL
   ·omega
  have Lb:=L.1.blk'
  simp only[sA,sB,seval,t0,t1,t2,t3,t4,t11,t13,t14,t50,t51,t52,hlt',io,lo',cb1,cb2,bd,m4,cells_agg,m5,lps,hin',px,pl5,m6,r6']
  refine (li_step b1 b2 b3 b4 L6 hlt hD PSl hpi hp4 om om om om ⟨fun q=>q.elim (fun q=>q.2.1 rfl) fun q=>om,fun q=>q.elim (fun q=>q.2.2.1 rfl) fun q=>om⟩ fun c hc=>⟨om,(Lb.and L.2.1).mono fun d hd=>om⟩).mono ?_
  rintro _ H7 ⟨vv,rfl,kp,k7,av',H8,a',m8,L8,k8,o8⟩
  have kp':∀c,c<H3.next→c≠e→c≠z→τ c=0→H8.get c=H.get c:=fun c hc h1 h2 h3=>by rw[o8 c (.inl ⟨hc,h1,h2,h3⟩),kp c (.inl ⟨hc,h1,h2,h3⟩),q6' c om]
  have wr8:=wr.same (kp' H1.next om om om (tzn _ rL))
  have lenP:(placeK (orderL w h) D N i).length=N:=placeK_len (fun n hn=>by have:=OK.lt n hn; omega) i (by rw[OK.len]; omega) om
  have g1:(0:Int)≤(n':Int):=om
  have g2:(n':Int)<((w*h:Nat):Int):=om
  have wm:IntKind.i64.wrap ((w:Int)*(h:Int))=((w*h:Nat):Int):=by rw[← Int.natCast_mul,wrap64 om om]
  have w4n:IntKind.i64.wrap (4*(n':Int))=((4*n':Nat):Int):=w64
  have sf:=sl_from (b:=H1.next) (N:=N) (lo:=4*n') om
  have slp:aSlArr 4 1 (cellR H.next 4 0) none none none=some (slR H.next 4 (.known 4)):=_root_.id rfl
  have r8:Row H8 H.next (byts p):=r6.same (by rw[o8 _ (.inr rfl),kp _ (.inr rfl)])
  have rd:rdCells H8 ⟨H.next,4,0⟩ 4=some (byts p):=by
   have:=rd_row r8 (by rw[byts_len,hp4]) (i:=0) (k:=4) om
   rwa [List.drop_zero,List.take_of_length_le (by rw[byts_len,hp4]; omega)]at this
  obtain⟨H9,m9,r9,k9,q9⟩:=cpy4 (r1:=.known (N-4*n')) (r2:=.known 4) (k:=N-4*n') wr8 (by rw[byts_len,lenP]) (lo:=4*n') om om rd (by rw[byts_len,hp4]) (byts_one _)
  rw[← byts_put]at r9
  have m9':aCpy 1 H8 [.slice (some ⟨H1.next,N,4*n'⟩) (N-4*n') (.known (N-4*n')),slR H.next 4 (.known 4)]=some (.int .i64 4,H9):=m9
  have hc:∀H l,aHf (.cpy 1) H l=aCpy 1 H l:=fun _ _=>rfl
  have wi:IntKind.i64.wrap ((i:Int)+1)=((i+1:Nat):Int):=w64
  have epl:placeK (orderL w h) D N (i+1)=put4 (placeK (orderL w h) D N i) n' p:=by
   have:=flat_at PS4 hpi
   rw[← hD]at this
   show put4 _ ((orderL w h).getD i 0) ((D.drop (4*i)).take 4)=_
   rw[ho3,this]
  have L9:LI w h D PS n0 H3.next e z m (fun c=>c<H3.next∧c≠e∧c≠z∧τ c=0) (i+1) H9 av' a':=by
   obtain⟨A8,ab,al,hh8⟩:=L8
   have A9:=A8.same (H':=H9) om (ab.mono fun c hc=>q9 c om)
   rcases hh8 with⟨hi',τ',rows,at_,bg,b,P,W,kt,at0,ha⟩ | ⟨e1,F⟩
   ·refine⟨A9,ab,al,.inl ⟨hi',τ',rows,at_,bg,b,P.fr om om fun c hc q=>q9 c ?_,W,fun c hc=>kt c (.inl hc),at0,ha⟩⟩
    have:=kt H1.next (.inl ⟨om,om,om,tzn _ rL⟩)
    rintro rfl
    omega
   ·exact⟨A9,ab,al,.inr ⟨e1,F⟩⟩
  simp only[sA,sB,seval,ext_0,ext_1,t0,t1,t2,t3,t4,t11,t13,t14,t50,t51,t52,m8,g1,g2,wm,w4n,sf,slp,hc,m9',wi]
  exact⟨w*h-(i+1),om,i+1,av',a',rfl,om,tt,tt,tt,tt,tt,tt,tt,tt,tt,tt,tt,om,by rw[epl]; exact r9,fun c hc h1 h2 h3 h4=>by rw[q9 c h3,kp' c hc h1 h2 h4,fr c hc h1 h2 h3 h4],L9⟩
 ·have hin':¬(i:Int)<(ps.length:Int):=om
  have hpd:p=dflt:=by
   rw[hp,hdf]
   unfold pixV
   rw[List.getElem?_eq_none om,ho3]; rfl
  rw[← hpd]at R5
  have r6':oLoad true 4 H5 (cellR H.next 4 0)=some (.agg (byts p)):=row_loadN R5 (n:=4) (by rw[byts_len,hp4])
  have A6:=L.1.same (H':=H5) om (L.1.blk'.mono fun c hc=>q5' c hc)
  have L6:LI w h D PS n0 H3.next e z m (fun c=>(c<H3.next∧c≠e∧c≠z∧τ c=0)∨c=H.next) i H5 av a:=by
   obtain⟨_,ab,al,⟨hi',τ',rows,at_,bg,b,P,W,kt,at0,ha⟩ | ⟨e1,_⟩⟩:=L
   ·refine⟨A6,ab,al,.inl ⟨hi',τ',rows,at_,bg,b,P.fr om om fun c hc _=>q5' c hc,W,fun c hc=>?_,at0,ha⟩⟩
    rcases hc with hc | rfl
    ·exact kt c hc
    ·obtain⟨⟨_,_,Z⟩,_,_,_,_⟩:=P
     exact Z.lt.2.2 _ rL
   ·omega
  have Lb:=L.1.blk'
  simp only[sA,sB,seval,t0,t1,t2,t3,t4,t11,t13,t14,t50,t51,t52,hlt',io,lo',cb1,cb2,bd,m4,cells_agg,m5,lps,hin',r6']
  refine (li_step b1 b2 b3 b4 L6 hlt hD PSl hpi hp4 om om om om ⟨fun q=>q.elim (fun q=>q.2.1 rfl) fun q=>om,fun q=>q.elim (fun q=>q.2.2.1 rfl) fun q=>om⟩ fun c hc=>⟨om,(Lb.and L.2.1).mono fun d hd=>om⟩).mono ?_
  rintro _ H7 ⟨vv,rfl,kp,k7,av',H8,a',m8,L8,k8,o8⟩
  have kp':∀c,c<H3.next→c≠e→c≠z→τ c=0→H8.get c=H.get c:=fun c hc h1 h2 h3=>by rw[o8 c (.inl ⟨hc,h1,h2,h3⟩),kp c (.inl ⟨hc,h1,h2,h3⟩),q5' c om]
  have wr8:=wr.same (kp' H1.next om om om (tzn _ rL))
  have lenP:(placeK (orderL w h) D N i).length=N:=placeK_len (fun n hn=>by have:=OK.lt n hn; omega) i (by rw[OK.len]; omega) om
  have g1:(0:Int)≤(n':Int):=om
  have g2:(n':Int)<((w*h:Nat):Int):=om
  have wm:IntKind.i64.wrap ((w:Int)*(h:Int))=((w*h:Nat):Int):=by rw[← Int.natCast_mul,wrap64 om om]
  have w4n:IntKind.i64.wrap (4*(n':Int))=((4*n':Nat):Int):=w64
  have sf:=sl_from (b:=H1.next) (N:=N) (lo:=4*n') om
  have slp:aSlArr 4 1 (cellR H.next 4 0) none none none=some (slR H.next 4 (.known 4)):=_root_.id rfl
  have r8:Row H8 H.next (byts p):=R5.same (by rw[o8 _ (.inr rfl),kp _ (.inr rfl)])
  have rd:rdCells H8 ⟨H.next,4,0⟩ 4=some (byts p):=by
   have:=rd_row r8 (by rw[byts_len,hp4]) (i:=0) (k:=4) om
   rwa [List.drop_zero,List.take_of_length_le (by rw[byts_len,hp4]; omega)]at this
  obtain⟨H9,m9,r9,k9,q9⟩:=cpy4 (r1:=.known (N-4*n')) (r2:=.known 4) (k:=N-4*n') wr8 (by rw[byts_len,lenP]) (lo:=4*n') om om rd (by rw[byts_len,hp4]) (byts_one _)
  rw[← byts_put]at r9
  have m9':aCpy 1 H8 [.slice (some ⟨H1.next,N,4*n'⟩) (N-4*n') (.known (N-4*n')),slR H.next 4 (.known 4)]=some (.int .i64 4,H9):=m9
  have hc:∀H l,aHf (.cpy 1) H l=aCpy 1 H l:=fun _ _=>rfl
  have wi:IntKind.i64.wrap ((i:Int)+1)=((i+1:Nat):Int):=w64
  have epl:placeK (orderL w h) D N (i+1)=put4 (placeK (orderL w h) D N i) n' p:=by
   have:=flat_at PS4 hpi
   rw[← hD]at this
   show put4 _ ((orderL w h).getD i 0) ((D.drop (4*i)).take 4)=_
   rw[ho3,this]
  have L9:LI w h D PS n0 H3.next e z m (fun c=>c<H3.next∧c≠e∧c≠z∧τ c=0) (i+1) H9 av' a':=by
   obtain⟨A8,ab,al,hh8⟩:=L8
   have A9:=A8.same (H':=H9) om (ab.mono fun c hc=>q9 c om)
   rcases hh8 with⟨hi',τ',rows,at_,bg,b,P,W,kt,at0,ha⟩ | ⟨e1,F⟩
   ·refine⟨A9,ab,al,.inl ⟨hi',τ',rows,at_,bg,b,P.fr om om fun c hc q=>q9 c ?_,W,fun c hc=>kt c (.inl hc),at0,ha⟩⟩
    have:=kt H1.next (.inl ⟨om,om,om,tzn _ rL⟩)
    rintro rfl
    omega
   ·exact⟨A9,ab,al,.inr ⟨e1,F⟩⟩
  simp only[sA,sB,seval,ext_0,ext_1,t0,t1,t2,t3,t4,t11,t13,t14,t50,t51,t52,m8,g1,g2,wm,w4n,sf,slp,hc,m9',wi]
  exact⟨w*h-(i+1),om,i+1,av',a',rfl,om,tt,tt,tt,tt,tt,tt,tt,tt,tt,tt,tt,om,by rw[epl]; exact r9,fun c hc h1 h2 h3 h4=>by rw[q9 c h3,kp' c hc h1 h2 h4,fr c hc h1 h2 h3 h4],L9⟩
theorem rput_spec{H:AHeap}{v:AVal}{L:List Bool}{t:Nat}(h:RW H.next H v L t)(x k:Nat)(hk:k≤32)(hx:x<2 ^ k)(hL:L.length≤10000000) :
  ACalls Tryz.prog natT 132 [v,.int .u32 (x:Int),.int .i64 (k:Int)] H fun w H'=>∃v',w=.tuple [v',.int .i64 0]∧RW H'.next H' v' (L++bitsN x k) t∧VB v' (H.next≤·)∧Ext H.next H H':=by
 obtain⟨sv,rfl,hs⟩:=h
 refine acalls_ofN rfl za132 rfl ?_
 have hx32:x<2 ^ 32:=Nat.lt_of_lt_of_le hx (Nat.pow_le_pow_right om hk)
 have hk63:(2:Nat) ^ k≤2 ^ 32:=Nat.pow_le_pow_right om hk
 obtain⟨H1,m1,r1,k1,o1⟩:=row_newL H [sv,.int .i64 (t:Int)] (n:=2) rfl
 obtain⟨H2,m2,r2,k2',o2⟩:=row_newL H1 [.slice none 0 (.known 0),.int .i64 0] (n:=2) rfl
 have c1:¬(k:Int)<0:=om
 have c2:¬(32:Int)<(k:Int):=om
 have w1:IntKind.u64.wrap (x:Int)=(x:Int):=wrapU64' om om
 have w2:IntKind.u64.wrap (k:Int)=(k:Int):=wrapU64' om om
 have sh:=bin_shlU .u64 .u64 (.inr (.inr (.inr rfl))) 1 (b:=k) (by simp only[IntKind.bits]; omega)
 have shm:1*2 ^ k % 2 ^ IntKind.u64.bits=2 ^ k:=by
  simp only[IntKind.bits,Nat.one_mul]
  exact Nat.mod_eq_of_lt om
 rw[shm]at sh
 have sh':aBin .shl (.int .u64 1) (.int .u64 (k:Int))=some (.int .u64 ((2 ^ k:Nat):Int)):=sh
 have c3:¬((2 ^ k:Nat):Int)≤(x:Int):=om
 have E2:Ext H.next H H2:=⟨om,fun c hc=>by rw[o2 c om,o1 c om]⟩
 have r1':Row H2 H.next [sv,.int .i64 (t:Int)]:=r1.same (o2 _ om)
 have l0:oLoad false 1 H2 (cellR H.next 2 0)=some sv:=row_load r1' rfl rfl
 have hs2:Cel H.next H2 sv (bls L):=hs.ext E2
 have src:aSrc 1 H2 sv=some (L.length,bls L):=by have:=hs2.src; rwa [bls_len]at this
 obtain⟨s3,H3,m3,A3,n3,b3,o3⟩:=(AppN.nil 1 0 H2).many src (by rw[bls_len]; omega) (bls_one L) om (bytes:=1) om om
 rw[List.nil_append,Nat.zero_add]at A3
 have m3':aAppend 1 1 H2 (.slice none 0 (.known 0)) sv=some (s3,H3):=m3
 have E3:Ext H2.next H2 H3:=⟨n3,fun c hc=>o3 c hc (blk_nil _)⟩
 have B3:Blk s3 (H2.next≤·):=(b3 (fun _=>False) (blk_nil _)).mono fun b hb=>hb.elim (fun q=>q.elim) fun q=>q
 simp only[c132,sA,sB,seval,cells_agg,m1,m2,c1,c2,w1,w2,sh',c3,fldA,fld0,l0,m3']
 refine aw_loop (fun q (T:Env) H'=>∃j:Nat,j≤k∧q=k-j∧T 1=.int .u32 ((x / 2 ^ j:Nat):Int)∧T 2=.int .i64 (k:Int)∧T 3=cellR H.next 2 0∧T 6=cellR H1.next 2 0∧T 9=.int .i64 (j:Int)∧AppN 1 0 H' (T 8) (bls (L++bitsN x j)) (L.length+j)∧Blk (T 8) (H2.next≤·)∧Ext H2.next H2 H') k
  ⟨0,Nat.zero_le _,rfl,by simp only[sA,sB,seval]; simp,by simp only[sA,sB,seval]; try rfl,by simp only[sA,sB,seval]; try rfl,by simp only[sA,sB,seval]; try rfl,by simp only[sA,sB,seval]; try rfl,by simp only[sA,sB,seval]; simpa[bitsN] using A3,by simp only[sA,sB,seval]; exact B3,E3⟩ ?_
 rintro q T H' ⟨j,hj,rfl,g1,g2,g3,g6,g9,A,B,E⟩
 by_cases hlt:j<k
 ·have hlt':(j:Int)<(k:Int):=om
  have hxj:x / 2 ^ j<2 ^ 32:=Nat.lt_of_le_of_lt (Nat.div_le_self _ _) hx32
  have hr:aBin .rem (.int .u32 ((x / 2 ^ j:Nat):Int)) (.int .u32 2)=some (.int .u32 ((x / 2 ^ j % 2:Nat):Int)):=remU32 2 om
  have hq:aBin .quo (.int .u32 ((x / 2 ^ j:Nat):Int)) (.int .u32 2)=some (.int .u32 ((x / 2 ^ j / 2:Nat):Int)):=quoU32 2 om om
  have hbit:decide (((x / 2 ^ j % 2:Nat):Int)=1)=(x / 2 ^ j % 2==1):=by
   rw[Bool.eq_iff_iff]; simp only[decide_eq_true_eq,beq_iff_eq]; omega
  obtain⟨s',H4,m4,A4,n4,b4,o4⟩:=A.pushB (m:=1) (xs:=[.bool (x / 2 ^ j % 2==1)]) rfl rfl om (bytes:=1) om om
  have m4':aAppend 1 1 (H'.push (.cells [.bool (x / 2 ^ j % 2==1)] 0 false)) (T 8) (oneS H')=some (s',H4):=m4
  have bld:aBuildSl 1 [.bool false] H' [(0,1,.bool (x / 2 ^ j % 2==1))]=some (oneS H',H'.push (.cells [.bool (x / 2 ^ j % 2==1)] 0 false)):=build1 _ _ rfl
  have en:=E.next
  simp only[sA,sB,seval,g1,g2,g3,g6,g9,hlt',hr,hbit,bld,m4',hq,wrap1 j om]
  refine⟨_,om,j+1,om,rfl,by rw[Nat.pow_succ,← Nat.div_div_eq_div_mul],tt,tt,tt,tt,?_,(b4 _ B).mono fun b hb=>om,E.trans ⟨n4,fun c hc=>o4 c om (B.mono fun b hb=>om)⟩⟩
  rw[bitsN_snoc,← List.append_assoc,bls_append]
  exact A4
 ·have hlt':¬(j:Int)<(k:Int):=om
  have hjk:j=k:=om
  subst hjk
  have en:=E.next
  have R1:Row H' H.next [sv,.int .i64 (t:Int)]:=r1'.same (E.old _ om)
  obtain⟨H4,m4,r4,k4,o4⟩:=row_st R1 (n:=2) rfl (i:=0) om (x:=T 8) A.one rfl
  have l4:=row_loadN r4 (n:=2) rfl
  have R2:Row H4 H1.next [.slice none 0 (.known 0),.int .i64 0]:=r2.same (by rw[o4 _ om,E.old _ om])
  obtain⟨H5,m5,r5,k5,o5⟩:=row_storeN R2 (n:=2) rfl (xs:=[T 8,.int .i64 (t:Int)]) rfl (by simp only[List.all_cons,List.all_nil,A.one]; rfl)
  have l4':oLoad true 2 H4 (cellR H.next 2 0)=some (.agg [T 8,.int .i64 (t:Int)]):=l4
  simp only[sA,sB,seval,g1,g2,g3,g6,g9,hlt',fldA,fld0,m4,l4',m5]
  refine fin_ct2 _ _ _ (by simp only[sA,sB,seval,g6]; exact row_loadN r5 (n:=2) rfl) ⟨_,by simp only[sA,sB,seval]; try rfl,⟨T 8,rfl,?_⟩,vb_agg (B.mono fun b hb=>om),⟨om,fun c hc=>by rw[o5 c om,o4 c om,E.old c om]; exact E2.old c hc⟩⟩
  have hB:Blk (T 8) fun b=>b<H'.next∧H2.next≤b:=A.blk'.and B
  exact (A.same (H':=H5) om (hB.mono fun b hb=>by rw[o5 b om,o4 b om])).cel1 (hB.mono fun b hb=>om)
theorem rbits_spec{H:AHeap}{v:AVal}{L:List Bool}{t:Nat}(h:RW H.next H v L t)(x k:Nat)(turned:Bool)(hk:k≤32)(hx:x≤1000000000)(hL:L.length+100≤10000000) :
  ACalls Tryz.prog natT 135 [v,.int .i64 (x:Int),.int .i64 (k:Int),.bool turned] H fun w H'=>RW H'.next H' w (L++bitsT x k turned) t∧(∀P,VB v P→VB w fun b=>P b∨H.next≤b)∧Ext H.next H H':=by
 refine acalls_ofN rfl za135 rfl ?_
 have hv:∃sv,v=.agg [sv,.int .i64 (t:Int)]:=by obtain⟨sv,h1,_⟩:=h; exact⟨sv,h1⟩
 obtain⟨sv,rfl⟩:=hv
 obtain⟨H1,m1,r1,k1,o1⟩:=row_newL H [sv,.int .i64 (t:Int)] (n:=2) rfl
 obtain⟨H2,m2,r2,k2',o2⟩:=row_newL H1 [.slice none 0 (.known 0),.int .i64 0] (n:=2) rfl
 have E2:Ext H.next H H2:=⟨om,fun c hc=>by rw[o2 c om,o1 c om]⟩
 simp only[c135,sA,sB,seval,cells_agg,m1,m2]
 refine aw_loop (fun q (T:Env) H'=>∃(j:Nat) (v':AVal),j≤k∧q=k-j∧T 1=.int .i64 (x:Int)∧T 2=.int .i64 (k:Int)∧T 3=.bool turned∧T 4=cellR H.next 2 0∧T 8=cellR H1.next 2 0∧T 9=.int .i64 (j:Int)∧RW H'.next H' v' (L++(bitsT x k turned).take j) t∧(∃cs,v'=.agg cs∧Row H' H.next cs∧cs.length=2)∧Row H' H1.next [.slice none 0 (.known 0),.int .i64 0]∧H2.next≤H'.next∧(∀P,VB (.agg [sv,.int .i64 (t:Int)]) P→VB v' fun b=>P b∨H2.next≤b)∧Ext H.next H H') k
  ⟨0,.agg [sv,.int .i64 (t:Int)],Nat.zero_le _,rfl,by simp only[sA,sB,seval]; try rfl,by simp only[sA,sB,seval]; try rfl,by simp only[sA,sB,seval]; try rfl,by simp only[sA,sB,seval]; try rfl,by simp only[sA,sB,seval]; try rfl,by simp only[sA,sB,seval]; try rfl,by simpa using h.fwd E2,⟨_,rfl,r1.same (o2 _ om),rfl⟩,r2,Nat.le_refl _,fun P hP=>hP.mono fun b hb=>.inl hb,E2⟩ ?_
 rintro q T H' ⟨j,v',hj,rfl,g1,g2,g3,g4,g8,g9,hW,⟨cs,rfl,hR,hcl⟩,hR8,hn,hVB,E⟩
 have ld:=row_loadN hR hcl
 by_cases hlt:j<k
 ·have hlt':(j:Int)<(k:Int):=om
  obtain⟨at_,hat⟩:∃a,a=(if turned then k-1-j else j):=⟨_,rfl⟩
  have hget:=bitsT_get (x:=x) turned hlt
  rw[← hat]at hget
  have hatk:at_<32:=by rw[hat]; split <;> omega
  have hshr:=shrN .i64 .u64 x (b:=at_) (by simp only[IntKind.bits]; omega)
  have hr:aBin .rem (.int .i64 ((x / 2 ^ at_:Nat):Int)) (.int .i64 2)=some (.int .i64 ((x / 2 ^ at_ % 2:Nat):Int)):=bin_remN _ 2 om
  have wu:IntKind.u64.wrap (at_:Int)=(at_:Int):=wrapU64' om om
  have wv:IntKind.u32.wrap ((x / 2 ^ at_ % 2:Nat):Int)=((x / 2 ^ at_ % 2:Nat):Int):=wrapU32 om om
  have hb2:x / 2 ^ at_ % 2<2 ^ 1:=om
  have step:∀T':Env,T' 1=.int .i64 (x:Int)→T' 2=.int .i64 (k:Int)→T' 3=.bool turned→T' 4=cellR H.next 2 0→T' 8=cellR H1.next 2 0→T' 9=.int .i64 (j:Int)→True:=fun _ _ _ _ _ _ _=>trivial
  have put:=rput_spec hW (x / 2 ^ at_ % 2) 1 om hb2 (by rw[lA,List.length_take,bitsT_len]; omega)
  have b1:bitsN (x / 2 ^ at_ % 2) 1=[x / 2 ^ at_ % 2==1]:=by simp[bitsN]
  rw[b1]at put
  have fin':∀(w:AVal) (H3:AHeap),(∃v',w=.tuple [v',.int .i64 0]∧RW H3.next H3 v' (L++(bitsT x k turned).take j++[x / 2 ^ at_ % 2==1]) t∧VB v' (H'.next≤·)∧Ext H'.next H' H3)→∃ds H4,w=.tuple [.agg ds,.int .i64 0]∧oStore 2 H3 (cellR H.next 2 0) (.agg ds)=some H4∧RW H4.next H4 (.agg ds) (L++(bitsT x k turned).take (j+1)) t∧(∃cs,AVal.agg ds=.agg cs∧Row H4 H.next cs∧cs.length=2)∧Row H4 H1.next [.slice none 0 (.known 0),.int .i64 0]∧H2.next≤H4.next∧(∀P,VB (.agg [sv,.int .i64 (t:Int)]) P→VB (.agg ds) fun b=>P b∨H2.next≤b)∧Ext H.next H H4:=by
   rintro w H3 ⟨v3,rfl,⟨sv3,rfl,hC⟩,hvb3,E3⟩
   have n3:=E3.next
   obtain⟨H4,m4,r4,k4,o4⟩:=row_storeN (hR.same (E3.old _ om)) hcl (xs:=[sv3,.int .i64 (t:Int)]) rfl (by simp only[List.all_cons,List.all_nil,cel_one hC]; rfl)
   refine⟨_,H4,rfl,m4,⟨sv3,rfl,?_⟩,⟨_,rfl,r4,rfl⟩,hR8.same (by rw[o4 _ om,E3.old _ om]),om,fun P _=>vb_agg ((hvb3 _ _ rfl).mono fun b hb=>.inr om),⟨om,fun c hc=>by rw[o4 c om,E3.old c om]; exact E.old c hc⟩⟩
   rw[take_snoc hget,← List.append_assoc]
   exact cel_same hC om ((hvb3 _ _ rfl).mono fun b hb=>o4 b om)
  cases turned with
  | false=>
   have e:at_=j:=by rw[hat]; rfl
   rw[e]at hshr hr wu wv put fin'
   simp only[sA,sB,seval,g1,g2,g3,g4,g8,g9,hlt',ld,wu,hshr,hr,wv]
   refine put.mono ?_
   intro w H3 hw
   obtain⟨ds,H4,rfl,m4,q1,q2,q3,q4,q6,q5⟩:=fin' w H3 hw
   simp only[sA,sB,seval,g1,g2,g3,g4,g8,g9,ext_0,ext_1,m4,wrap1 j om]
   exact⟨_,om,j+1,.agg ds,om,rfl,tt,tt,tt,tt,tt,tt,q1,q2,q3,q4,q6,q5⟩
  | true=>
   have e:at_=k-1-j:=by rw[hat]; rfl
   have wk1:IntKind.i64.wrap ((k:Int)-1)=((k-1:Nat):Int):=by rw[wrap64 om om]; omega
   have wk2:IntKind.i64.wrap (((k-1:Nat):Int)-(j:Int))=(at_:Int):=by rw[wrap64 om om]; omega
   simp only[sA,sB,seval,g1,g2,g3,g4,g8,g9,hlt',ld,wk1,wk2,wu,hshr,hr,wv]
   refine put.mono ?_
   intro w H3 hw
   obtain⟨ds,H4,rfl,m4,q1,q2,q3,q4,q6,q5⟩:=fin' w H3 hw
   simp only[sA,sB,seval,g1,g2,g3,g4,g8,g9,ext_0,ext_1,m4,wrap1 j om]
   exact⟨_,om,j+1,.agg ds,om,rfl,tt,tt,tt,tt,tt,tt,q1,q2,q3,q4,q6,q5⟩
 ·have hlt':¬(j:Int)<(k:Int):=om
  have hjk:j=k:=om
  subst hjk
  rw[List.take_of_length_le (by rw[bitsT_len]; omega)]at hW
  obtain⟨sw,e1,hC⟩:=hW
  simp only[AVal.agg.injEq]at e1
  subst e1
  obtain⟨H4,m4,r4,k4,o4⟩:=row_storeN hR8 (n:=2) rfl (xs:=[sw,.int .i64 (t:Int)]) rfl (by simp only[List.all_cons,List.all_nil,cel_one hC]; rfl)
  simp only[sA,sB,seval,g1,g2,g3,g4,g8,g9,hlt',ld,m4]
  refine fin_1 _ _ _ (by simp only[sA,sB,seval,g8]; exact row_loadN r4 (n:=2) rfl) ⟨⟨sw,rfl,?_⟩,fun P hP=>(hVB P hP).mono fun b hb=>hb.imp (fun q=>q) fun q=>om,⟨om,fun c hc=>by rw[o4 c om]; exact E.old c hc⟩⟩
  have hb:Blk sw fun b=>b<H.next∨H2.next≤b:=hVB _ h.vb _ _ rfl
  exact cel_same hC om (hb.mono fun b hb=>o4 b om)
theorem ralignw_spec{H:AHeap}{v:AVal}{L:List Bool}{t:Nat}(h:RW H.next H v L t)(hL:L.length+100≤10000000) :
  ACalls Tryz.prog natT 117 [v] H fun w H'=>RW H'.next H' w (L++List.replicate (fillN L.length) false) t∧(∀P,VB v P→VB w fun b=>P b∨H.next≤b)∧Ext H.next H H':=by
 refine acalls_ofN rfl za117 rfl ?_
 have hv:∃sv,v=.agg [sv,.int .i64 (t:Int)]:=by obtain⟨sv,h1,_⟩:=h; exact⟨sv,h1⟩
 obtain⟨sv,rfl⟩:=hv
 have hf:fillN L.length<8:=by unfold fillN; omega
 have hf0:=fill_ok L.length
 obtain⟨H1,m1,r1,k1,o1⟩:=row_newL H [sv,.int .i64 (t:Int)] (n:=2) rfl
 obtain⟨H2,m2,r2,k2',o2⟩:=row_newL H1 [.slice none 0 (.known 0),.int .i64 0] (n:=2) rfl
 have E2:Ext H.next H H2:=⟨om,fun c hc=>by rw[o2 c om,o1 c om]⟩
 simp only[c117,sA,sB,seval,cells_agg,m1,m2]
 refine aw_loop (fun q (T:Env) H'=>∃(j:Nat) (sj:AVal),j≤fillN L.length∧q=fillN L.length-j∧T 1=cellR H.next 2 0∧T 2=cellR H1.next 2 0∧Cel H'.next H' sj (bls (L++List.replicate j false))∧Row H' H.next [sj,.int .i64 (t:Int)]∧Row H' H1.next [.slice none 0 (.known 0),.int .i64 0]∧H2.next≤H'.next∧(∀P,Blk sv P→Blk sj fun b=>P b∨H2.next≤b)∧Ext H.next H H') (fillN L.length)
  ⟨0,sv,Nat.zero_le _,rfl,by simp only[sA,sB,seval]; try rfl,by simp only[sA,sB,seval]; try rfl,?_,r1.same (o2 _ om),r2,Nat.le_refl _,fun P hP=>hP.mono fun b hb=>.inl hb,E2⟩ ?_
 ·obtain⟨sv',e1,hC⟩:=h.fwd E2
  simp only[AVal.agg.injEq,List.cons.injEq,and_true]at e1
  rw[e1]; simpa using hC
 rintro q T H' ⟨j,sj,hj,rfl,g1,g2,hC,hR,hR2,hn,hB,E⟩
 have l0:oLoad false 1 H' (cellR H.next 2 0)=some sj:=row_load hR rfl rfl
 have ld:=row_loadN hR (n:=2) rfl
 have hlen:aLenK false sj=some (.int .i64 ((L.length+j:Nat):Int)):=by
  have:=hC.len
  rwa [bls_len,lA,List.length_replicate]at this
 have hr:aBin .rem (.int .i64 ((L.length+j:Nat):Int)) (.int .i64 8)=some (.int .i64 (((L.length+j) % 8:Nat):Int)):=bin_remN _ 8 om
 by_cases hlt:j<fillN L.length
 ·have hne:¬(((L.length+j) % 8:Nat):Int)=0:=by unfold fillN at hlt; omega
  have put:=rput_spec (H:=H') (v:=.agg [sj,.int .i64 (t:Int)]) ⟨sj,rfl,hC⟩ 0 1 om om (by rw[lA,List.length_replicate]; omega)
  simp only[sA,sB,seval,g1,g2,fldA,fld0,l0,ld,hlen,hr,hne]
  refine put.mono ?_
  rintro w H3 ⟨v3,rfl,⟨sv3,rfl,hC3⟩,hvb3,E3⟩
  have n3:=E3.next
  obtain⟨H4,m4,r4,k4,o4⟩:=row_storeN (hR.same (E3.old _ om)) (n:=2) rfl (xs:=[sv3,.int .i64 (t:Int)]) rfl (by simp only[List.all_cons,List.all_nil,cel_one hC3]; rfl)
  simp only[sA,sB,seval,g1,g2,ext_0,ext_1,m4]
  refine⟨_,om,j+1,sv3,om,rfl,tt,tt,?_,r4,hR2.same (by rw[o4 _ om,E3.old _ om]),om,fun P _=>(hvb3 _ _ rfl).mono fun b hb=>.inr om,⟨om,fun c hc=>by rw[o4 c om,E3.old c om]; exact E.old c hc⟩⟩
  have e:L++List.replicate (j+1) false=L++List.replicate j false++bitsN 0 1:=by rw[List.replicate_succ',List.append_assoc]; rfl
  rw[e]
  exact cel_same hC3 om ((hvb3 _ _ rfl).mono fun b hb=>o4 b om)
 ·have hjk:j=fillN L.length:=om
  subst hjk
  have hne:(((L.length+fillN L.length) % 8:Nat):Int)=0:=om
  obtain⟨H4,m4,r4,k4,o4⟩:=row_storeN hR2 (n:=2) rfl (xs:=[sj,.int .i64 (t:Int)]) rfl (by simp only[List.all_cons,List.all_nil,cel_one hC]; rfl)
  simp only[sA,sB,seval,g1,g2,fldA,fld0,l0,ld,hlen,hr,hne,m4]
  have hb:Blk sj fun b=>b<H.next∨H2.next≤b:=hB _ (h.vb _ _ rfl)
  exact fin_1 _ _ _ (by simp only[sA,sB,seval,g2]; exact row_loadN r4 (n:=2) rfl) ⟨⟨sj,rfl,cel_same hC om (hb.mono fun b hb=>o4 b om)⟩,fun P hP=>vb_agg ((hB P (hP _ _ rfl)).mono fun b hb=>hb.imp (fun q=>q) fun q=>om),⟨om,fun c hc=>by rw[o4 c om]; exact E.old c hc⟩⟩
theorem rnumber_spec{n:Nat}{H:AHeap}{v:AVal}{L:List Bool}(h:Cel n H v (bls L))(p k:Nat)(hk:k≤8)(hp:p+k≤L.length)(hL:L.length≤10000000) :
  ACalls Tryz.prog natT 131 [v,.int .i64 (p:Int),.int .i64 (k:Int)] H fun w H'=>w=.int .u32 ((natOf ((L.drop p).take k):Nat):Int)∧H=H':=by
 refine acalls_ofN rfl za131 rfl ?_
 have wk:IntKind.i64.wrap ((k:Int)-1)=(k:Int)-1:=wrap64 om om
 simp only[c131,sA,sB,seval,wk]
 refine aw_loop (fun q (T:Env) H'=>∃j:Nat,j≤k∧q=j∧T 0=v∧T 1=.int .i64 (p:Int)∧T 7=.int .u32 ((natOf ((L.drop (p+j)).take (k-j)):Nat):Int)∧T 8=.int .i64 ((j:Int)-1)∧H=H') k
  ⟨k,Nat.le_refl _,rfl,by simp only[sA,sB,seval]; try rfl,by simp only[sA,sB,seval]; try rfl,by simp only[sA,sB,seval]; simp[natOf],by simp only[sA,sB,seval]; try rfl,rfl⟩ ?_
 rintro j T _ ⟨_,hj,rfl,g0,g1,g7,g8,rfl⟩
 by_cases hlt:0<j
 ·obtain⟨i,rfl⟩:∃i,j=i+1:=⟨j-1,om⟩
  have ei:((i+1:Nat):Int)-1=(i:Int):=om
  rw[ei]at g8
  have hge:(0:Int)≤(i:Int):=om
  have hi:p+i<L.length:=om
  obtain⟨b,hb⟩:∃b,L[p+i]?=some b:=⟨_,List.getElem?_eq_getElem hi⟩
  have hidx:=h.idx .i64 (i:=p+i) (by rw[bls_len]; exact hi)
  have hld:=h.load (bls_get hb)
  have hcut:(L.drop (p+i)).take (k-i)=b::(L.drop (p+(i+1))).take (k-(i+1)):=by
   have e:k-i=(k-(i+1))+1:=om
   rw[e,← List.getElem_cons_drop (h:=hi),List.take_succ_cons]
   have:L[p+i]=b:=by rw[List.getElem?_eq_getElem hi]at hb; exact Option.some.inj hb
   rw[this]; rfl
  have hN:=natOf_lt ((L.drop (p+(i+1))).take (k-(i+1)))
  have hN2:natOf ((L.drop (p+(i+1))).take (k-(i+1)))<256:=Nat.lt_of_lt_of_le hN (Nat.le_trans (Nat.pow_le_pow_right om (show _≤8 by simp; omega)) om)
  generalize hX:natOf ((L.drop (p+(i+1))).take (k-(i+1)))=X at *
  have wm:IntKind.u32.wrap ((X:Int)*2)=((X*2:Nat):Int):=by rw[wrapU32 om om]; omega
  have wa:IntKind.u32.wrap (((X*2:Nat):Int)+1)=((X*2+1:Nat):Int):=by rw[wrapU32 om om]; omega
  have wi:IntKind.i64.wrap ((i:Int)-1)=(i:Int)-1:=wrap64 om om
  cases b with
  | true=>
   simp only[sA,sB,seval,g0,g1,g7,g8,hge,wrapN p i om,hidx,hld,wm,wa,wi]
   exact⟨i,om,i,om,rfl,tt,tt,by rw[hcut,natOf_cons,hX,if_pos rfl]; congr 2; omega,tt,tt⟩
  | false=>
   simp only[sA,sB,seval,g0,g1,g7,g8,hge,wrapN p i om,hidx,hld,wm,wa,wi]
   exact⟨i,om,i,om,rfl,tt,tt,by rw[hcut,natOf_cons,hX,if_neg dD]; congr 2; omega,tt,tt⟩
 ·obtain rfl:j=0:=om
  have hge:¬(0:Int)≤((0:Nat):Int)-1:=om
  simp only[sA,sB,seval,g0,g1,g7,g8,hge]
  exact⟨tt,tt⟩
theorem rtake_spec{H:AHeap}{v:AVal}{L:List Bool}(h:RW H.next H v L 0)(hL:L.length≤10000000) :
  ACalls Tryz.prog natT 116 [v] H fun w H'=>∃v' s,w=.tuple [v',s]∧RW H'.next H' v' L (L.length / 8)∧AppN 1 H.next H' s (u8s ((List.range (L.length / 8)).map (byteAt L))) (L.length / 8)∧(∀P,VB v P→VB v' P)∧Ext H.next H H':=by
 obtain⟨sv,rfl,hC⟩:=h
 refine acalls_ofN rfl za116 rfl ?_
 obtain⟨H1,m1,r1,k1,o1⟩:=row_newL H [sv,.int .i64 ((0:Nat):Int)] (n:=2) rfl
 obtain⟨H2,m2,r2,k2',o2⟩:=row_newL H1 [.slice none 0 (.known 0),.int .i64 0] (n:=2) rfl
 have E2:Ext H.next H H2:=⟨om,fun c hc=>by rw[o2 c om,o1 c om]⟩
 obtain⟨K,hK⟩:∃K,K=L.length / 8:=⟨_,rfl⟩
 rw[← hK]
 have hlen:aLenK false sv=some (.int .i64 (L.length:Int)):=by have:=hC.len; rwa [bls_len]at this
 have m1':oNew H [sv,.int .i64 0]=(cellR H.next 2 0,H1):=m1
 simp only[c116,sA,sB,seval,cells_agg,m1,m1',m2,Int.natCast_zero]
 refine aw_loop (fun q (T:Env) H'=>∃j:Nat,j≤K∧q=K-j∧T 1=cellR H.next 2 0∧T 2=cellR H1.next 2 0∧Row H' H.next [sv,.int .i64 (j:Int)]∧Row H' H1.next [.slice none 0 (.known 0),.int .i64 0]∧AppN 1 H2.next H' (T 4) (u8s ((List.range j).map (byteAt L))) j∧H2.next≤H'.next∧Ext H.next H H') K
  ⟨0,Nat.zero_le _,rfl,by simp only[sA,sB,seval]; try rfl,by simp only[sA,sB,seval]; try rfl,r1.same (o2 _ om),r2,by simp only[sA,sB,seval]; exact AppN.nil _ _ _,Nat.le_refl _,E2⟩ ?_
 rintro q T H' ⟨j,hj,rfl,g1,g2,hR,hR2,hA,hn,E⟩
 have l0:oLoad false 1 H' (cellR H.next 2 0)=some sv:=row_load hR rfl rfl
 have l1:oLoad false 1 H' (cellR H.next 2 1)=some (.int .i64 (j:Int)):=row_load hR rfl rfl
 have hC':Cel H.next H' sv (bls L):=hC.ext E
 have wm:IntKind.i64.wrap (8*((j+1:Nat):Int))=((8*(j+1):Nat):Int):=by rw[wrap64 om om]; omega
 have wm2:IntKind.i64.wrap (8*(j:Int))=((8*j:Nat):Int):=by rw[wrap64 om om]; omega
 by_cases hlt:j<K
 ·have hle:((8*(j+1):Nat):Int)≤(L.length:Int):=om
  simp only[sA,sB,seval,g1,g2,fldA,fld0,l0,l1,wrap1 j om,wm,wm2,hlen,hle]
  refine (rnumber_spec hC' (8*j) 8 om om hL).mono ?_
  rintro w _ ⟨rfl,rfl⟩
  have hb:=byteAt_lt L j
  have e8:natOf ((L.drop (8*j)).take 8)=byteAt L j:=rfl
  have wb:IntKind.u8.wrap ((byteAt L j:Nat):Int)=((byteAt L j:Nat):Int):=wrap_u .u8 (.inl rfl) hb
  obtain⟨s1,H3,m3,A3,E3,_⟩:=hA.push hn (xs:=[.int .u8 ((byteAt L j:Nat):Int)]) rfl rfl om (bytes:=1) om om
  have n3:=E3.next
  have m3':aAppend 1 1 (H'.push (.cells [.int .u8 ((byteAt L j:Nat):Int)] 0 false)) (T 4) (oneS H')=some (s1,H3):=m3
  have bld:=build1 (.int .u8 0) H' (x:=.int .u8 ((byteAt L j:Nat):Int)) rfl
  have R3:=hR.same (E3.old _ om)
  have l3:oLoad false 1 H3 (cellR H.next 2 1)=some (.int .i64 (j:Int)):=row_load R3 rfl rfl
  obtain⟨H4,m4,r4,k4,o4⟩:=row_st R3 (n:=2) rfl (i:=1) om (x:=.int .i64 ((j+1:Nat):Int)) rfl rfl
  rw[e8]
  simp only[sA,sB,seval,g1,g2,fldA,fld0,wb,bld,m3',l3,wrap1 j om,m4]
  refine⟨_,om,j+1,om,rfl,tt,tt,r4,hR2.same (by rw[o4 _ om,E3.old _ om]),?_,om,⟨om,fun c hc=>by rw[o4 c om,E3.old c om]; exact E.old c hc⟩⟩
  have e:u8s ((List.range (j+1)).map (byteAt L))=u8s ((List.range j).map (byteAt L))++[.int .u8 ((byteAt L j:Nat):Int)]:=by
   rw[List.range_succ,List.map_append,u8s_append]; rfl
  rw[e]
  exact AppN.samN A3 om fun c h1 h2=>o4 c om
 ·have hjk:j=K:=om
  subst hjk
  have hle:¬((8*(j+1):Nat):Int)≤(L.length:Int):=om
  have ld:=row_loadN hR (n:=2) rfl
  obtain⟨H4,m4,r4,k4,o4⟩:=row_storeN hR2 (n:=2) rfl (xs:=[sv,.int .i64 (j:Int)]) rfl (by simp only[List.all_cons,List.all_nil,cel_one hC]; rfl)
  simp only[sA,sB,seval,g1,g2,fldA,fld0,l0,l1,wrap1 j om,wm,hlen,hle,ld,m4]
  refine fin_ct2 _ _ _ (by simp only[sA,sB,seval,g2]; exact row_loadN r4 (n:=2) rfl) ⟨_,_,by simp only[sA,sB,seval]; try rfl,⟨sv,rfl,?_⟩,?_,fun P hP=>vb_agg (hP _ _ rfl),⟨om,fun c hc=>by rw[o4 c om]; exact E.old c hc⟩⟩
  ·exact cel_same hC' om ((cel_blk hC).mono fun b hb=>o4 b om)
  ·exact AppN.samN' hA om om fun c h1 h2=>o4 c om
theorem radler_spec{n:Nat}{H:AHeap}{v:AVal}{s:Bs}(h:Cel n H v (byts s))(sum:Nat)(hs:sum<2 ^ 32)(hl:s.length≤1000000000) :
  ACalls Tryz.prog natT 102 [.int .u32 (sum:Int),v] H fun w H'=>w=.int .u32 ((adler sum s:Nat):Int)∧H=H':=by
 refine acalls_ofN rfl za102 rfl ?_
 have ha:aBin .rem (.int .u32 (sum:Int)) (.int .u32 65536)=some (.int .u32 ((sum % 65536:Nat):Int)):=remU32 65536 om
 have hr:aBin .rem (.int .u32 ((sum % 65536:Nat):Int)) (.int .u32 65521)=some (.int .u32 ((sum % 65536 % 65521:Nat):Int)):=remU32 65521 om
 have hsh:aBin .quo (.int .u32 (sum:Int)) (.int .u32 65536)=some (.int .u32 ((sum / 65536:Nat):Int)):=quoU32 65536 om om
 have hr2:aBin .rem (.int .u32 ((sum / 65536:Nat):Int)) (.int .u32 65521)=some (.int .u32 ((sum / 65536 % 65521:Nat):Int)):=remU32 65521 om
 have hlen:aLenK false v=some (.int .i64 (s.length:Int)):=by have:=h.len; rwa [byts_len]at this
 simp only[c102,sA,sB,seval,ha,hr,hsh,hr2]
 refine aw_loop (fun q (T:Env) H'=>∃j:Nat,j≤s.length∧q=s.length-j∧T 1=v∧T 5=.int .u32 (((adlerF (adlerS sum) (s.take j)).1:Nat):Int)∧T 6=.int .u32 (((adlerF (adlerS sum) (s.take j)).2:Nat):Int)∧T 7=.int .i64 (j:Int)∧H=H') s.length
  ⟨0,Nat.zero_le _,rfl,by simp only[sA,sB,seval]; try rfl,by simp only[sA,sB,seval]; rfl,by simp only[sA,sB,seval]; rfl,by simp only[sA,sB,seval]; try rfl,rfl⟩ ?_
 rintro q T _ ⟨j,hj,rfl,g1,g5,g6,g7,rfl⟩
 have hx:=adlerS_lt sum (s.take j)
 by_cases hlt:j<s.length
 ·have hlt':(j:Int)<(s.length:Int):=om
  obtain⟨b,hb⟩:∃b,s[j]?=some b:=⟨_,List.getElem?_eq_getElem hlt⟩
  have hidx:=h.idx .i64 (i:=j) (by rw[byts_len]; exact hlt)
  have hld:=h.load (byts_get hb)
  have hbl:=b.toNat_lt
  have hsn:=adlerF_snoc (adlerS sum) (s.take j) b
  rw[← take_snoc hb]at hsn
  generalize (adlerF (adlerS sum) (s.take j)).1=x at *
  generalize (adlerF (adlerS sum) (s.take j)).2=y at *
  have w1:IntKind.u32.wrap ((x:Int)+(b.toNat:Int))=((x+b.toNat:Nat):Int):=by rw[wrapU32 om om]; omega
  have q1:aBin .rem (.int .u32 ((x+b.toNat:Nat):Int)) (.int .u32 65521)=some (.int .u32 (((x+b.toNat) % 65521:Nat):Int)):=remU32 65521 om
  have hm:(x+b.toNat) % 65521<65521:=Nat.mod_lt _ om
  have w2:IntKind.u32.wrap ((y:Int)+(((x+b.toNat) % 65521:Nat):Int))=((y+(x+b.toNat) % 65521:Nat):Int):=by rw[wrapU32 om om]; omega
  have q2:aBin .rem (.int .u32 ((y+(x+b.toNat) % 65521:Nat):Int)) (.int .u32 65521)=some (.int .u32 (((y+(x+b.toNat) % 65521) % 65521:Nat):Int)):=remU32 65521 om
  simp only[sA,sB,seval,g1,g5,g6,g7,hlen,hlt',hidx,hld,b_u32,w1,q1,w2,q2,wrap1 j om]
  exact⟨_,om,j+1,om,rfl,tt,by rw[hsn],by rw[hsn],tt,tt⟩
 ·have hlt':¬(j:Int)<(s.length:Int):=om
  obtain rfl:j=s.length:=om
  rw[List.take_length]at g5 g6 hx
  have hae:=adler_eq sum s
  generalize (adlerF (adlerS sum) s).1=x at *
  generalize (adlerF (adlerS sum) s).2=y at *
  have s1:IntKind.u32.wrap ((y:Int)*65536)=((y*65536:Nat):Int):=by rw[wrapU32 om om]; omega
  have s2:IntKind.u32.wrap (((y*65536:Nat):Int)+(x:Int))=((y*65536+x:Nat):Int):=by rw[wrapU32 om om]; omega
  simp only[sA,sB,seval,g1,g5,g6,g7,hlen,hlt',s1,s2,← hae]
  exact⟨tt,tt⟩
theorem rfour_spec(H:AHeap)(n:Nat)(hn:n<2 ^ 32) :
  ACalls Tryz.prog natT 101 [.int .u32 (n:Int)] H fun w H'=>w=slR H.next 4 (.known 4)∧H'=H.push (.cells (u8s (fourL n)) 0 false):=by
 refine acalls_ofN rfl za101 rfl ?_
 have q1:aBin .quo (.int .u32 (n:Int)) (.int .u32 16777216)=some (.int .u32 ((n / 16777216:Nat):Int)):=quoU32 16777216 om om
 have q2:aBin .quo (.int .u32 (n:Int)) (.int .u32 65536)=some (.int .u32 ((n / 65536:Nat):Int)):=quoU32 65536 om om
 have q3:aBin .quo (.int .u32 (n:Int)) (.int .u32 256)=some (.int .u32 ((n / 256:Nat):Int)):=quoU32 256 om om
 have w:∀a:Nat,IntKind.u8.wrap (a:Int)=((a % 256:Nat):Int):=fun a=>wrap_um .u8 (.inl rfl) a
 simp only[c101,sA,sB,seval,q1,q2,q3,w,build4]
 exact⟨tt,tt⟩
end Go.Proofs.Tb
namespace Go.Proofs.Tb
open Go.Abs Go.Abs.S
theorem rfixed_spec{H:AHeap}{v:AVal}{L:List Bool}{t:Nat}(h:RW H.next H v L t)(s:Nat)(hs:s≤287)(hL:L.length+100≤10000000) :
  ACalls Tryz.prog natT 136 [v,.int .i64 (s:Int)] H fun w H'=>RB H v (L++fixB s) t w H':=by
 refine acalls_ofN rfl za136 rfl ?_
 obtain⟨H1,H2,m1,m2,n1,n2,W,U,E⟩:=ws_start h
 have ld:=W.load
 have key:∀(c w:Nat),codeF s=(c,w)→c≤1000→w≤32→∀Q:AVal→AHeap→Prop,(∀(w:AVal) (H3 H4:AHeap),oStore 2 H3 (cellR H1.next 2 0) w=some H4→oLoad true 2 H4 (cellR H1.next 2 0)=some w→RB H v (L++fixB s) t w H4→Q w H3)→ACalls Tryz.prog natT 135 [v,.int .i64 (c:Int),.int .i64 (w:Int),.bool true] H2 Q:=by
  intro c w hc h1 h2 Q hQ
  refine (rbits_spec (h.fwd E) c w true h2 om hL).mono ?_
  intro w' H3 hw
  have e:bitsT c w true=fixB s:=by unfold fixB; rw[hc]; rfl
  rw[e]at hw
  have n3:=hw.2.2.next
  obtain⟨H4,m4,q1,q2,q3,q4⟩:=rw_store hw.1 (U.same (hw.2.2.old _ om)) ((hw.2.1 _ h.vb).mono fun b hb=>om)
  rw[← n1]at m4 q1
  exact hQ w' H3 H4 m4 q1.load ⟨q2,fun P hP=>(hw.2.1 P hP).mono fun b hb=>hb.imp (fun q=>q) fun q=>om,⟨om,fun c hc=>by rw[q4 c om,hw.2.2.old c om]; exact E.old c hc⟩⟩
 by_cases h1:s≤143
 ·have h1':(s:Int)≤143:=om
  have w1:IntKind.i64.wrap (48+(s:Int))=((48+s:Nat):Int):=by rw[wrap64 om om]; omega
  have e:codeF s=(48+s,8):=by unfold codeF; rw[if_pos h1]
  simp only[c136,sA,sB,seval,m1,m2,h1',w1,ld]
  refine key _ 8 e om om _ ?_
  intro w H3 H4 m4 l4 hR
  simp only[sA,sB,seval,m4]
  exact fin_1 _ _ _ (by simp only[sA,sB,seval]; exact l4) hR
 ·have h1':¬(s:Int)≤143:=om
  by_cases h2:s≤255
  ·have h2':(s:Int)≤255:=om
   have w1:IntKind.i64.wrap (400+(s:Int))=((400+s:Nat):Int):=by rw[wrap64 om om]; omega
   have w2:IntKind.i64.wrap (((400+s:Nat):Int)-144)=((400+s-144:Nat):Int):=by rw[wrap64 om om]; omega
   have e:codeF s=(400+s-144,9):=by unfold codeF; rw[if_neg h1,if_pos h2]
   simp only[c136,sA,sB,seval,m1,m2,h1',h2',w1,w2,ld]
   refine key _ 9 e om om _ ?_
   intro w H3 H4 m4 l4 hR
   simp only[sA,sB,seval,m4]
   exact fin_1 _ _ _ (by simp only[sA,sB,seval]; exact l4) hR
  ·have h2':¬(s:Int)≤255:=om
   by_cases h3:s≤279
   ·have h3':(s:Int)≤279:=om
    have w1:IntKind.i64.wrap ((s:Int)-256)=((s-256:Nat):Int):=by rw[wrap64 om om]; omega
    have e:codeF s=(s-256,7):=by unfold codeF; rw[if_neg h1,if_neg h2,if_pos h3]
    simp only[c136,sA,sB,seval,m1,m2,h1',h2',h3',w1,ld]
    refine key _ 7 e om om _ ?_
    intro w H3 H4 m4 l4 hR
    simp only[sA,sB,seval,m4]
    exact fin_1 _ _ _ (by simp only[sA,sB,seval]; exact l4) hR
   ·have h3':¬(s:Int)≤279:=om
    have w1:IntKind.i64.wrap (192+(s:Int))=((192+s:Nat):Int):=by rw[wrap64 om om]; omega
    have w2:IntKind.i64.wrap (((192+s:Nat):Int)-280)=((192+s-280:Nat):Int):=by rw[wrap64 om om]; omega
    have e:codeF s=(192+s-280,8):=by unfold codeF; rw[if_neg h1,if_neg h2,if_neg h3]
    simp only[c136,sA,sB,seval,m1,m2,h1',h2',h3',w1,w2,ld]
    refine key _ 8 e om om _ ?_
    intro w H3 H4 m4 l4 hR
    simp only[sA,sB,seval,m4]
    exact fin_1 _ _ _ (by simp only[sA,sB,seval]; exact l4) hR
set_option maxRecDepth 100000 in
theorem rlengths_spec(H:AHeap):ACalls Tryz.prog natT 137 [] H fun w H'=>∃u v,w=.tuple [u,v]∧Cel H'.next H' u (ints lenL)∧Cel H'.next H' v (ints lenE)∧Blk u (H.next≤·)∧Blk v (H.next≤·)∧Ext H.next H H':=by
 refine acalls_ofN rfl za137 rfl ?_
 obtain⟨t1,t2,t3⟩:=two_tables (H:=H) (a:=lenL) (b:=lenE) (n:=29) rfl rfl
 have b1:∀(l:List (Nat×Nat×AVal)),aFill (rep [.int .i64 0] 29) l=some (ints lenL)→aBuildSl 29 [.int .i64 0] H l=some (.slice (some ⟨H.next,29,0⟩) 29 (.known 29),H.push (.cells (ints lenL) 0 false)):=fun l hl=>by simp only[aBuildSl,hl]; rfl
 have b2:∀(l:List (Nat×Nat×AVal)),aFill (rep [.int .i64 0] 29) l=some (ints lenE)→aBuildSl 29 [.int .i64 0] (H.push (.cells (ints lenL) 0 false)) l=some (.slice (some ⟨H.next+1,29,0⟩) 29 (.known 29),(H.push (.cells (ints lenL) 0 false)).push (.cells (ints lenE) 0 false)):=fun l hl=>by simp only[aBuildSl,hl]; rfl
 simp only[c137,sA,sB,seval]
 rw[b1 _ rfl]
 simp only[sA,sB,seval]
 rw[b2 _ rfl]
 simp only[sA,sB,seval]
 exact⟨_,_,by first | trivial | rfl,t1,t2,blk_some rL,blk_some (Nat.le_succ _),t3⟩
set_option maxRecDepth 100000 in
theorem rdist_spec(H:AHeap):ACalls Tryz.prog natT 139 [] H fun w H'=>∃u v,w=.tuple [u,v]∧Cel H'.next H' u (ints disL)∧Cel H'.next H' v (ints disE)∧Blk u (H.next≤·)∧Blk v (H.next≤·)∧Ext H.next H H':=by
 refine acalls_ofN rfl za139 rfl ?_
 obtain⟨t1,t2,t3⟩:=two_tables (H:=H) (a:=disL) (b:=disE) (n:=30) rfl rfl
 have b1:∀(l:List (Nat×Nat×AVal)),aFill (rep [.int .i64 0] 30) l=some (ints disL)→aBuildSl 30 [.int .i64 0] H l=some (.slice (some ⟨H.next,30,0⟩) 30 (.known 30),H.push (.cells (ints disL) 0 false)):=fun l hl=>by simp only[aBuildSl,hl]; rfl
 have b2:∀(l:List (Nat×Nat×AVal)),aFill (rep [.int .i64 0] 30) l=some (ints disE)→aBuildSl 30 [.int .i64 0] (H.push (.cells (ints disL) 0 false)) l=some (.slice (some ⟨H.next+1,30,0⟩) 30 (.known 30),(H.push (.cells (ints disL) 0 false)).push (.cells (ints disE) 0 false)):=fun l hl=>by simp only[aBuildSl,hl]; rfl
 simp only[c139,sA,sB,seval]
 rw[b1 _ rfl]
 simp only[sA,sB,seval]
 rw[b2 _ rfl]
 simp only[sA,sB,seval]
 exact⟨_,_,by first | trivial | rfl,t1,t2,blk_some rL,blk_some (Nat.le_succ _),t3⟩
theorem rfind_spec{n:Nat}{H:AHeap}{v:AVal}{l:List Nat}(h:Cel n H v (ints l))(hl:0<l.length)(hl2:l.length≤1000)(x:Nat) :
  ACalls Tryz.prog natT 138 [v,.int .i64 (x:Int)] H fun w H'=>w=.int .i64 ((find l x:Nat):Int)∧H=H':=by
 refine acalls_ofN rfl za138 rfl ?_
 have hlen:aLenK false v=some (.int .i64 (l.length:Int)):=by have:=h.len; rwa [ints_len]at this
 simp only[c138,sA,sB,seval]
 refine aw_loop (fun q (T:Env) H'=>∃k:Nat,k<l.length∧l.length≤k+q∧findF l x q k=find l x∧T 0=v∧T 1=.int .i64 (x:Int)∧T 5=.int .i64 (k:Int)∧H=H') l.length
  ⟨0,hl,om,rfl,by simp only[sA,sB,seval]; try rfl,by simp only[sA,sB,seval]; try rfl,by simp only[sA,sB,seval]; try rfl,rfl⟩ ?_
 rintro q T _ ⟨k,hk,hq,hf,g0,g1,g5,rfl⟩
 cases q with
 | zero=>omega
 | succ q=>
 simp only[findF]at hf
 by_cases hlt:k+1<l.length
 ·have hlt':((k+1:Nat):Int)<(l.length:Int):=om
  obtain⟨y,hy⟩:∃y,l[k+1]?=some y:=⟨_,List.getElem?_eq_getElem hlt⟩
  have hidx:=h.idx .i64 (i:=k+1) (by rw[ints_len]; exact hlt)
  have hld:=h.load (ints_get hy)
  have hyd:l.getD (k+1) 0=y:=by rw[List.getD_eq_getElem?_getD,hy]; rfl
  by_cases hle:y≤x
  ·have hle':(y:Int)≤(x:Int):=om
   rw[if_pos ⟨hlt,by rw[hyd]; exact hle⟩]at hf
   simp only[sA,sB,seval,g0,g1,g5,wrap1 k om,hlen,hlt',hidx,hld,hle']
   exact⟨q,om,k+1,hlt,om,hf,tt,tt,tt,tt⟩
  ·have hle':¬(y:Int)≤(x:Int):=om
   rw[if_neg (by rw[hyd]; omega)]at hf
   simp only[sA,sB,seval,g0,g1,g5,wrap1 k om,hlen,hlt',hidx,hld,hle']
   exact⟨by rw[hf],tt⟩
 ·have hlt':¬((k+1:Nat):Int)<(l.length:Int):=om
  rw[if_neg (fun h=>hlt h.1)]at hf
  simp only[sA,sB,seval,g0,g1,g5,wrap1 k om,hlen,hlt']
  exact⟨by rw[hf],tt⟩
theorem rstored_spec{n:Nat}{H:AHeap}{v bv:AVal}{L:List Bool}{t:Nat}{s:Bs}(h:RW H.next H v L t)(hb:Cel n H bv (byts s))(hn:n≤H.next)(last:Nat)(hla:last≤1)(hs:s.length≤60000)(hL:L.length≤1000000) :
  ACalls Tryz.prog natT 128 [v,bv,.int .i64 (last:Int)] H fun w H'=>RB H v (L++storedB L.length s last) t w H':=by
 refine acalls_ofN rfl za128 rfl ?_
 obtain⟨H1,H2,m1,m2,n1,n2,W,U,E⟩:=ws_start h
 have hlen:aLenK false bv=some (.int .i64 (s.length:Int)):=by have:=hb.len; rwa [byts_len]at this
 simp only[c128,sA,sB,seval,m1,m2,W.load]
 refine (rbits_spec W.2.1 last 1 false om om om).mono ?_
 intro w1 H3 R1
 obtain⟨H4,m4,W4,K4⟩:=W.step R1
 simp only[sA,sB,seval,m4,W4.load]
 refine (rbits_spec W4.2.1 0 2 false om om (by simp only[lA,bitsT_len]; omega)).mono ?_
 intro w2 H5 R2
 obtain⟨H6,m6,W6,K6⟩:=W4.step R2
 simp only[sA,sB,seval,m6,W6.load]
 have l6:(L++bitsT last 1 false++bitsT 0 2 false).length=L.length+3:=by simp only[lA,bitsT_len]
 refine (ralignw_spec W6.2.1 om).mono ?_
 intro w3 H7 R3
 obtain⟨H8,m8,W8,K8⟩:=W6.step R3
 rw[l6]at W8
 have hf:fillN (L.length+3)<8:=by unfold fillN; omega
 simp only[sA,sB,seval,m8,W8.load,hlen]
 refine (rbits_spec W8.2.1 s.length 16 false om om (by simp only[lA,bitsT_len,List.length_replicate]; omega)).mono ?_
 intro w4 H9 R4
 obtain⟨H10,m10,W10,K10⟩:=W8.step R4
 have ws:IntKind.i64.wrap (65535-(s.length:Int))=((65535-s.length:Nat):Int):=by rw[wrap64 om om]; omega
 simp only[sA,sB,seval,m10,W10.load,hlen,ws]
 refine (rbits_spec W10.2.1 (65535-s.length) 16 false om om (by simp only[lA,bitsT_len,List.length_replicate]; omega)).mono ?_
 intro w5 H11 R5
 obtain⟨H12,m12,W12,K12⟩:=W10.step R5
 simp only[sA,sB,seval,m12]
 obtain⟨X,hX⟩:∃X,X=L++bitsT last 1 false++bitsT 0 2 false++List.replicate (fillN (L.length+3)) false++bitsT s.length 16 false++bitsT (65535-s.length) 16 false:=⟨_,rfl⟩
 rw[← hX]at W12
 have hXl:X.length≤L.length+100:=by rw[hX]; simp only[lA,bitsT_len,List.length_replicate]; omega
 have K:Kp (H.next+2) H.next H2 H12:=K4.trans (K6.trans (K8.trans (K10.trans K12)))
 clear R1 R2 R3 R4 R5 K4 K6 K8 K10 K12 W4 W6 W8 W10
 have hfl:∀j,j≤s.length→((s.take j).flatMap fun x=>bitsN x.toNat 8).length=8*j:=by
  intro j hj
  rw[List.length_flatMap]
  have:(s.take j).map (fun x=>(bitsN x.toNat 8).length)=List.replicate j 8:=by
   rw[List.eq_replicate_iff]
   refine⟨by simp; omega,fun b hb=>?_⟩
   rw[List.mem_map]at hb
   obtain⟨x,_,rfl⟩:=hb
   exact bitsN_len _ _
  rw[this]; simp; omega
 refine aw_loop (fun q (T:Env) H'=>∃(j:Nat) (w:AVal),j≤s.length∧q=s.length-j∧T 1=bv∧T 3=cellR H.next 2 0∧T 6=cellR H1.next 2 0∧T 7=.int .i64 (j:Int)∧WS (H.next+2) H' H.next v w (X++(s.take j).flatMap fun x=>bitsN x.toNat 8) t∧Kp (H.next+2) H.next H2 H') s.length
  ⟨0,w5,Nat.zero_le _,rfl,by simp only[sA,sB,seval]; try rfl,by simp only[sA,sB,seval]; try rfl,by simp only[sA,sB,seval]; try rfl,by simp only[sA,sB,seval]; try rfl,by simpa using W12,K⟩ ?_
 rintro q T H' ⟨j,w,hj,rfl,g1,g3,g6,g7,WJ,KJ⟩
 have EJ:Ext H.next H H':=⟨by have:=KJ.1; omega,fun c hc=>by rw[KJ.2 c om om]; exact E.old c hc⟩
 by_cases hlt:j<s.length
 ·have hlt':(j:Int)<(s.length:Int):=om
  obtain⟨x,hx⟩:∃x,s[j]?=some x:=⟨_,List.getElem?_eq_getElem hlt⟩
  have hb':=hb.ext (EJ.less hn)
  have hidx:=hb'.idx .i64 (i:=j) (by rw[byts_len]; exact hlt)
  have hld:=hb'.load (byts_get hx)
  have hxl:=x.toNat_lt
  have wx:IntKind.i64.wrap (x.toNat:Int)=(x.toNat:Int):=wrap64 om om
  have:=hfl j hj
  simp only[sA,sB,seval,g1,g3,g6,g7,hlen,hlt',WJ.load,hidx,hld,wx]
  refine (rbits_spec WJ.2.1 x.toNat 8 false om om (by rw[lA,this]; omega)).mono ?_
  intro w' H3' R'
  obtain⟨H4',m4',W4',K4'⟩:=WJ.step R'
  simp only[sA,sB,seval,g1,g3,g6,g7,m4',wrap1 j om]
  refine⟨_,om,j+1,w',om,rfl,tt,tt,tt,tt,?_,KJ.trans K4'⟩
  rw[take_snoc hx,List.flatMap_append,← List.append_assoc]
  simpa[bitsT_f] using W4'
 ·have hlt':¬(j:Int)<(s.length:Int):=om
  obtain rfl:j=s.length:=om
  obtain⟨H3',m3',l3',R3'⟩:=ws_end WJ (U.same (KJ.2 _ om om)) EJ
  rw[← n1]at m3' l3'
  simp only[sA,sB,seval,g1,g3,g6,g7,hlen,hlt',WJ.load,m3']
  refine fin_1 _ _ _ (by simp only[sA,sB,seval,g6]; exact l3') ?_
  have e:L++storedB L.length s last=X++(s.take s.length).flatMap fun x=>bitsN x.toNat 8:=by
   rw[List.take_length,hX]; simp only[storedB,bitsT_f,List.append_assoc]
  rw[e]; exact R3'
theorem rmatch_tail{T:Env}{H:AHeap}{Q:Post}(p r x1 x2:Nat)(g8:T 8=.int .i64 (x1:Int))(g9:T 9=.int .i64 (x2:Int))(g10:T 10=.int .i64 (p:Int))(g11:T 11=.int .i64 (r:Int))
  (hQ:∀T2:Env,T2 8=.int .i64 (((if x1<r then (r,p) else (x1,x2)).1:Nat):Int)→T2 9=.int .i64 (((if x1<r then (r,p) else (x1,x2)).2:Nat):Int)→T2 0=T 0→T2 1=T 1→T2 2=T 2→T2 10=T 10→Q .normal T2 H) :
  wp (ACalls Tryz.prog natT) (hold (restP tailP c140.body)) Q T H:=by
 by_cases hc:x1<r
 ·have hc':(x1:Int)<(r:Int):=om
  simp only[c140,restP,tailP,hold_eq,sA,sB,seval,g8,g9,g10,g11,hc']
  exact hQ _ (by simp only[sA,sB,seval,if_pos hc]) (by simp only[sA,sB,seval,if_pos hc]) (by simp only[sA,sB,seval]) (by simp only[sA,sB,seval]) (by simp only[sA,sB,seval]) (by simp only[sA,sB,seval,g10])
 ·have hc':¬(x1:Int)<(r:Int):=om
  simp only[c140,restP,tailP,hold_eq,sA,sB,seval,g8,g9,g10,g11,hc']
  exact hQ _ (by simp only[sA,sB,seval,if_neg hc,g8]) (by simp only[sA,sB,seval,if_neg hc,g9]) (by simp only[sA,sB,seval]) (by simp only[sA,sB,seval]) (by simp only[sA,sB,seval]) (by simp only[sA,sB,seval,g10])
theorem rmatch_spec{n:Nat}{H:AHeap}{bv:AVal}{b:Bs}(h:Cel n H bv (byts b))(i to:Nat)(hi:i<to)(hto:to≤b.length)(hb:b.length≤30000) :
  ACalls Tryz.prog natT 140 [bv,.int .i64 (i:Int),.int .i64 (to:Int)] H fun w H'=>w=.tuple [.int .i64 (((matchF b i to).1:Nat):Int),.int .i64 (((matchF b i to).2:Nat):Int)]∧H=H':=by
 refine acalls_ofN rfl za140 rfl ?_
 refine wp_cutP tailP ?_
 have w1:IntKind.i64.wrap ((i:Int)-1)=(i:Int)-1:=wrap64 om om
 have w2:IntKind.i64.wrap ((i:Int)-32768)=(i:Int)-32768:=wrap64 om om
 obtain⟨m,hm⟩:∃m,m=mlen i to:=⟨_,rfl⟩
 have hm':m=min 258 (to-i):=hm
 simp only[c140,tailP,sC,sA,sB,seval,w1]
 refine aw_loop (fun q (T:Env) H'=>∃x:Nat×Nat,q≤i∧T 0=bv∧T 1=.int .i64 (i:Int)∧T 2=.int .i64 (to:Int)∧T 8=.int .i64 (x.1:Int)∧T 9=.int .i64 (x.2:Int)∧T 10=.int .i64 ((q:Int)-1)∧best b i m q x=matchF b i to∧H=H') i
  ⟨(0,0),Nat.le_refl _,by simp only[sA,sB,seval]; try rfl,by simp only[sA,sB,seval]; try rfl,by simp only[sA,sB,seval]; try rfl,by simp only[sA,sB,seval]; try rfl,by simp only[sA,sB,seval]; try rfl,by simp only[sA,sB,seval]; try rfl,by rw[hm]; rfl,rfl⟩ ?_
 rintro q T _ ⟨x,hq,g0,g1,g2,g8,g9,g10,hbest,rfl⟩
 cases q with
 | zero=>
  have hge:¬(0:Int)≤((0:Nat):Int)-1:=om
  simp only[sA,sB,seval,g0,g1,g2,g8,g9,g10,hge]
  refine⟨?_,tt⟩
  have e:x=matchF b i to:=hbest
  rw[e]
 | succ p=>
  have ep:((p+1:Nat):Int)-1=(p:Int):=om
  rw[ep]at g10
  have hge:(0:Int)≤(p:Int):=om
  have hge2:(i:Int)-32768≤(p:Int):=om
  have hpi:p<i:=om
  have wp1:IntKind.i64.wrap ((p:Int)-1)=(p:Int)-1:=wrap64 om om
  simp only[best]at hbest
  simp only[sA,sB,seval,g0,g1,g2,g8,g9,g10,hge,w2,hge2]
  refine aw_loop (fun q (T2:Env) H'=>∃j:Nat,j≤m∧q=m-j∧T2 0=bv∧T2 1=.int .i64 (i:Int)∧T2 2=.int .i64 (to:Int)∧T2 8=.int .i64 (x.1:Int)∧T2 9=.int .i64 (x.2:Int)∧T2 10=.int .i64 (p:Int)∧T2 11=.int .i64 (j:Int)∧run b p i m=j+run b (p+j) (i+j) (m-j)∧H=H') m
   ⟨0,Nat.zero_le _,rfl,by simp only[sA,sB,seval,g0],by simp only[sA,sB,seval,g1],by simp only[sA,sB,seval,g2],by simp only[sA,sB,seval,g8],by simp only[sA,sB,seval,g9],by simp only[sA,sB,seval,g10],by simp only[sA,sB,seval]; try rfl,by simp,rfl⟩ ?_
  rintro q T2 _ ⟨j,hj,rfl,k0,k1,k2,k8,k9,k10,k11,hrun,rfl⟩
  have done:run b p i m=j→∀T3:Env,T3 8=.int .i64 (x.1:Int)→T3 9=.int .i64 (x.2:Int)→T3 10=.int .i64 (p:Int)→T3 11=.int .i64 (j:Int)→T3 0=bv→T3 1=.int .i64 (i:Int)→T3 2=.int .i64 (to:Int)→∀Q:Post,(∀T4:Env,(∃x:Nat×Nat,p≤i∧T4 0=bv∧T4 1=.int .i64 (i:Int)∧T4 2=.int .i64 (to:Int)∧T4 8=.int .i64 (x.1:Int)∧T4 9=.int .i64 (x.2:Int)∧T4 10=.int .i64 (p:Int)∧best b i m p x=matchF b i to)→Q .normal T4 H)→wp (ACalls Tryz.prog natT) (hold (restP tailP c140.body)) Q T3 H:=by
   intro hr T3 q8 q9 q10 q11 q0 q1 q2 Q hQ
   refine rmatch_tail p j x.1 x.2 q8 q9 q10 q11 ?_
   intro T4 r8 r9 r0 r1 r2 r10
   refine hQ T4 ⟨_,om,by rw[r0,q0],by rw[r1,q1],by rw[r2,q2],r8,r9,by rw[r10,q10],?_⟩
   rw[← hbest,hr]
  by_cases hlt:j<m
  ·have h1:(j:Int)<258:=om
   have h2:((i+j:Nat):Int)<(to:Int):=om
   obtain⟨c,hc⟩:∃c,b[p+j]?=some c:=⟨_,List.getElem?_eq_getElem om⟩
   obtain⟨d,hd⟩:∃d,b[i+j]?=some d:=⟨_,List.getElem?_eq_getElem om⟩
   have i1:=h.idx .i64 (i:=p+j) (by rw[byts_len]; omega)
   have i2:=h.idx .i64 (i:=i+j) (by rw[byts_len]; omega)
   have e1:=h.load (byts_get hc)
   have e2:=h.load (byts_get hd)
   rw[run_step b p i m j hlt,hc,hd]at hrun
   by_cases hcd:c=d
   ·subst hcd
    rw[if_pos rfl]at hrun
    simp only[sA,sB,seval,k0,k1,k2,k8,k9,k10,k11,h1,wrapN i j om,wrapN p j om,h2,i1,i2,e1,e2,wrap1 j om]
    exact⟨_,om,j+1,om,rfl,tt,tt,tt,tt,tt,tt,tt,by rw[hrun]; omega,tt⟩
   ·have hne:¬(c.toNat:Int)=(d.toNat:Int):=fun e=>hcd (UInt8.toNat_inj.1 om)
    rw[if_neg (by simpa using hcd)]at hrun
    simp only[sA,sB,seval,k0,k1,k2,k8,k9,k10,k11,h1,wrapN i j om,wrapN p j om,h2,i1,i2,e1,e2,hne]
    refine done om _ (by simp only[sA,sB,seval,k8]) (by simp only[sA,sB,seval,k9]) (by simp only[sA,sB,seval,k10]) (by simp only[sA,sB,seval,k11]) (by simp only[sA,sB,seval,k0]) (by simp only[sA,sB,seval,k1]) (by simp only[sA,sB,seval,k2]) _ ?_
    rintro T4 ⟨x',f1,f2,f3,f4,f5,f6,f7,f8⟩
    simp only[sA,sB,seval,f2,f3,f4,f5,f6,f7,wp1]
    exact⟨p,om,x',om,tt,tt,tt,tt,tt,tt,f8,tt⟩
  ·have hjm:j=m:=om
   have hrun':run b p i m=j:=by rw[hrun,hjm,Nat.sub_self,run]; rfl
   by_cases h258:j<258
   ·have h1:(j:Int)<258:=om
    have h2:¬((i+j:Nat):Int)<(to:Int):=om
    simp only[sA,sB,seval,k0,k1,k2,k8,k9,k10,k11,h1,wrapN i j om,h2]
    refine done hrun' _ (by simp only[sA,sB,seval,k8]) (by simp only[sA,sB,seval,k9]) (by simp only[sA,sB,seval,k10]) (by simp only[sA,sB,seval,k11]) (by simp only[sA,sB,seval,k0]) (by simp only[sA,sB,seval,k1]) (by simp only[sA,sB,seval,k2]) _ ?_
    rintro T4 ⟨x',f1,f2,f3,f4,f5,f6,f7,f8⟩
    simp only[sA,sB,seval,f2,f3,f4,f5,f6,f7,wp1]
    exact⟨p,om,x',om,tt,tt,tt,tt,tt,tt,f8,tt⟩
   ·have h1:¬(j:Int)<258:=om
    simp only[sA,sB,seval,k0,k1,k2,k8,k9,k10,k11,h1]
    refine done hrun' _ (by simp only[sA,sB,seval,k8]) (by simp only[sA,sB,seval,k9]) (by simp only[sA,sB,seval,k10]) (by simp only[sA,sB,seval,k11]) (by simp only[sA,sB,seval,k0]) (by simp only[sA,sB,seval,k1]) (by simp only[sA,sB,seval,k2]) _ ?_
    rintro T4 ⟨x',f1,f2,f3,f4,f5,f6,f7,f8⟩
    simp only[sA,sB,seval,f2,f3,f4,f5,f6,f7,wp1]
    exact⟨p,om,x',om,tt,tt,tt,tt,tt,tt,f8,tt⟩
theorem rtokens_spec{n:Nat}{H:AHeap}{bv:AVal}{b:Bs}(h:Cel n H bv (byts b))(hn:n≤H.next)(fr to:Nat)(hf:fr≤to)(hto:to≤b.length)(hb:b.length≤30000) :
  ACalls Tryz.prog natT 130 [bv,.int .i64 (fr:Int),.int .i64 (to:Int)] H fun w H'=>TL H' w (toks b fr to)∧Blk w (H.next≤·)∧Ext H.next H H':=by
 refine acalls_ofN rfl za130 rfl ?_
 simp only[c130,sA,sB,seval]
 refine aw_loop (fun q (T:Env) H'=>∃(i:Nat) (acc:List Tok),i≤to∧to-i≤q∧acc++toksF b to q i=toks b fr to∧acc.length≤30000∧acc.length+q≤to-fr∧T 0=bv∧T 2=.int .i64 (to:Int)∧T 8=.int .i64 (i:Int)∧TL H' (T 7) acc∧Blk (T 7) (H.next≤·)∧Ext H.next H H') (to-fr)
  ⟨fr,[],hf,Nat.le_refl _,rfl,by simp,by simp,by simp only[sA,sB,seval]; try rfl,by simp only[sA,sB,seval]; try rfl,by simp only[sA,sB,seval]; try rfl,by simp only[sA,sB,seval]; exact .inl ⟨rfl,rfl,rfl⟩,by simp only[sA,sB,seval]; exact blk_nil _,Ext.refl _ _⟩ ?_
 rintro q T H' ⟨i,acc,hi,hq,hacc,hal,haq,g0,g2,g8,hT,hB,E⟩
 by_cases hlt:i<to
 ·have hlt':(i:Int)<(to:Int):=om
  cases q with
  | zero=>omega
  | succ q=>
  simp only[toksF,if_pos hlt]at hacc
  simp only[sA,sB,seval,g0,g2,g8,hlt']
  refine (rmatch_spec (h.ext (E.less hn)) i to hlt hto hb).mono ?_
  rintro w _ ⟨rfl,rfl⟩
  have en:=E.next
  by_cases h3:3≤(matchF b i to).1
  ·have h3':(3:Int)≤(((matchF b i to).1:Nat):Int):=om
   obtain⟨m1,m2,m3⟩:=match_ok b i to h3
   rw[if_pos h3]at hacc
   generalize (matchF b i to).1=ln at *
   generalize (matchF b i to).2=at_ at *
   have ws:IntKind.i64.wrap ((i:Int)-(at_:Int))=((i-at_:Nat):Int):=by rw[wrap64 om om]; omega
   obtain⟨w,H2,a1,a2,S2⟩:=hT.add ⟨ln,i-at_,0⟩ om
   have a1':aAppend 3 24 (H'.push (.cells [.int .i64 (ln:Int),.int .i64 ((i-at_:Nat):Int),.int .u8 0] 0 false)) (T 7) (.slice (some ⟨H'.next,3,0⟩) 1 (.known 1))=some (w,H2):=a1
   simp only[sA,sB,seval,ext_0,ext_1,g0,g2,g8,h3',ws,buildT1,buildT,a1',wrapN i ln om]
   exact⟨q,om,i+ln,acc++[⟨ln,i-at_,0⟩],om,om,by rw[← hacc]; simp,by simp; omega,by simp; omega,tt,tt,tt,a2,(S2.2.1 _ hB).mono fun b hb=>om,E.trans ⟨S2.1,fun c hc=>S2.2.2 c om (hB.mono fun b hb=>om)⟩⟩
  ·have h3':¬(3:Int)≤(((matchF b i to).1:Nat):Int):=om
   rw[if_neg h3]at hacc
   obtain⟨c,hc⟩:∃c,b[i]?=some c:=⟨_,List.getElem?_eq_getElem om⟩
   have hcd:b.getD i 0=c:=by rw[List.getD_eq_getElem?_getD,hc]; rfl
   rw[hcd]at hacc
   have h':=h.ext (E.less hn)
   have hidx:=h'.idx .i64 (i:=i) (by rw[byts_len]; omega)
   have hld:=h'.load (byts_get hc)
   obtain⟨w,H2,a1,a2,S2⟩:=hT.add ⟨0,0,c⟩ om
   have a1':aAppend 3 24 (H'.push (.cells [.int .i64 0,.int .i64 0,.int .u8 (c.toNat:Int)] 0 false)) (T 7) (.slice (some ⟨H'.next,3,0⟩) 1 (.known 1))=some (w,H2):=a1
   simp only[sA,sB,seval,ext_0,ext_1,g0,g2,g8,h3',hidx,hld,buildT2,buildT,a1',wrap1 i om]
   exact⟨q,om,i+1,acc++[⟨0,0,c⟩],om,om,by rw[← hacc]; simp,by simp; omega,by simp; omega,tt,tt,tt,a2,(S2.2.1 _ hB).mono fun b hb=>om,E.trans ⟨S2.1,fun c hc=>S2.2.2 c om (hB.mono fun b hb=>om)⟩⟩
 ·have hlt':¬(i:Int)<(to:Int):=om
  have he:toksF b to q i=[]:=by
   cases q with
   | zero=>rfl
   | succ q=>simp only[toksF,if_neg hlt]
  rw[he,List.append_nil]at hacc
  simp only[sA,sB,seval,g0,g2,g8,hlt']
  rw[← hacc]
  exact⟨hT,hB,E⟩
theorem findF_lt2(l:List Nat)(n:Nat):∀(f k:Nat),k<l.length→findF l n f k<l.length
 | 0,k,h=>h
 | f+1,k,h=>by
  unfold findF
  split
  ·rename_i hk; exact findF_lt2 l n f (k+1) hk.1
  ·exact h
theorem find_dis{n:Nat}(h1:1≤n):find disL n≤29∧disL.getD (find disL n) 0≤n:=by
 have h:find disL n<30:=findF_lt2 disL n _ 0 dD
 exact⟨om,findF_le disL n _ 0 h1⟩
theorem rfixedb_spec{H:AHeap}{v tv:AVal}{L:List Bool}{t:Nat}{l:List Tok}(h:RW H.next H v L t)(hT:TL H tv l)(hok:∀t∈l,tokOk t)(last:Nat)(hla:last≤1)(hl:l.length≤60000)(hL:L.length≤1000000) :
  ACalls Tryz.prog natT 129 [v,tv,.int .i64 (last:Int)] H fun w H'=>RB H v (L++fixedB l last) t w H':=by
 refine acalls_ofN rfl za129 rfl ?_
 obtain⟨H1,H2,m1,m2,n1,n2,W,U,E⟩:=ws_start h
 have hlen:aLenK false tv=some (.int .i64 (l.length:Int)):=LinM.len hT
 simp only[c129,sA,sB,seval,m1,m2,W.load]
 refine (rbits_spec W.2.1 last 1 false om om om).mono ?_
 intro w1 H3 R1
 obtain⟨H4,m4,W4,K4⟩:=W.step R1
 simp only[sA,sB,seval,m4,W4.load]
 refine (rbits_spec W4.2.1 1 2 false om om (by simp only[lA,bitsT_len]; omega)).mono ?_
 intro w2 H5 R2
 obtain⟨H6,m6,W6,K6⟩:=W4.step R2
 simp only[sA,sB,seval,m6]
 obtain⟨X,hX⟩:∃X,X=L++bitsT last 1 false++bitsT 1 2 false:=⟨_,rfl⟩
 rw[← hX]at W6
 have hXl:X.length=L.length+3:=by rw[hX]; simp only[lA,bitsT_len]
 have K:Kp (H.next+2) H.next H2 H6:=K4.trans K6
 clear R1 R2 K4 K6 W4
 refine aw_loop (fun q (T:Env) H'=>∃(j:Nat) (w:AVal),j≤l.length∧q=l.length-j∧T 1=tv∧T 3=cellR H.next 2 0∧T 6=cellR H1.next 2 0∧T 7=.int .i64 (j:Int)∧WS (H.next+2) H' H.next v w (X++(l.take j).flatMap tokB) t∧Kp (H.next+2) H.next H2 H') l.length
  ⟨0,w2,Nat.zero_le _,rfl,by simp only[sA,sB,seval]; try rfl,by simp only[sA,sB,seval]; try rfl,by simp only[sA,sB,seval]; try rfl,by simp only[sA,sB,seval]; try rfl,by simpa using W6,K⟩ ?_
 rintro q T H' ⟨j,w,hj,rfl,g1,g3,g6,g7,WJ,KJ⟩
 have EJ:Ext H.next H H':=⟨by have:=KJ.1; omega,fun c hc=>by rw[KJ.2 c om om]; exact E.old c hc⟩
 have hYl:(X++(l.take j).flatMap tokB).length≤L.length+3+64*l.length:=by
  have:=tokBs_len (l.take j)
  rw[List.length_take]at this
  rw[lA]; omega
 by_cases hlt:j<l.length
 ·have hlt':(j:Int)<(l.length:Int):=om
  obtain⟨tk,htk⟩:∃x,l[j]?=some x:=⟨_,List.getElem?_eq_getElem hlt⟩
  have hTJ:∀G:AHeap,Ext H.next H G→TL G tv l:=fun G e=>LinM.same hT e.next ((LinM.blk hT).mono fun b hb=>e.old b hb)
  obtain⟨tb,tl,i1,l0,l0',l1,l2⟩:=(hTJ _ EJ).at htk
  have hsn:(l.take (j+1)).flatMap tokB=(l.take j).flatMap tokB++tokB tk:=by rw[take_snoc htk,List.flatMap_append]; simp
  rcases hok tk (List.mem_of_getElem? htk) with hb0 | ⟨b1,b2,b3,b4⟩
  ·have hb0':(tk.back:Int)=0:=om
   have hbl:=tk.b.toNat_lt
   have wx:IntKind.i64.wrap (tk.b.toNat:Int)=(tk.b.toNat:Int):=wrap64 om om
   simp only[sA,sB,seval,g1,g3,g6,g7,hlen,hlt',i1,fldA,l1,l2,hb0',WJ.load,wx]
   refine (rfixed_spec WJ.2.1 tk.b.toNat om om).mono ?_
   intro w' H3' R'
   obtain⟨H4',m4',W4',K4'⟩:=WJ.step R'
   simp only[sA,sB,seval,g1,g3,g6,g7,m4',wrap1 j om]
   refine⟨_,om,j+1,w',om,rfl,tt,tt,tt,tt,?_,KJ.trans K4'⟩
   have e:tokB tk=fixB tk.b.toNat:=by unfold tokB; rw[if_pos hb0]
   rw[hsn,e,← List.append_assoc]
   exact W4'
  ·have hb0':¬(tk.back:Int)=0:=om
   obtain⟨f1,f2⟩:=find_len b1 b2
   obtain⟨f3,f4⟩:=find_dis b3
   have f5:=lenE_le (find lenL tk.n)
   have f6:=disE_le (find disL tk.back)
   have f7:=fixB_len (257+find lenL tk.n)
   have eT:tokB tk=lenB tk.n++disB tk.back:=by unfold tokB; rw[if_neg om]
   unfold lenB disB at eT
   obtain⟨k,ek⟩:∃k,k=find lenL tk.n:=⟨_,rfl⟩
   obtain⟨k2,ek2⟩:∃k,k=find disL tk.back:=⟨_,rfl⟩
   rw[← ek]at f1 f2 f5 f7 eT
   rw[← ek2]at f3 f4 f6 eT
   obtain⟨ls,els⟩:∃x,x=lenL.getD k 0:=⟨_,rfl⟩
   obtain⟨xs,exs⟩:∃x,x=lenE.getD k 0:=⟨_,rfl⟩
   obtain⟨ls2,els2⟩:∃x,x=disL.getD k2 0:=⟨_,rfl⟩
   obtain⟨xs2,exs2⟩:∃x,x=disE.getD k2 0:=⟨_,rfl⟩
   rw[← els]at f2 eT
   rw[← exs]at f5 eT
   rw[← els2]at f4 eT
   rw[← exs2]at f6 eT
   have nJ:=WJ.2.2.2.2.2
   have kE:∀G,Kp (H.next+2) H.next H2 G→Ext H.next H G:=fun G k=>⟨by have:=k.1; omega,fun c hc=>by rw[k.2 c om om]; exact E.old c hc⟩
   simp only[sA,sB,seval,g1,g3,g6,g7,hlen,hlt',i1,fldA,l1,hb0']
   refine (rlengths_spec H').mono ?_
   rintro _ Ha ⟨u1,u2,rfl,c1,c2,d1,d2,Ea⟩
   have Wa:=WJ.ext Ea
   have Ka:=KJ.trans (kp_ext (q:=H.next) Ea nJ)
   obtain⟨tb2,tl2,i2,a0,a0',a1,a2⟩:=(hTJ _ (kE _ Ka)).at htk
   simp only[sA,sB,seval,ext_0,ext_1,g1,g7,i2,fldA,a0,a0']
   refine (rfind_spec c1 dD dD tk.n).mono ?_
   rintro _ _ ⟨rfl,rfl⟩
   rw[← ek]
   have wk:IntKind.i64.wrap (257+(k:Int))=((257+k:Nat):Int):=by rw[wrap64 om om]; omega
   simp only[sA,sB,seval,g3,Wa.load,wk]
   refine (rfixed_spec Wa.2.1 (257+k) om om).mono ?_
   intro wb Hb Rb
   obtain⟨Hc,mc,Wc,Kc,Kc'⟩:=Wa.step2 Rb
   have c1':=cel_kp c1 Kc' (d1.mono fun b hb=>om)
   have c2':=cel_kp c2 Kc' (d2.mono fun b hb=>om)
   have Kc2:=Ka.trans Kc
   obtain⟨tb3,tl3,i3,e0,e0',e1,e2⟩:=(hTJ _ (kE _ Kc2)).at htk
   obtain⟨x1,x2⟩:=tab_at c1' (k:=k) (by show k<29; omega)
   obtain⟨y1,y2⟩:=tab_at c2' (k:=k) (by show k<29; omega)
   rw[← els]at x2
   rw[← exs]at y2
   have ws:IntKind.i64.wrap ((tk.n:Int)-(ls:Int))=((tk.n-ls:Nat):Int):=by rw[wrap64 om om]; omega
   simp only[sA,sB,seval,g1,g3,g7,mc,Wc.load,i3,fldA,e0,e0',x1,x2,y1,y2,ws]
   refine (rbits_spec Wc.2.1 (tk.n-ls) xs false om om (by rw[lA]; omega)).mono ?_
   intro wd Hd Rd
   obtain⟨He,me,We,Ke,Ke'⟩:=Wc.step2 Rd
   have nE:=We.2.2.2.2.2
   simp only[sA,sB,seval,g3,me]
   refine (rdist_spec He).mono ?_
   rintro _ Hf ⟨u3,u4,rfl,c3,c4,d3,d4,Ef⟩
   have Wf:=We.ext Ef
   have Kf:=(Kc2.trans Ke).trans (kp_ext (q:=H.next) Ef nE)
   obtain⟨tb4,tl4,i4,p0,p0',p1,p2⟩:=(hTJ _ (kE _ Kf)).at htk
   simp only[sA,sB,seval,ext_0,ext_1,g1,g7,i4,fldA,p1]
   refine (rfind_spec c3 dD dD tk.back).mono ?_
   rintro _ _ ⟨rfl,rfl⟩
   rw[← ek2]
   simp only[sA,sB,seval,g3,Wf.load]
   refine (rbits_spec Wf.2.1 k2 5 true om om (by rw[lA,lA,bitsT_len]; omega)).mono ?_
   intro wg Hg Rg
   obtain⟨Hh,mh,Wh,Kh,Kh'⟩:=Wf.step2 Rg
   have c3':=cel_kp c3 Kh' (d3.mono fun b hb=>om)
   have c4':=cel_kp c4 Kh' (d4.mono fun b hb=>om)
   have Kh2:=Kf.trans Kh
   obtain⟨tb5,tl5,i5,r0,r0',r1,r2⟩:=(hTJ _ (kE _ Kh2)).at htk
   obtain⟨x3,x4⟩:=tab_at c3' (k:=k2) (by show k2<30; omega)
   obtain⟨y3,y4⟩:=tab_at c4' (k:=k2) (by show k2<30; omega)
   rw[← els2]at x4
   rw[← exs2]at y4
   have ws2:IntKind.i64.wrap ((tk.back:Int)-(ls2:Int))=((tk.back-ls2:Nat):Int):=by rw[wrap64 om om]; omega
   simp only[sA,sB,seval,g1,g3,g7,mh,Wh.load,i5,fldA,r1,x3,x4,y3,y4,ws2]
   refine (rbits_spec Wh.2.1 (tk.back-ls2) xs2 false om om (by simp only[lA,bitsT_len]; rw[lA]at hYl; omega)).mono ?_
   intro wi Hi Ri
   obtain⟨Hj,mj,Wj,Kj,_⟩:=Wh.step2 Ri
   simp only[sA,sB,seval,g1,g3,g6,g7,mj,wrap1 j om]
   refine⟨_,om,j+1,wi,om,rfl,tt,tt,tt,tt,?_,Kh2.trans Kj⟩
   rw[hsn,eT]
   simp only[List.append_assoc,bitsT_f,bitsT_t]at Wj ⊢
   exact Wj
 ·have hlt':¬(j:Int)<(l.length:Int):=om
  obtain rfl:j=l.length:=om
  rw[List.take_length]at WJ hYl
  simp only[sA,sB,seval,g1,g3,g6,g7,hlen,hlt',WJ.load]
  refine (rfixed_spec WJ.2.1 256 om om).mono ?_
  intro w' H3' R'
  have hv:=R'.2.1 _ (WJ.2.2.1 _ h.vb)
  have nJ:=WJ.2.2.2.2.2
  have n3:=R'.2.2.next
  obtain⟨H4',m4',q1,q2,q3,q4⟩:=rw_store R'.1 ((U.same (KJ.2 _ om om)).same (R'.2.2.old _ om)) (hv.mono fun b hb=>om)
  have l4':=q1.load
  rw[← n1]at m4' l4'
  simp only[sA,sB,seval,g6,m4']
  refine fin_1 _ _ _ (by simp only[sA,sB,seval,g6]; exact l4') ⟨?_,fun P hP=>(R'.2.1 _ (WJ.2.2.1 P hP)).mono fun b hb=>?_,⟨om,fun c hc=>by rw[q4 c om,R'.2.2.old c om]; exact EJ.old c hc⟩⟩
  ·have e:L++fixedB l last=X++l.flatMap tokB++fixB 256:=by rw[hX]; simp only[fixedB,bitsT_f,List.append_assoc]
   rw[e]; exact q2
  ·rcases hb with (hb | hb) | hb
   ·exact .inl hb
   ·exact .inr om
   ·exact .inr om
theorem storedB_len(n:Nat)(s:Bs)(last:Nat):(storedB n s last).length≤50+8*s.length:=by
 have:(s.flatMap fun x=>bitsN x.toNat 8).length=8*s.length:=by
  induction s with
  | nil=>rfl
  | cons x r ih=>simp only[List.flatMap_cons,lA,bitsN_len,List.length_cons,ih]; omega
 unfold storedB
 simp only[lA,bitsN_len,List.length_replicate,this]
 have:fillN (n+3)<8:=by unfold fillN; omega
 omega
theorem aeq_agg2{a b:AVal}(ha:aeq a a=true)(hb:aeq b b=true):aeq (.agg [a,b]) (.agg [a,b])=true:=by simp[aeq,aeqs,ha,hb]
theorem cel_aeq{n:Nat}{H:AHeap}{s:AVal}{l:List AVal}(h:Cel n H s l):aeq s s=true:=by
 rcases h with⟨h,_⟩ | ⟨a,r,rfl,_⟩
 ·rcases isE_cases h with rfl | ⟨a,rfl⟩
  ·exact aeq_nilS
  ·simp[aeq]
 ·cases r <;> simp[aeq]
theorem rw_aeq{n:Nat}{H:AHeap}{sv c:AVal}{L:List Bool}{t:Nat}(h:RW n H (.agg [sv,c]) L t):aeq sv sv=true:=by
 obtain⟨sv',e,hC⟩:=h
 simp only[AVal.agg.injEq,List.cons.injEq,and_true]at e
 rw[e.1]; exact cel_aeq hC
theorem aeq_i(k:IntKind)(n:Int):aeq (.int k n) (.int k n)=true:=by simp[aeq,eqF_eq]
theorem rw_len{n:Nat}{H:AHeap}{sv c:AVal}{L:List Bool}{t:Nat}(h:RW n H (.agg [sv,c]) L t):aLenK false sv=some (.int .i64 (L.length:Int)):=by
 obtain⟨sv',e,hC⟩:=h
 simp only[AVal.agg.injEq,List.cons.injEq,and_true]at e
 obtain⟨rfl,_⟩:=e
 have:=hC.len
 rwa [bls_len]at this
theorem rw_val{n:Nat}{H:AHeap}{w:AVal}{L:List Bool}{t:Nat}(h:RW n H w L t):∃sv,w=.agg [sv,.int .i64 (t:Int)]∧sv.one=true:=by
 obtain⟨sv,e,hC⟩:=h
 exact⟨sv,e,cel_one hC⟩
theorem rblock_spec{H:AHeap}{av sv:AVal}{b:Bs}{L:List Bool}{ov:Bool}(ha:AppN 1 0 H av (byts b) b.length)(hw:RW H.next H (.agg [sv,.int .i64 0]) L 0)(to last:Nat)(hto:to≤b.length)(hb:b.length≤600)(hla:last≤1)(hL:L.length≤100000) :
  ACalls Tryz.prog natT 115 [.agg [av,.int .i64 0,sv,.int .i64 0,.bool ov],.int .i64 (to:Int),.int .i64 (last:Int)] H fun w H'=>∃sv',w=.agg [av,.int .i64 (to:Int),sv',.int .i64 0,.bool ov]∧RW H'.next H' (.agg [sv',.int .i64 0]) (L++blockB L.length b 0 to last) 0∧(∀P,VB (.agg [sv,.int .i64 0]) P→VB (.agg [sv',.int .i64 0]) fun b=>P b∨H.next≤b)∧Ext H.next H H':=by
 refine acalls_ofN rfl za115 rfl ?_
 obtain⟨H1,m1,r1,k1,o1⟩:=row_newL H [av,.int .i64 0,sv,.int .i64 0,.bool ov] (n:=5) rfl
 obtain⟨H2,m2,r2,k2',o2⟩:=row_newL H1 [.slice none 0 (.known 0),.int .i64 0,.slice none 0 (.known 0),.int .i64 0,.bool false] (n:=5) rfl
 have E2:Ext H.next H H2:=⟨om,fun c hc=>by rw[o2 c om,o1 c om]⟩
 obtain⟨Hr,hHr⟩:∃G,G=H2.push (.cells [.slice none 0 (.known 0),.int .i64 0] 0 false):=⟨_,rfl⟩
 have gr:Hr.get H2.next=some (.cells [.slice none 0 (.known 0),.int .i64 0] 0 false):=by rw[hHr,AHeap.get_push,if_pos rfl]
 have kr:Hr.next=H2.next+1:=by rw[hHr]; rfl
 have or_:∀c,c<H2.next→Hr.get c=H2.get c:=fun c hc=>by rw[hHr]; exact get_push_lt hc
 have Er:Ext H.next H Hr:=⟨om,fun c hc=>by rw[or_ c om]; exact E2.old c hc⟩
 have R2:Row Hr H.next [av,.int .i64 0,sv,.int .i64 0,.bool ov]:=(r1.same (o2 _ om)).same (or_ _ om)
 have R6:Row Hr H1.next [.slice none 0 (.known 0),.int .i64 0,.slice none 0 (.known 0),.int .i64 0,.bool false]:=r2.same (or_ _ om)
 have lw:=row_loadK R2 (n:=5) rfl (i:=2) (k:=2) om
 have lw':oLoad true 2 Hr (cellR H.next 5 2)=some (.agg [sv,.int .i64 0]):=lw
 have lav:oLoad false 1 Hr (cellR H.next 5 0)=some av:=row_load R2 rfl rfl
 have lat:oLoad false 1 Hr (cellR H.next 5 1)=some (.int .i64 0):=row_load R2 rfl rfl
 have a2:AppN 1 0 Hr av (byts b) b.length:=ha.ext Er
 obtain⟨sl,ms,cs,_⟩:=a2.slice (lo:=0) (hi:=to) (Nat.zero_le _) hto
 have ms':aSl 1 av (some (.int .i64 0)) (some (.int .i64 (to:Int))) none=some sl:=ms
 have ecs:((byts b).drop 0).take (to-0)=byts (b.take to):=by simp[byts]
 rw[ecs]at cs
 simp only[c115,sA,sB,seval,cells_agg,m1,m2]
 refine aw_drawN ?_
 simp only[claims,newOf,reserves,← hHr]
 simp only[sA,sB,seval,sR,tr_claim,fldA,fld0,lw',lav,lat,ms']
 have hwr:RW Hr.next Hr (.agg [sv,.int .i64 0]) L 0:=hw.fwd Er
 refine (rstored_spec hwr cs rL last hla (by rw[List.length_take]; omega) om).mono ?_
 intro w1 H3 R1
 have n3:=R1.2.2.next
 obtain⟨s1,rfl,o1s⟩:=rw_val R1.1
 have cl3:aClaim H3 H2.next [.slice none 0 (.known 0),.int .i64 0] none=some (cellR H2.next 2 0):=claim_ok ((R1.2.2.old _ om).trans gr) rfl
 have cl3r:aClaim Hr H2.next [.slice none 0 (.known 0),.int .i64 0] none=some (cellR H2.next 2 0):=claim_ok gr rfl
 have hb1:VB (.agg [s1,.int .i64 ((0:Nat):Int)]) fun b=>b<H.next∨Hr.next≤b:=R1.2.1 _ hw.vb
 obtain⟨H5,m5,q5,w5,k5,o5⟩:=rw_store R1.1 (q:=H2.next) ⟨_,rfl,rfl,⟨0,(R1.2.2.old _ om).trans gr,Nat.zero_le _⟩⟩ (hb1.mono fun b hb=>om)
 have m5':oStore 2 H3 (cellR H2.next 2 0) (.agg [s1,.int .i64 0])=some H5:=m5
 simp only[sA,sB,seval,sR,tr_claim,cl3,m5']
 simp only[ck_nil',ck_cons,ckP_load,ckP_claim,ckP_nil,ck_end,and_true,true_and,List.map_cons,List.map_nil,sA,sB,seval]
 refine⟨⟨_,rfl,fun _=>⟨_,cl3r,aeq_cellR _ _ _⟩⟩,?_⟩
 have o5':∀c,c<Hr.next→c≠H2.next→H5.get c=Hr.get c:=fun c hc hd=>by rw[o5 c hd,R1.2.2.old c hc]
 obtain⟨Hs,hHs⟩:∃G,G=H5.push (.cells [.slice none 0 (.known 0),.int .i64 0] 0 false):=⟨_,rfl⟩
 have gs:Hs.get H5.next=some (.cells [.slice none 0 (.known 0),.int .i64 0] 0 false):=by rw[hHs,AHeap.get_push,if_pos rfl]
 have ks:Hs.next=H5.next+1:=by rw[hHs]; rfl
 have os:∀c,c<H5.next→Hs.get c=H5.get c:=fun c hc=>by rw[hHs]; exact get_push_lt hc
 have Es:Ext H.next H Hs:=⟨om,fun c hc=>by rw[os c om,o5' c om om]; exact Er.old c hc⟩
 have R2s:Row Hs H.next [av,.int .i64 0,sv,.int .i64 0,.bool ov]:=R2.same (by rw[os _ om,o5' _ om om])
 have lws:oLoad true 2 Hs (cellR H.next 5 2)=some (.agg [sv,.int .i64 0]):=row_loadK R2s (n:=5) rfl (i:=2) (k:=2) om
 have lavs:oLoad false 1 Hs (cellR H.next 5 0)=some av:=row_load R2s rfl rfl
 have lats:oLoad false 1 Hs (cellR H.next 5 1)=some (.int .i64 0):=row_load R2s rfl rfl
 have cas:Cel Hs.next Hs av (byts b):=(ha.ext Es).cel1 (ha.ext Es).blk'
 refine aw_drawN ?_
 simp only[claims,newOf,reserves,← hHs]
 simp only[sA,sB,seval,sR,tr_claim,fldA,fld0,lws,lavs,lats]
 refine (rtokens_spec cas rL 0 to (Nat.zero_le _) hto om).mono ?_
 intro tv H6 ⟨T1,T2,T3⟩
 have n6:=T3.next
 have lw6:oLoad true 2 H6 (cellR H.next 5 2)=some (.agg [sv,.int .i64 0]):=row_loadK (R2s.same (T3.old _ om)) (n:=5) rfl (i:=2) (k:=2) om
 have hw6:RW H6.next H6 (.agg [sv,.int .i64 0]) L 0:=hw.fwd (Es.trans (T3.less om))
 have tl:(toks b 0 to).length≤600:=Nat.le_trans (toks_length b to (to-0) 0) om
 simp only[sA,sB,seval,sR,tr_claim]
 refine (rfixedb_spec hw6 T1 (toks_ok b to om _ _) last hla om om).mono ?_
 intro w2 H7 R7
 have n7:=R7.2.2.next
 obtain⟨s2,rfl,o2s⟩:=rw_val R7.1
 have gs7:H7.get H5.next=some (.cells [.slice none 0 (.known 0),.int .i64 0] 0 false):=(R7.2.2.old _ om).trans ((T3.old _ om).trans gs)
 have cl7:aClaim H7 H5.next [.slice none 0 (.known 0),.int .i64 0] none=some (cellR H5.next 2 0):=claim_ok gs7 rfl
 have cl6:aClaim H6 H5.next [.slice none 0 (.known 0),.int .i64 0] none=some (cellR H5.next 2 0):=claim_ok ((T3.old _ om).trans gs) rfl
 have cls:aClaim Hs H5.next [.slice none 0 (.known 0),.int .i64 0] none=some (cellR H5.next 2 0):=claim_ok gs rfl
 have hb2:VB (.agg [s2,.int .i64 ((0:Nat):Int)]) fun b=>b<H.next∨H6.next≤b:=R7.2.1 _ hw.vb
 obtain⟨H8,m8,q8,w8,k8,o8⟩:=rw_store R7.1 (q:=H5.next) ⟨_,rfl,rfl,⟨0,gs7,Nat.zero_le _⟩⟩ (hb2.mono fun b hb=>om)
 have m8':oStore 2 H7 (cellR H5.next 2 0) (.agg [s2,.int .i64 0])=some H8:=m8
 simp only[sA,sB,seval,sR,tr_claim,cl7,m8']
 simp only[ck_nil',ck_cons,ckP_load,ckP_claim,ckP_nil,ck_end,and_true,true_and,List.map_cons,List.map_nil,sA,sB,seval]
 refine⟨⟨⟨_,rfl,fun _=>⟨_,lw6,aeq_agg2 (rw_aeq hw) (aeq_i _ _)⟩⟩,⟨_,rfl,fun _=>⟨_,cls,aeq_cellR _ _ _⟩⟩,⟨_,rfl,fun _=>⟨_,cl6,aeq_cellR _ _ _⟩⟩⟩,?_⟩
 have og:∀c,c<H5.next→H8.get c=H5.get c:=fun c hc=>by rw[o8 c om,R7.2.2.old c om,T3.old c om,os c hc]
 have R8:Row H8 H.next [av,.int .i64 0,sv,.int .i64 0,.bool ov]:=R2s.same (by rw[og _ om,os _ om])
 have R81:Row H8 H1.next [.slice none 0 (.known 0),.int .i64 0,.slice none 0 (.known 0),.int .i64 0,.bool false]:=R6.same (by rw[og _ om,o5' _ om om])
 obtain⟨H9,m9,r9,k9,o9⟩:=row_storeK R8 (n:=5) rfl (i:=2) (k:=2) om (xs:=[s2,.int .i64 0]) rfl (by simp only[List.all_cons,List.all_nil,o2s]; rfl)
 have r9':Row H9 H.next [av,.int .i64 0,s2,.int .i64 0,.bool ov]:=r9
 have ne5:H5.next≠H.next:=om
 have ne2:H2.next≠H.next:=om
 have l8:oLoad true 2 H8 (cellR H5.next 2 0)=some (.agg [s2,.int .i64 0]):=q8.load
 have q89:Holds H9 H5.next (.agg [s2,.int .i64 0]):=q8.same (o9 _ ne5)
 have q59:Holds H9 H2.next (.agg [s1,.int .i64 0]):=q5.same (by rw[o9 _ ne2,og _ om])
 have fst:∀{q:Nat} {x y:AVal},Holds H9 q (.agg [x,y])→oLoad false 1 H9 (cellR q 2 0)=some x:=fun {q x y} h=>by
  obtain⟨cs,e,h1,h2⟩:=h
  simp only[AVal.agg.injEq]at e
  subst e
  exact row_load h2 rfl rfl
 have f1:=fst q59
 have f2:=fst q89
 have len1:=rw_len R1.1
 have len2:=rw_len R7.1
 rw[lA]at len1 len2
 have av1:av.one=true:=by rcases (ha) with⟨rfl,_⟩ | ⟨_,_,rfl,_⟩ <;> rfl
 have R91:Row H9 H1.next [.slice none 0 (.known 0),.int .i64 0,.slice none 0 (.known 0),.int .i64 0,.bool false]:=R81.same (o9 _ om)
 have bl:blockB L.length b 0 to last=if (storedB L.length (b.take to) last).length<(fixedB (toks b 0 to) last).length then storedB L.length (b.take to) last else fixedB (toks b 0 to) last:=by
  unfold blockB; rw[List.drop_zero,Nat.sub_zero]
 by_cases hlt:(storedB L.length (b.take to) last).length<(fixedB (toks b 0 to) last).length
 ·have hlt':((L.length+(storedB L.length (b.take to) last).length:Nat):Int)<((L.length+(fixedB (toks b 0 to) last).length:Nat):Int):=om
  obtain⟨H10,m10,r10,k10,o10⟩:=row_storeK r9' (n:=5) rfl (i:=2) (k:=2) om (xs:=[s1,.int .i64 0]) rfl (by simp only[List.all_cons,List.all_nil,o1s]; rfl)
  have r10':Row H10 H.next [av,.int .i64 0,s1,.int .i64 0,.bool ov]:=r10
  obtain⟨H11,m11,r11,k11,o11⟩:=row_st r10' (n:=5) rfl (i:=1) om (x:=.int .i64 (to:Int)) rfl rfl
  have l11:oLoad true 5 H11 (cellR H.next 5 0)=some (.agg [av,.int .i64 (to:Int),s1,.int .i64 0,.bool ov]):=row_loadN r11 (n:=5) rfl
  obtain⟨H12,m12,r12,k12,o12⟩:=row_storeN (R91.same (by rw[o11 _ om,o10 _ om])) (n:=5) rfl (xs:=[av,.int .i64 (to:Int),s1,.int .i64 0,.bool ov]) rfl (by simp only[List.all_cons,List.all_nil,av1,o1s]; rfl)
  have ll:oLoad true 2 H9 (cellR H2.next 2 0)=some (.agg [s1,.int .i64 0]):=q59.load
  simp only[sA,sB,seval,fldA,fld0,l8,m9,f1,f2,len1,len2,hlt',ll,m10,m11,l11,m12]
  refine fin_1 _ _ _ (by simp only[sA,sB,seval]; exact row_loadN r12 (n:=5) rfl) ⟨s1,rfl,?_,fun P hP=>(R1.2.1 P hP).mono fun b hb=>hb.imp (fun q=>q) fun q=>om,⟨om,fun c hc=>by rw[o12 c om,o11 c om,o10 c om,o9 c om,og c om,o5' c om om]; exact Er.old c hc⟩⟩
  rw[bl,if_pos hlt]
  have hbb:=hb1.mono (Q:=fun b=>b≠H.next∧b≠H1.next) fun b hb=>om
  refine rw_same w5 om fun sv' c e=>?_
  have x1:=w5.vb sv' c e
  have x2:=hbb sv' c e
  exact (x1.and x2).mono fun b hb=>by rw[o12 b hb.2.2,o11 b hb.2.1,o10 b hb.2.1,o9 b hb.2.1,og b hb.1]
 ·have hlt':¬((L.length+(storedB L.length (b.take to) last).length:Nat):Int)<((L.length+(fixedB (toks b 0 to) last).length:Nat):Int):=om
  obtain⟨H11,m11,r11,k11,o11⟩:=row_st r9' (n:=5) rfl (i:=1) om (x:=.int .i64 (to:Int)) rfl rfl
  have l11:oLoad true 5 H11 (cellR H.next 5 0)=some (.agg [av,.int .i64 (to:Int),s2,.int .i64 0,.bool ov]):=row_loadN r11 (n:=5) rfl
  obtain⟨H12,m12,r12,k12,o12⟩:=row_storeN (R91.same (by rw[o11 _ om])) (n:=5) rfl (xs:=[av,.int .i64 (to:Int),s2,.int .i64 0,.bool ov]) rfl (by simp only[List.all_cons,List.all_nil,av1,o2s]; rfl)
  simp only[sA,sB,seval,fldA,fld0,l8,m9,f1,f2,len1,len2,hlt',m11,l11,m12]
  refine fin_1 _ _ _ (by simp only[sA,sB,seval]; exact row_loadN r12 (n:=5) rfl) ⟨s2,rfl,?_,fun P hP=>(R7.2.1 P hP).mono fun b hb=>hb.imp (fun q=>q) fun q=>om,⟨om,fun c hc=>by rw[o12 c om,o11 c om,o9 c om,og c om,o5' c om om]; exact Er.old c hc⟩⟩
  rw[bl,if_neg hlt]
  have hbb:=hb2.mono (Q:=fun b=>b≠H.next∧b≠H1.next) fun b hb=>om
  refine rw_same w8 om fun sv' c e=>?_
  have x2:=hbb sv' c e
  exact x2.mono fun b hb=>by rw[o12 b hb.2,o11 b hb.1,o9 b hb.1]
theorem rwrite6_spec{n:Nat}{H:AHeap}{av sv bv:AVal}{b p:Bs}(h:DW H av sv b [])(hp:Cel n H bv (byts p))(hn:n≤H.next)(hl:b.length+p.length≤600) :
  ACalls Tryz.prog natT 98 [.agg [av,.int .i64 0,sv,.int .i64 0,.bool false],bv] H fun w H'=>∃av' sv',w=.tuple [.agg [av',.int .i64 0,sv',.int .i64 0,.bool false],nilS,.int .i64 0]∧DW H' av' sv' (b++p) []∧Blk av' (H.next≤·)∧(∀P,VB (.agg [sv,.int .i64 0]) P→VB (.agg [sv',.int .i64 0]) P)∧Ext H.next H H':=by
 obtain⟨ha,hw⟩:=h
 obtain⟨_,esv,hsv⟩:=rw_val hw
 simp only[AVal.agg.injEq,List.cons.injEq,and_true]at esv
 obtain⟨rfl,_⟩:=esv
 refine acalls_ofN rfl za98 rfl ?_
 obtain⟨H1,m1,r1,k1,o1⟩:=row_newL H [av,.int .i64 0,sv,.int .i64 0,.bool false] (n:=5) rfl
 obtain⟨H2,m2,r2,k2',o2⟩:=row_newL H1 [.slice none 0 (.known 0),.int .i64 0,.slice none 0 (.known 0),.int .i64 0,.bool false] (n:=5) rfl
 have E2:Ext H.next H H2:=⟨om,fun c hc=>by rw[o2 c om,o1 c om]⟩
 have R2:Row H2 H.next [av,.int .i64 0,sv,.int .i64 0,.bool false]:=r1.same (o2 _ om)
 have l4:oLoad false 1 H2 (cellR H.next 5 4)=some (.bool false):=row_load R2 rfl rfl
 have l0:oLoad false 1 H2 (cellR H.next 5 0)=some av:=row_load R2 rfl rfl
 obtain⟨s3,H3,m3,A3,n3,b3,o3⟩:=app_bytes (app_nil H2) (src_app (ha.ext E2)) (by simp; omega)
 have m3':aAppend 1 1 H2 (.slice none 0 (.known 0)) av=some (s3,H3):=m3
 rw[List.nil_append]at A3
 have E3:Ext H2.next H2 H3:=⟨n3,fun c hc=>o3 c hc (blk_nil _)⟩
 have B3:Blk s3 (H2.next≤·):=(b3 (fun _=>False) (blk_nil _)).mono fun b hb=>hb.elim (fun q=>q.elim) fun q=>q
 have hp3:Cel n H3 bv (byts p):=hp.ext ((E2.less hn).trans (E3.less om))
 obtain⟨s4,H4,m4,A4,n4,b4,o4⟩:=app_bytes A3 (src_cel hp3) om
 have B4:Blk s4 (H2.next≤·):=(b4 _ B3).mono fun b hb=>om
 have og:∀c,c<H2.next→H4.get c=H2.get c:=fun c hc=>by rw[o4 c om (B3.mono fun b hb=>om),E3.old c hc]
 obtain⟨H5,m5,r5,k5,o5⟩:=row_st (R2.same (og _ om)) (n:=5) rfl (i:=0) om (x:=s4) (app_one A4) rfl
 have r5':Row H5 H.next [s4,.int .i64 0,sv,.int .i64 0,.bool false]:=r5
 have l50:oLoad false 1 H5 (cellR H.next 5 0)=some s4:=row_load r5' rfl rfl
 have l51:oLoad false 1 H5 (cellR H.next 5 1)=some (.int .i64 0):=row_load r5' rfl rfl
 have l52:oLoad true 2 H5 (cellR H.next 5 2)=some (.agg [sv,.int .i64 0]):=row_loadK r5' (n:=5) rfl (i:=2) (k:=2) om
 have hlen:aLenK false s4=some (.int .i64 ((b++p).length:Int)):=A4.len
 have ws:IntKind.i64.wrap (((b++p).length:Int)-0)=((b++p).length:Int):=by rw[wrap64 (by simp; omega) (by simp; omega)]; omega
 have hgt:¬(4096:Int)<((b++p).length:Int):=by rw[lA]; omega
 have E5:Ext H.next H H5:=⟨om,fun c hc=>by rw[o5 c om,og c om]; exact E2.old c hc⟩
 simp only[c98,sA,sB,seval,cells_agg,m1,m2,fldA,fld0,l4,l0,m3',m4,m5]
 refine aw_loop (fun q (T:Env) H'=>T 2=cellR H.next 5 0∧T 4=cellR H1.next 5 0∧H5=H') 0 ⟨by simp only[sA,sB,seval]; try rfl,by simp only[sA,sB,seval]; try rfl,rfl⟩ ?_
 rintro q T _ ⟨g2,g4,rfl⟩
 simp only[sA,sB,seval,g2,g4,fldA,fld0,l50,l51,l52,hlen,ws,hgt]
 refine (rtake_spec (hw.fwd E5) (by simp)).mono ?_
 rintro w H6 ⟨v',s,rfl,q1,q2,q3,q4⟩
 have n6:=q4.next
 have es:s=nilS:=by
  rcases q2 with⟨e,_⟩ | ⟨_,_,_,_,_,_,_,_,h0⟩
  ·exact e
  ·exact absurd h0 (by simp)
 subst es
 have q1:RW H6.next H6 v' [] 0:=q1
 obtain⟨s6,rfl,o6s⟩:=rw_val q1
 obtain⟨H7,m7,r7,k7,o7⟩:=row_newL H6 [.slice none 0 (.known 0),.int .i64 0] (n:=2) rfl
 have hvb:VB (.agg [s6,.int .i64 ((0:Nat):Int)]) (·<H.next):=q3 _ hw.vb
 obtain⟨H8,m8,q8,w8,k8,o8⟩:=rw_store (q1.fwd (Ext.of_new k7 o7 rL)) (q:=H6.next) ⟨_,rfl,rfl,r7⟩ (hvb.mono fun b hb=>om)
 have m8':oStore 2 H7 (cellR H6.next 2 0) (.agg [s6,.int .i64 0])=some H8:=m8
 have l8:oLoad true 2 H8 (cellR H6.next 2 0)=some (.agg [s6,.int .i64 0]):=q8.load
 have og8:∀c,c<H5.next→H8.get c=H5.get c:=fun c hc=>by rw[o8 c om,o7 c om,q4.old c hc]
 obtain⟨H9,m9,r9,k9,o9⟩:=row_storeK (r5'.same (og8 _ om)) (n:=5) rfl (i:=2) (k:=2) om (xs:=[s6,.int .i64 0]) rfl (by simp only[List.all_cons,List.all_nil,o6s]; rfl)
 have r9':Row H9 H.next [s4,.int .i64 0,s6,.int .i64 0,.bool false]:=r9
 have l9:oLoad true 5 H9 (cellR H.next 5 0)=some (.agg [s4,.int .i64 0,s6,.int .i64 0,.bool false]):=row_loadN r9' (n:=5) rfl
 have R91:Row H9 H1.next [.slice none 0 (.known 0),.int .i64 0,.slice none 0 (.known 0),.int .i64 0,.bool false]:=r2.same (by rw[o9 _ om,og8 _ om,o5 _ om,og _ om])
 obtain⟨H10,m10,r10,k10,o10⟩:=row_storeN R91 (n:=5) rfl (xs:=[s4,.int .i64 0,s6,.int .i64 0,.bool false]) rfl (by simp only[List.all_cons,List.all_nil,app_one A4,o6s]; rfl)
 simp only[sA,sB,seval,g2,g4,fldA,fld0,ext_0,ext_1,m7,m8',l8,m9,l9,m10]
 refine fin_c3 _ _ _ _ _ (by simp only[sA,sB,seval,g4]; exact row_loadN r10 (n:=5) rfl) ⟨s4,s6,by simp only[sA,sB,seval]; try rfl,⟨?_,?_⟩,B4.mono fun b hb=>om,fun P hP=>q3 P hP,⟨om,fun c hc=>by rw[o10 c om,o9 c om,og8 c om]; exact E5.old c hc⟩⟩
 ·exact A4.same om ((B4.and A4.blk').mono fun b hb=>by rw[o10 b om,o9 b om,og8 b om,o5 b om])
 ·exact rw_same w8 om (hvb.mono fun b hb=>by rw[o10 b om,o9 b om])
def endB(b:Bs):List Bool:=blockB 0 b 0 b.length 1++List.replicate (fillN (blockB 0 b 0 b.length 1).length) false
theorem endB_len(b:Bs):(endB b).length % 8=0:=by
 unfold endB
 rw[lA,List.length_replicate]
 exact fill_ok _
theorem blockB_len(b:Bs)(hb:b.length≤600):(blockB 0 b 0 b.length 1).length≤60000:=by
 unfold blockB
 have h1:=storedB_len 0 ((b.drop 0).take (b.length-0)) 1
 have h2:((b.drop 0).take (b.length-0)).length≤600:=by simp; omega
 split
 ·omega
 ·rename_i h
  have ht:=toks_length b b.length (b.length-0) 0
  have h3:=tokBs_len (toks b 0 b.length)
  have h4:=fixB_len 256
  have h5:(toks b 0 b.length).length≤600:=Nat.le_trans ht om
  simp only[fixedB,lA,bitsN_len]
  omega
theorem endB_len2(b:Bs)(hb:b.length≤600):(endB b).length≤60010:=by
 have:=blockB_len b hb
 unfold endB
 rw[lA,List.length_replicate]
 have:fillN (blockB 0 b 0 b.length 1).length<8:=by unfold fillN; omega
 omega
theorem pack_endB(b:Bs):(List.range ((endB b).length / 8)).map (byteAt (endB b))=pack (endB b):=by
 have:=endB_len b
 unfold pack
 rw[show ((endB b).length+7) / 8=(endB b).length / 8 by omega]
theorem rend6_spec{H:AHeap}{av sv:AVal}{b:Bs}(h:DW H av sv b [])(hl:b.length≤600) :
  ACalls Tryz.prog natT 100 [.agg [av,.int .i64 0,sv,.int .i64 0,.bool false]] H fun w H'=>∃x1 x2 x3 x4 s,w=.tuple [.agg [av,x1,x2,x3,x4],s,.int .i64 0]∧x1.one=true∧x2.one=true∧x3.one=true∧x4.one=true∧(∀u c,aeq u u=true→aeq (.agg [u,x1,x2,x3,x4,.bool c]) (.agg [u,x1,x2,x3,x4,.bool c])=true)∧AppN 1 H.next H' s (u8s (pack (endB b))) (pack (endB b)).length∧Ext H.next H H':=by
 obtain⟨ha,hw⟩:=h
 have hsv:sv.one=true:=by
  obtain⟨_,esv,hsv⟩:=rw_val hw
  simp only[AVal.agg.injEq,List.cons.injEq,and_true]at esv
  rw[esv.1]; exact hsv
 refine acalls_ofN rfl za100 rfl ?_
 obtain⟨H1,m1,r1,k1,o1⟩:=row_newL H [av,.int .i64 0,sv,.int .i64 0,.bool false] (n:=5) rfl
 obtain⟨H2,m2,r2,k2',o2⟩:=row_newL H1 [.slice none 0 (.known 0),.int .i64 0,.slice none 0 (.known 0),.int .i64 0,.bool false] (n:=5) rfl
 have E2:Ext H.next H H2:=⟨om,fun c hc=>by rw[o2 c om,o1 c om]⟩
 have R2:Row H2 H.next [av,.int .i64 0,sv,.int .i64 0,.bool false]:=r1.same (o2 _ om)
 have l4:oLoad false 1 H2 (cellR H.next 5 4)=some (.bool false):=row_load R2 rfl rfl
 have l0:oLoad false 1 H2 (cellR H.next 5 0)=some av:=row_load R2 rfl rfl
 have l5:oLoad true 5 H2 (cellR H.next 5 0)=some (.agg [av,.int .i64 0,sv,.int .i64 0,.bool false]):=row_loadN R2 (n:=5) rfl
 have hlen:aLenK false av=some (.int .i64 (b.length:Int)):=ha.len
 have av1:=app_one ha
 simp only[c100,sA,sB,seval,cells_agg,m1,m2,fldA,fld0,l4,l0,l5,hlen]
 refine (rblock_spec (ha.ext E2) (hw.fwd E2) b.length 1 rL hl om (by simp)).mono ?_
 rintro _ H3 ⟨s3,rfl,w3,b3,E3⟩
 have n3:=E3.next
 rw[List.nil_append]at w3
 obtain⟨_,es3,hs3⟩:=rw_val w3
 simp only[AVal.agg.injEq,List.cons.injEq,and_true]at es3
 obtain⟨rfl,_⟩:=es3
 have hv3:VB (.agg [s3,.int .i64 0]) fun b=>b<H.next∨H2.next≤b:=b3 _ hw.vb
 obtain⟨H4,m4,r4,k4,o4⟩:=row_storeN (R2.same (E3.old _ om)) (n:=5) rfl (xs:=[av,.int .i64 (b.length:Int),s3,.int .i64 0,.bool false]) rfl (by simp only[List.all_cons,List.all_nil,av1,hs3]; rfl)
 have l42:oLoad true 2 H4 (cellR H.next 5 2)=some (.agg [s3,.int .i64 0]):=row_loadK r4 (n:=5) rfl (i:=2) (k:=2) om
 have w4:RW H4.next H4 (.agg [s3,.int .i64 0]) (blockB 0 b 0 b.length 1) 0:=rw_same w3 om (hv3.mono fun b hb=>o4 b om)
 have hbl:=blockB_len b hl
 simp only[sA,sB,seval,fldA,fld0,m4,l42]
 refine (ralignw_spec w4 om).mono ?_
 rintro w5 H5 ⟨q5,b5,E5⟩
 have n5:=E5.next
 obtain⟨s5,rfl,hs5⟩:=rw_val q5
 have q5:RW H5.next H5 (.agg [s5,.int .i64 ((0:Nat):Int)]) (endB b) 0:=q5
 have hv5:VB (.agg [s5,.int .i64 ((0:Nat):Int)]) fun b=>(b<H.next∨H2.next≤b)∨H4.next≤b:=b5 _ hv3
 obtain⟨H6,m6,r6,k6,o6⟩:=row_storeK (r4.same (E5.old _ om)) (n:=5) rfl (i:=2) (k:=2) om (xs:=[s5,.int .i64 0]) rfl (by simp only[List.all_cons,List.all_nil,hs5]; rfl)
 have r6':Row H6 H.next [av,.int .i64 (b.length:Int),s5,.int .i64 0,.bool false]:=r6
 obtain⟨H7,m7,r7,k7,o7⟩:=row_st r6' (n:=5) rfl (i:=4) om (x:=.bool true) rfl rfl
 have r7':Row H7 H.next [av,.int .i64 (b.length:Int),s5,.int .i64 0,.bool true]:=r7
 have l72:oLoad true 2 H7 (cellR H.next 5 2)=some (.agg [s5,.int .i64 0]):=row_loadK r7' (n:=5) rfl (i:=2) (k:=2) om
 have w7:RW H7.next H7 (.agg [s5,.int .i64 ((0:Nat):Int)]) (endB b) 0:=rw_same q5 om (hv5.mono fun b hb=>by rw[o7 b om,o6 b om])
 have hel:=endB_len2 b hl
 simp only[sA,sB,seval,fldA,fld0,m6,m7,l72]
 refine (rtake_spec w7 om).mono ?_
 rintro _ H8 ⟨v8,s,rfl,q8,A8,b8,E8⟩
 have n8:=E8.next
 obtain⟨s8,rfl,hs8⟩:=rw_val q8
 have hv8:=b8 _ hv5
 obtain⟨t8,ht8⟩:∃t,t=(endB b).length / 8:=⟨_,rfl⟩
 rw[← ht8]at q8 hv8
 obtain⟨H9,m9,r9,k9,o9⟩:=row_newL H8 [.slice none 0 (.known 0),.int .i64 0] (n:=2) rfl
 obtain⟨H10,m10,q10,w10,k10,o10⟩:=rw_store (q8.fwd (Ext.of_new k9 o9 rL)) (q:=H8.next) ⟨_,rfl,rfl,r9⟩ ((q8.vb).mono fun b hb=>om)
 have l10:oLoad true 2 H10 (cellR H8.next 2 0)=some (.agg [s8,.int .i64 (t8:Int)]):=q10.load
 have og:∀c,c<H7.next→H10.get c=H7.get c:=fun c hc=>by rw[o10 c om,o9 c om,E8.old c hc]
 obtain⟨H11,m11,r11,k11,o11⟩:=row_storeK (r7'.same (og _ om)) (n:=5) rfl (i:=2) (k:=2) om (xs:=[s8,.int .i64 (t8:Int)]) rfl (by simp only[List.all_cons,List.all_nil,hs8]; rfl)
 have r11':Row H11 H.next [av,.int .i64 (b.length:Int),s8,.int .i64 (t8:Int),.bool true]:=r11
 have l11:oLoad true 5 H11 (cellR H.next 5 0)=some (.agg [av,.int .i64 (b.length:Int),s8,.int .i64 (t8:Int),.bool true]):=row_loadN r11' (n:=5) rfl
 have R91:Row H11 H1.next [.slice none 0 (.known 0),.int .i64 0,.slice none 0 (.known 0),.int .i64 0,.bool false]:=r2.same (by rw[o11 _ om,og _ om,o7 _ om,o6 _ om,E5.old _ om,o4 _ om,E3.old _ om])
 obtain⟨H12,m12,r12,k12,o12⟩:=row_storeN R91 (n:=5) rfl (xs:=[av,.int .i64 (b.length:Int),s8,.int .i64 (t8:Int),.bool true]) rfl (by simp only[List.all_cons,List.all_nil,av1,hs8]; rfl)
 simp only[sA,sB,seval,fldA,fld0,ext_0,ext_1,← ht8,m9,m10,l10,m11,l11,m12]
 refine fin_c3 _ _ _ _ _ (by simp only[sA,sB,seval]; exact row_loadN r12 (n:=5) rfl) ⟨_,_,_,_,s,by simp only[sA,sB,seval]; try rfl,rfl,hs8,rfl,rfl,fun u c hu=>by simp[aeq,aeqs,hu,rw_aeq q8,eqF_eq],?_,⟨om,fun c hc=>by rw[o12 c om,o11 c om,og c om,o7 c om,o6 c om,E5.old c om,o4 c om,E3.old c om]; exact E2.old c hc⟩⟩
 rw[pack_endB]at A8
 have el:(pack (endB b)).length=(endB b).length / 8:=by
  have:=endB_len b
  rw[pack_len]; omega
 rw[el]
 exact AppN.samN' A8 om om fun c h1 h2=>by rw[o12 c om,o11 c om,o10 c om,o9 c om]
theorem rahead_spec{H:AHeap}{a0 a1 a2 a3 a4 bv:AVal}{bg:Bool}{l:List Nat}(q0:a0.one=true)(q1:a1.one=true)(q2:a2.one=true)(q3:a3.one=true)(q4:a4.one=true)(hb:Cel H.next H bv (u8s l))(hl:l.length≤100000) :
  (aeq (.agg [a0,a1,a2,a3,a4,.bool true]) (.agg [a0,a1,a2,a3,a4,.bool true])=true) →
  ACalls Tryz.prog natT 99 [.agg [a0,a1,a2,a3,a4,.bool bg],bv] H fun w H'=>∃s,w=.tuple [.agg [a0,a1,a2,a3,a4,.bool true],s]∧AppN 1 H.next H' s (u8s (hd bg++l)) (hd bg++l).length∧Ext H.next H H':=by
 intro haeq
 refine acalls_ofN rfl za99 rfl ?_
 obtain⟨H1,m1,r1,k1,o1⟩:=row_newL H [a0,a1,a2,a3,a4,.bool bg] (n:=6) rfl
 obtain⟨H2,m2,r2,k2',o2⟩:=row_newL H1 [.slice none 0 (.known 0),.int .i64 0,.slice none 0 (.known 0),.int .i64 0,.bool false,.bool false] (n:=6) rfl
 have E2:Ext H.next H H2:=⟨om,fun c hc=>by rw[o2 c om,o1 c om]⟩
 have R2:Row H2 H.next [a0,a1,a2,a3,a4,.bool bg]:=r1.same (o2 _ om)
 have l5:oLoad false 1 H2 (cellR H.next 6 5)=some (.bool bg):=row_load R2 rfl rfl
 have rest:∀(s3:AVal) (H3:AHeap) (a:List Nat),AppN 1 0 H3 s3 (u8s a) a.length→Blk s3 (H2.next≤·)→a.length≤2→Ext H2.next H2 H3→∃H4 s5 H5 H6,oStore 1 H3 (cellR H.next 6 5) (.bool true)=some H4∧oLoad true 6 H4 (cellR H.next 6 0)=some (.agg [a0,a1,a2,a3,a4,.bool true])∧aAppend 1 1 H4 s3 bv=some (s5,H5)∧oLoad true 6 H5 (cellR H.next 6 0)=some (.agg [a0,a1,a2,a3,a4,.bool true])∧oStore 6 H5 (cellR H1.next 6 0) (.agg [a0,a1,a2,a3,a4,.bool true])=some H6∧oLoad true 6 H6 (cellR H1.next 6 0)=some (.agg [a0,a1,a2,a3,a4,.bool true])∧AppN 1 H.next H6 s5 (u8s (a++l)) (a++l).length∧Ext H.next H H6:=by
  intro s3 H3 a A3 B3 hal E3
  have n3:=E3.next
  obtain⟨H4,m4,r4,k4,o4⟩:=row_st (R2.same (E3.old _ om)) (n:=6) rfl (i:=5) om (x:=.bool true) rfl rfl
  have r4':Row H4 H.next [a0,a1,a2,a3,a4,.bool true]:=r4
  have E4:Ext H.next H H4:=⟨om,fun c hc=>by rw[o4 c om,E3.old c om]; exact E2.old c hc⟩
  have A4:=A3.same (H':=H4) om (B3.mono fun b hb=>o4 b om)
  obtain⟨s5,H5,m5,A5,n5,b5,o5⟩:=app_u8 A4 (hb.ext E4) om
  have B5:Blk s5 (H2.next≤·):=(b5 _ B3).mono fun b hb=>om
  have og:∀c,c<H2.next→H5.get c=H4.get c:=fun c hc=>o5 c om (B3.mono fun b hb=>om)
  obtain⟨H6,m6,r6,k6,o6⟩:=row_storeN (r2.same (H':=H5) (by rw[og _ om,o4 _ om,E3.old _ om])) (n:=6) rfl (xs:=[a0,a1,a2,a3,a4,.bool true]) rfl (by simp only[List.all_cons,List.all_nil,q0,q1,q2,q3,q4]; rfl)
  exact⟨H4,s5,H5,H6,m4,row_loadN r4' (n:=6) rfl,m5,row_loadN (r4'.same (og _ om)) (n:=6) rfl,m6,row_loadN r6 (n:=6) rfl,app_at (A5.same om (B5.mono fun b hb=>o6 b om)) (B5.mono fun b hb=>om),⟨om,fun c hc=>by rw[o6 c om,og c om]; exact E4.old c hc⟩⟩
 cases bg with
 | true=>
  obtain⟨H4,s5,H5,H6,p1,p2,p3,p4,p5,p6,p7,p8⟩:=rest nilS H2 [] (AppN.nil _ _ _) (blk_nil _) (by simp) (Ext.refl _ _)
  have p3':aAppend 1 1 H4 (.slice none 0 (.known 0)) bv=some (s5,H5):=p3
  simp only[c99,sA,sB,seval,cells_agg,m1,m2,fldA,fld0,l5,p1]
  refine aw_drawC rfl ?_
  simp only[sA,sB,seval,sR,p2,p3',p5]
  simp only[ck_nil',ck_cons,ckP_load,ckP_nil,ck_end,and_true,true_and,List.map_cons,List.map_nil,sA,sB,seval]
  refine⟨⟨_,rfl,fun _=>⟨_,p4,haeq⟩⟩,?_⟩
  exact fin_c6 _ _ _ (by simp only[sA,sB,seval]; exact p6) ⟨s5,by simp only[sA,sB,seval]; try rfl,p7,p8⟩
 | false=>
  have c2:Cel (H2.next+1) (H2.push (.cells (u8s [120,1]) 0 false)) (slR H2.next 2 (.known 2)) (u8s [120,1]):=(row_push H2 (u8s [120,1])).cel rfl (Nat.lt_succ_self _)
  obtain⟨s3,H3,m3,A3,n3,b3,o3⟩:=app_u8 (a:=[]) (AppN.nil 1 0 (H2.push (.cells (u8s [120,1]) 0 false))) c2 (by simp)
  rw[push_next]at n3 b3 o3
  have m3':aAppend 1 1 (H2.push (.cells (u8s [120,1]) 0 false)) (.slice none 0 (.known 0)) (slR H2.next 2 (.known 2))=some (s3,H3):=m3
  obtain⟨H4,s5,H5,H6,p1,p2,p3,p4,p5,p6,p7,p8⟩:=rest s3 H3 [120,1] A3 ((b3 (fun _=>False) (blk_nil _)).mono fun b hb=>hb.elim (fun q=>q.elim) fun q=>om) (by simp) ⟨om,fun c hc=>(o3 c om (blk_nil _)).trans (get_push_lt hc)⟩
  simp only[c99,sA,sB,seval,cells_agg,m1,m2,fldA,fld0,l5,build21,m3',p1]
  refine aw_drawC rfl ?_
  simp only[sA,sB,seval,sR,p2,p3,p5]
  simp only[ck_nil',ck_cons,ckP_load,ckP_nil,ck_end,and_true,true_and,List.map_cons,List.map_nil,sA,sB,seval]
  refine⟨⟨_,rfl,fun _=>⟨_,p4,haeq⟩⟩,?_⟩
  exact fin_c6 _ _ _ (by simp only[sA,sB,seval]; exact p6) ⟨s5,by simp only[sA,sB,seval]; try rfl,p7,p8⟩
end Go.Proofs.Tb
