/- Part of a proof (VD13 VD14 VD15 VD16 VD17 VD18 VD19 VD20 VD21 VP4); no condition. -/
import Derived.Test.YtacaginbdjepcaaGreatDoorP9
import Derived.Test.YtacaginbdjepcaaGreatDoorP10
set_option linter.unusedSimpArgs false
set_option linter.unusedVariables false
set_option linter.unnecessarySimpa false
namespace Go.Proofs.Wo
open Go.Abs Go.Abs.S
section
variable {F:Nat->Prop} {H:ae} {rb mb sb:Nat} {ps:PS} {vm vb vu vl:af} {ws:List Bs}
theorem fy.growB(S:fy F H rb mb ps vm vb vu){x:Rd}(hk:ps.1.bs.length<=1000):∃v' H2 H3,bD 5 40 (H.push (.cells (rB x) 0 false)) vb (po H 5)=some (v',H2)/\bB 1 H2 (ak rb 22 19) v'=some H3 /\
  fy F H3 rb mb ({ ps.1 with bs:=ps.1.bs++[x] },ps.2) vm v' vu/\Fx F H H3/\∀c,c<H.next->c≠rb->dP vb (c≠·)->H3.get c=H.get c:=by
 obtain⟨v',H2,a1,G,a2,a3,a4⟩:=S.ab.pushB (xs:=rB x) rfl rfl om (bytes:=40) om om
 have br:dP vb (rb≠·):=S.fb.mono fun c hc=>hc.2.1.symm
 have bm:dP vb (mb≠·):=S.fb.mono fun c hc=>hc.2.2.symm
 obtain⟨H3,m3,r3,n3,k3⟩:=bj (S.row.same (a4 rb S.rn br)) S.len (i:=19) (n:=22) om (x:=v') G.one
 have old:∀c,c<H.next->c≠rb->dP vb (c≠·)->H3.get c=H.get c:=fun c h1 h2 h3=>(k3 c h2).trans (a4 c h1 h3)
 have fx:Fx F H H3:=⟨om,fun c hc=>old c (S.fn c hc) (fun e=>S.nr (e ▸ hc)) (S.fb.mono fun d hd e=>hd.1 (e ▸ hc))⟩
 obtain⟨es,n,q1,q2⟩:=S.seen
 have keepm:dP vm fun c=>H3.get c=H.get c:=fun a m r e=>old _ (S.am.blk' a m r e) (S.fm a m r e).2.1 (mP S.d1.symm e)
 have keepu:dP vu fun c=>H3.get c=H.get c:=fun a m r e=>old _ (S.au.blk' a m r e) (S.fu a m r e).2.1 (mP S.d3 e)
 refine⟨v',H2,H3,a1,m3,⟨r3,S.am.same fx.next keepm,?_,S.au.same fx.next keepu,S.fm,?_,S.fu,(j2 S.d1.symm S.am.blk' a3).symm,S.d2,j2 S.d3 S.au.blk' a3,NN S.rn fx.next,NN S.mn fx.next,S.ne,S.nr,S.nm,fun c hc=>NN (S.fn c hc) fx.next,es,n,by rw[old mb S.mn S.ne.symm bm]; exact q1,q2⟩,fx,old⟩
 ·have G3:=G.same (H':=H3) om ((a3 _ br).mono fun c hc=>k3 c (by have:=S.rn; omega))
  simp only[List.flatMap_append,List.flatMap_cons,List.flatMap_nil,List.append_nil,lA,ND,NE]
  exact G3
 ·refine (a3 _ S.fb).mono fun c hc=>?_
  rcases hc with hc | hc
  ·exact hc
  ·exact⟨fun h=>by have:=S.fn c h; omega,by have:=S.rn; omega,by have:=S.mn; omega⟩
theorem fy.growU(S:fy F H rb mb ps vm vb vu){x:Us}(hk:ps.1.us.length<=1000):∃v' H2 H3,bD 5 48 (H.push (.cells (wR x) 0 false)) vu (po H 5)=some (v',H2)/\bB 1 H2 (ak rb 22 20) v'=some H3 /\
  fy F H3 rb mb ({ ps.1 with us:=ps.1.us++[x] },ps.2) vm vb v'/\Fx F H H3/\∀c,c<H.next->c≠rb->dP vu (c≠·)->H3.get c=H.get c:=by
 obtain⟨v',H2,a1,G,a2,a3,a4⟩:=S.au.pushB (xs:=wR x) rfl rfl om (bytes:=48) om om
 have br:dP vu (rb≠·):=S.fu.mono fun c hc=>hc.2.1.symm
 have bm:dP vu (mb≠·):=S.fu.mono fun c hc=>hc.2.2.symm
 obtain⟨H3,m3,r3,n3,k3⟩:=bj (S.row.same (a4 rb S.rn br)) S.len (i:=20) (n:=22) om (x:=v') G.one
 have old:∀c,c<H.next->c≠rb->dP vu (c≠·)->H3.get c=H.get c:=fun c h1 h2 h3=>(k3 c h2).trans (a4 c h1 h3)
 have fx:Fx F H H3:=⟨om,fun c hc=>old c (S.fn c hc) (fun e=>S.nr (e ▸ hc)) (S.fu.mono fun d hd e=>hd.1 (e ▸ hc))⟩
 obtain⟨es,n,q1,q2⟩:=S.seen
 have keepm:dP vm fun c=>H3.get c=H.get c:=fun a m r e=>old _ (S.am.blk' a m r e) (S.fm a m r e).2.1 (mP S.d2.symm e)
 have keepb:dP vb fun c=>H3.get c=H.get c:=fun a m r e=>old _ (S.ab.blk' a m r e) (S.fb a m r e).2.1 (mP S.d3.symm e)
 refine⟨v',H2,H3,a1,m3,⟨r3,S.am.same fx.next keepm,S.ab.same fx.next keepb,?_,S.fm,S.fb,?_,S.d1,(j2 S.d2.symm S.am.blk' a3).symm,(j2 S.d3.symm S.ab.blk' a3).symm,NN S.rn fx.next,NN S.mn fx.next,S.ne,S.nr,S.nm,fun c hc=>NN (S.fn c hc) fx.next,es,n,by rw[old mb S.mn S.ne.symm bm]; exact q1,q2⟩,fx,old⟩
 ·have G3:=G.same (H':=H3) om ((a3 _ br).mono fun c hc=>k3 c (by have:=S.rn; omega))
  simp only[List.flatMap_append,List.flatMap_cons,List.flatMap_nil,List.append_nil,lA,ND,NE]
  exact G3
 ·refine (a3 _ S.fu).mono fun c hc=>?_
  rcases hc with hc | hc
  ·exact hc
  ·exact⟨fun h=>by have:=S.fn c h; omega,by have:=S.rn; omega,by have:=S.mn; omega⟩
theorem kM(k:Nat)(S:fy F H rb mb ps vm vb vu)(W:nT rb mb H vl ws)(hk:ps.1.ms.length<=64):an Tryz.prog aE 55 [ak rb 22 0,.int .u8 (k:Int),vl] H (gu F H rb mb ps.2 ((iG ws).bind fun v=>l9 ps.1 ⟨k,v,[],[]⟩)):=by
 refine ai rfl Mo rfl ?_
 obtain⟨wb,hw,w1,w2,w3⟩:=W.wk
 obtain⟨H1,m1,r1,n1,k1⟩:=aP H [.int .u8 0,.int .i64 0,.int .i64 0,.int .i64 0,.str [],.str []] (n:=6) rfl
 obtain⟨H2,m2,r2,n2,k2⟩:=bA (n:=6) r1 rfl (xs:=jh ⟨k,⟨0,0,0⟩,[],[]⟩) rfl rfl
 have e2:bw H.next H H2:=⟨om,fun c hc=>by rw[k2 c om,k1 c om]⟩
 have bd:bQ [.int .u8 0,.int .i64 0,.int .i64 0,.int .i64 0,.str [],.str []] [(0,1,.int .u8 (k:Int))]=some (.agg (jh ⟨k,⟨0,0,0⟩,[],[]⟩)):=rfl
 simp only[c55,sA,sB,seval,bd,m1,m2,aF]
 refine (oN (b:=H.next) (n:=6) (o:=1) (hw.same (e2.old wb w1)).wl (fun c hc=>by subst hc; exact⟨om,om⟩) r2 rfl om W.big om).mono ?_
 rintro v H3 ⟨f,C',r',hC',h⟩
 have e3:bw H.next H H3:=⟨by have:=f.next; omega,fun c hc=>by rw[f.old c om om,e2.old c hc]⟩
 have S3:=S.ext e3
 rcases h with⟨x,h1,rfl,rfl⟩ | ⟨h1,rfl⟩
 ·have lx:=aW 6 0 6 r' rfl (xs:=jh ⟨k,x,[],[]⟩) om rfl
  simp only[sA,sB,seval,lx]
  refine (wG S3 ⟨k,x,[],[]⟩ (by simp) (by simp) hk).mono ?_
  rintro v H4 ⟨f4,h4⟩
  simp only[sA,sB,seval]
  exact⟨(dc S e3).trans f4,by rw[h1]; exact h4⟩
 ·simp only[sA,sB,seval]
  exact⟨dc S e3,.inr ⟨by rw[h1]; rfl,rfl⟩⟩
theorem BO(S:fy F H rb mb ps vm vb vu)(W:nT rb mb H vl ws)(B:Row H sb [ak rb 22 0])(hk:ps.1.ms.length<=64):an Tryz.prog aE 54 [vl,ak sb 1 0] H (gu F H rb mb ps.2 (cQ 0 ps.1 ws)):=by
 refine ai rfl Mp rfl ?_
 have l0:=ap 1 0 B rfl rfl
 simp only[c54,sA,sB,seval,l0]
 refine (kM 1 S W hk).mono ?_
 rintro v H' h
 simp only[sA,sB,seval]
 exact h
theorem BN(S:fy F H rb mb ps vm vb vu)(W:nT rb mb H vl ws)(B:Row H sb [ak rb 22 0])(hk:ps.1.ms.length<=64):an Tryz.prog aE 56 [vl,ak sb 1 0] H (gu F H rb mb ps.2 (cQ 1 ps.1 ws)):=by
 refine ai rfl Mn rfl ?_
 have l0:=ap 1 0 B rfl rfl
 simp only[c56,sA,sB,seval,l0]
 refine (kM 2 S W hk).mono ?_
 rintro v H' h
 simp only[sA,sB,seval]
 exact h
theorem BM(S:fy F H rb mb ps vm vb vu)(W:nT rb mb H vl ws)(B:Row H sb [ak rb 22 0])(hk:ps.1.ms.length<=64):an Tryz.prog aE 57 [vl,ak sb 1 0] H (gu F H rb mb ps.2 (cQ 2 ps.1 ws)):=by
 refine ai rfl Mm rfl ?_
 have l0:=ap 1 0 B rfl rfl
 simp only[c57,sA,sB,seval,l0]
 refine (kM 3 S W hk).mono ?_
 rintro v H' h
 simp only[sA,sB,seval]
 exact h
theorem BL(S:fy F H rb mb ps vm vb vu)(W:nT rb mb H vl ws)(hk:ps.1.ms.length<=64):an Tryz.prog aE 58 [ak rb 22 0,vl] H (gu F H rb mb ps.2 (cQ 3 ps.1 ws)):=by
 refine ai rfl Ml rfl ?_
 obtain⟨wb,hw,w1,w2,w3⟩:=W.wk
 have ll:=hw.wl.len
 obtain⟨H1,m1,r1,n1,k1⟩:=aP H [.int .u8 0,.int .i64 0,.int .i64 0,.int .i64 0,.str [],.str []] (n:=6) rfl
 obtain⟨H2,m2,r2,n2,k2⟩:=bA (n:=6) r1 rfl (xs:=jh ⟨4,⟨0,0,0⟩,[],[]⟩) rfl rfl
 have e2:bw H.next H H2:=⟨om,fun c hc=>by rw[k2 c om,k1 c om]⟩
 have bd:bQ [.int .u8 0,.int .i64 0,.int .i64 0,.int .i64 0,.str [],.str []] [(0,1,.int .u8 4)]=some (.agg (jh ⟨4,⟨0,0,0⟩,[],[]⟩)):=rfl
 have gX:∀{K:ae} (m:Mt),bw H.next H K->m.sh.length<=1000000->m.tx.length<=1000000->an Tryz.prog aE 79 [ak rb 22 0,.agg (jh m)] K (gu F H rb mb ps.2 (l9 ps.1 m)):=fun m e h1 h2=>
  (wG (S.ext e) m h1 h2 hk).mono fun v H' h=>⟨(dc S e).trans h.1,h.2⟩
 have hw2:=(hw.same (e2.old wb w1)).wl
 rcases ws with _ | ⟨a,_ | ⟨b,_ | ⟨c,r⟩⟩⟩
 ·have c1:((List.length ([]:List Bs):Nat):Int)=0:=rfl
  have lx:=aW 6 0 6 r2 rfl (xs:=jh ⟨4,⟨0,0,0⟩,[],[]⟩) om rfl
  simp only[KY,sA,sB,seval,bd,m1,m2,ll,c1,lx]
  refine (gX ⟨4,⟨0,0,0⟩,[],[]⟩ e2 (by simp) (by simp)).mono ?_
  rintro v H' h
  simp only[sA,sB,seval]
  exact h
 ·have c1:((List.length [a]:Nat):Int)=1:=rfl
  have ix:=hw2.idx (i:=0) (by simp)
  have lx:=hw2.load1 (dB (l:=[a]) (i:=0) rfl)
  simp only[Int.cast_ofNat_Int]at ix
  simp only[KY,sA,sB,seval,bd,m1,m2,ll,c1,ix,lx]
  refine (ov (by have:=W.len a (by simp); omega)).mono ?_
  rintro _ _ ⟨rfl,rfl⟩
  obtain⟨H3,m3,r3,n3,k3⟩:=bj r2 rfl (i:=4) (n:=6) om (x:=.str a) rfl
  have e3:bw H.next H H3:=⟨om,fun c hc=>by rw[k3 c om,e2.old c hc]⟩
  have lx3:=aW 6 0 6 r3 rfl (xs:=jh ⟨4,⟨0,0,0⟩,a,[]⟩) om rfl
  simp only[sA,sB,seval,aF,m3,lx3]
  refine (gX ⟨4,⟨0,0,0⟩,a,[]⟩ e3 (W.len a (by simp)) (by simp)).mono ?_
  rintro v H' h
  simp only[sA,sB,seval]
  exact h
 ·have c1:((List.length [a,b]:Nat):Int)=2:=rfl
  have ix:=hw2.idx (i:=0) (by simp)
  have lx:=hw2.load1 (dB (l:=[a,b]) (i:=0) rfl)
  have ix1:=hw2.idx (i:=1) (by simp)
  have lx1:=hw2.load1 (dB (l:=[a,b]) (i:=1) rfl)
  simp only[Int.cast_ofNat_Int]at ix ix1
  simp only[KY,sA,sB,seval,bd,m1,m2,ll,c1]
  refine eG rfl ?_
  simp only[sR,sA,sB,seval,ix,lx]
  refine (ov (by have:=W.len a (by simp); omega)).mono ?_
  rintro _ _ ⟨rfl,rfl⟩
  simp only[sR,sA,sB,seval,ix1,lx1]
  refine (ov (by have:=W.len b (by simp); omega)).mono ?_
  rintro _ _ ⟨rfl,rfl⟩
  obtain⟨H3,m3,r3,n3,k3⟩:=bj r2 rfl (i:=4) (n:=6) om (x:=.str a) rfl
  obtain⟨H4,m4,r4,n4,k4⟩:=bj r3 rfl (i:=5) (n:=6) om (x:=.str b) rfl
  have e4:bw H.next H H4:=⟨om,fun c hc=>by rw[k4 c om,k3 c om,e2.old c hc]⟩
  have lx4:=aW 6 0 6 r4 rfl (xs:=jh ⟨4,⟨0,0,0⟩,a,b⟩) om rfl
  simp only[sR,sA,sB,seval,aF,m3,m4]
  simp only[fK,fL,eF,fM,iV,and_true,true_and,List.map_cons,List.map_nil,sA,sB,seval,ix1]
  refine⟨⟨_,rfl,fun _=>⟨_,lx1,by simp[aeq]⟩⟩,?_⟩
  simp only[sA,sB,seval,lx4]
  refine (gX ⟨4,⟨0,0,0⟩,a,b⟩ e4 (W.len a (by simp)) (W.len b (by simp))).mono ?_
  rintro v H' h
  simp only[sA,sB,seval]
  exact h
 ·have c1:¬((List.length (a::b::c::r):Nat):Int)=1:=by simp only[ND]; omega
  have c2:¬((List.length (a::b::c::r):Nat):Int)=2:=by simp only[ND]; omega
  have lx:=aW 6 0 6 r2 rfl (xs:=jh ⟨4,⟨0,0,0⟩,[],[]⟩) om rfl
  simp only[KY,sA,sB,seval,bd,m1,m2,ll,c1,c2,lx]
  refine (gX ⟨4,⟨0,0,0⟩,[],[]⟩ e2 (by simp) (by simp)).mono ?_
  rintro v H' h
  simp only[sA,sB,seval]
  exact h
end
open Go.Abs Go.Abs.S
section
variable {F:Nat->Prop} {H:ae} {rb mb sb:Nat} {ps:PS} {vm vb vu vl:af} {ws:List Bs}
theorem Cj(h:ws.length≠5):lZ ws=none:=by
 unfold lZ
 split
 ·exact absurd rfl h
 ·rfl
theorem CK(h:ws.length≠5):ux ws=none:=by
 unfold ux
 split
 ·exact absurd rfl h
 ·rfl
theorem KQ(h:ws.length=5):∃a b c d e,ws=[a,b,c,d,e]:=by
 rcases ws with _ | ⟨a,_ | ⟨b,_ | ⟨c,_ | ⟨d,_ | ⟨e,_ | ⟨g,r⟩⟩⟩⟩⟩⟩ <;> simp at h
 exact⟨a,b,c,d,e,rfl⟩
theorem Ln{a b c d:Bs}{ns:List Int}(h:eH fX [a,b,c,d]=some ns):∃v:Vc,∃r,ns=[v.x,v.y,v.z,r]/\iG [a,b,c]=some v/\fX d=some r:=by
 simp only[eH]at h
 split at h <;> first | (simp at h; done) | skip
 rename_i x hx
 split at h <;> first | (simp at h; done) | skip
 rename_i y hy
 split at h <;> first | (simp at h; done) | skip
 rename_i z hz
 split at h <;> first | (simp at h; done) | skip
 rename_i r hr
 simp only[Option.map_some,sJ]at h
 subst h
 exact⟨⟨x,y,z⟩,r,rfl,by simp only[iG,hx,hy,hz],hr⟩
theorem FC{a b c d e:Bs}(h:eH fX [a,b,c,d]=none):lZ [a,b,c,d,e]=none:=by
 simp only[eH]at h
 simp only[lZ,iG]
 cases hx:fX a with
 | none=>rfl
 | some x=>
  cases hy:fX b with
  | none=>rfl
  | some y=>
   cases hz:fX c with
   | none=>rfl
   | some z=>
    cases hr:fX d with
    | none=>rfl
    | some r=>simp[hx,hy,hz,hr]at h
set_option maxRecDepth 20000 in
theorem BK(S:fy F H rb mb ps vm vb vu)(W:nT rb mb H vl ws)(hk:ps.1.bs.length<=256):an Tryz.prog aE 59 [ak rb 22 0,vl] H (gu F H rb mb ps.2 (cQ 4 ps.1 ws)):=by
 refine ai rfl Mk rfl ?_
 obtain⟨wb,hw,w1,w2,w3⟩:=W.wk
 have ll:=hw.wl.len
 by_cases h5:ws.length=5
 rotate_left
 ·have c1:¬(ws.length:Int)=5:=om
  simp only[Ni,sA,sB,seval,ll,c1]
  exact⟨Fx.refl _ _,.inr ⟨by simp only[cQ,Cj h5,Option.bind_none],tt⟩⟩
 have c1:(ws.length:Int)=5:=om
 obtain⟨v4,s4,k4⟩:=hw.sub (lo:=0) (hi:=4) (lo':=none) (hi':=some (.int .i64 ((4:Nat):Int))) om om (fun k c e1 e2=>Fb om)
 simp only[Int.cast_ofNat_Int]at s4
 obtain⟨H1,m1,r1,n1,k1⟩:=aP H [.int .i64 0,.int .i64 0,.int .i64 0,.int .i64 0,.int .i64 0] (n:=5) rfl
 have e1:=dJ n1 k1
 simp only[Ni,sA,sB,seval,ll,c1,m1,aF,s4,aG,Hk]
 have f0:=lR H.next H1 (.cells [ak H.next 5 0,ak H.next 5 1,ak H.next 5 2,ak H.next 5 3] 0 false)
 have ht:=lB (H:=H1) (b:=H.next) (n:=5) (o:=0) (k:=4) [ak H.next 5 0,ak H.next 5 1,ak H.next 5 2,ak H.next 5 3] rfl
 have hw1:=hw.same (e1.old wb w1)
 refine (iM (Q:=(·=H1.next)) (((k4.same (e1.old wb w1)).same (f0.old wb om om)).wl) (fun c hc=>by subst hc; exact⟨by rw[aN]; omega,om⟩) ht (fun c hc=>⟨by rw[aN]; omega,om⟩) (r1.same (aS om)) rfl om
  (fun w hw=>W.big w (List.mem_of_mem_drop (List.mem_of_mem_take hw))) (by rw[aN]; omega) om).mono ?_
 rintro v H2 ⟨f,C',r2,hC',h⟩
 have f2:=f0.trans f
 have e2:bw H.next H H2:=⟨by have:=f2.next; omega,fun c hc=>by rw[f2.old c om om,e1.old c hc]⟩
 obtain⟨a,b,c,d,e,rfl⟩:=KQ h5
 have hs4:(List.drop 0 [a,b,c,d,e]).take (4-0)=[a,b,c,d]:=rfl
 rw[hs4]at h
 rcases h with⟨rfl,_,ns,h2,rfl⟩ | ⟨rfl,h1⟩
 rotate_left
 ·simp only[sA,sB,seval]
  exact⟨dc S e2,.inr ⟨by simp only[cQ,FC (h1 rfl),Option.bind_none],tt⟩⟩
 obtain⟨x,y,rfl,hv,hr⟩:=Ln h2
 have hw2:=(hw.same (e2.old wb w1)).wl
 have ix:=hw2.idx (i:=4) (by simp)
 have lx:=hw2.load1 (dB (l:=[a,b,c,d,e]) (i:=4) rfl)
 simp only[Int.cast_ofNat_Int]at ix
 simp only[sA,sB,seval,ix,lx,aF]
 refine (pi (b:=H.next) (n:=5) (o:=4) r2 rfl om (W.big e (by simp))).mono ?_
 rintro v H3 ⟨f3,C3,r3,hC3,h3⟩
 have e3:bw H.next H H3:=⟨by have:=f3.next; have:=e2.next; omega,fun c hc=>by rw[f3.old c (by have:=e2.next; omega) om,e2.old c hc]⟩
 rcases h3 with⟨z,hz,rfl,rfl⟩ | ⟨hz,rfl⟩
 rotate_left
 ·simp only[sA,sB,seval]
  exact⟨dc S e3,.inr ⟨by simp only[cQ,lZ,hv,hr,hz,Option.bind_none],tt⟩⟩
 have hb:lZ [a,b,c,d,e]=some ⟨x,y,z⟩:=by simp only[lZ,hv,hr,hz]
 have S3:=S.ext e3
 obtain⟨v',H4,H5,a1,a2,S5,f5,old⟩:=S3.growB (x:=⟨x,y,z⟩) om
 have lv:bg false 1 H3 (ak rb 22 19)=some vb:=ap 22 19 S3.row S3.len rfl
 have lvP:bg false 1 (H3.push (.cells (rB ⟨x,y,z⟩) 0 false)) (ak rb 22 19)=some vb:=ap 22 19 (S3.row.same (aS S3.rn)) S3.len rfl
 have l5:=aW 5 0 5 r3 rfl (xs:=rB ⟨x,y,z⟩) om rfl
 have bm:=p7 (m:=5) (z:=[.int .i64 0,.int .i64 0,.int .i64 0,.int .i64 0,.int .i64 0]) (xs:=rB ⟨x,y,z⟩) H3 rfl rfl
 have hae:aeq vb vb=true:=(gY.app S3.ab (P:=fun _=>True) (fun _ _ _ _=>trivial)).aeq
 simp only[sA,sB,seval]
 refine eG rfl ?_
 simp only[sR,sA,sB,seval,aG,aF,lv,l5,bm,a1,a2]
 simp only[fK,fL,eF,fM,iV,and_true,true_and,List.map_cons,List.map_nil,sA,sB,seval,aF]
 refine⟨⟨_,rfl,fun _=>⟨_,lvP,hae⟩⟩,?_⟩
 have r5:Row H5 H.next (rB ⟨x,y,z⟩):=r3.same (old H.next (by have:=e3.next; have:=e2.next; have:=f2.next; have:=f3.next; omega) (by have:=S.rn; omega) (S.ab.blk'.mono fun c hc=>om))
 have lx5:=aW 5 0 5 r5 rfl (xs:=rB ⟨x,y,z⟩) om rfl
 simp only[sA,sB,seval,lx5]
 refine (uS (b:=⟨x,y,z⟩)).mono ?_
 rintro _ H6 ⟨rfl,e6⟩
 have S6:=S5.ext e6
 have fx:Fx F H H6:=(dc S e3).trans (f5.trans (dc S5 e6))
 have l6:bg false 1 H6 (ak rb 22 19)=some v':=ap 22 19 S6.row S6.len rfl
 have ln:=S6.ab.len
 simp only[lA,ND,NE]at ln
 cases hm:mz ⟨x,y,z⟩ with
 | false=>
  simp only[sA,sB,seval]
  exact⟨fx,.inr ⟨by simp[cQ,hb,hm],tt⟩⟩
 | true=>
  by_cases hl:ps.1.bs.length+1<=256
  ·have hl':((ps.1.bs.length+(0+1):Nat):Int)<=256:=om
   simp only[sA,sB,seval,aG,aF,l6,ln,hl']
   exact⟨fx,.inl ⟨_,vm,v',vu,by simp only[cQ,hb,Option.bind_some]; rw[if_pos ⟨hm,hl⟩],tt,S6⟩⟩
  ·have hl':¬((ps.1.bs.length+(0+1):Nat):Int)<=256:=om
   simp only[sA,sB,seval,aG,aF,l6,ln,hl']
   exact⟨fx,.inr ⟨by simp only[cQ,hb,Option.bind_some]; rw[if_neg (fun h=>hl h.2)],tt⟩⟩
set_option maxRecDepth 20000 in
theorem BJ(S:fy F H rb mb ps vm vb vu)(W:nT rb mb H vl ws)(hk:ps.1.us.length<=16):an Tryz.prog aE 60 [ak rb 22 0,vl] H (gu F H rb mb ps.2 (cQ 5 ps.1 ws)):=by
 refine ai rfl Mj rfl ?_
 obtain⟨wb,hw,w1,w2,w3⟩:=W.wk
 have ll:=hw.wl.len
 by_cases h5:ws.length=5
 rotate_left
 ·have c1:¬(ws.length:Int)=5:=om
  simp only[Nh,sA,sB,seval,ll,c1]
  exact⟨Fx.refl _ _,.inr ⟨by simp only[cQ,CK h5,Option.bind_none],tt⟩⟩
 have c1:(ws.length:Int)=5:=om
 obtain⟨v4,s4,k4⟩:=hw.sub (lo:=1) (hi:=4) (lo':=some (.int .i64 ((1:Nat):Int))) (hi':=some (.int .i64 ((4:Nat):Int))) om om (fun k c e1 e2=>wf om om)
 simp only[Int.cast_ofNat_Int]at s4
 obtain⟨a,b,c,d,e,rfl⟩:=KQ h5
 have i0:=hw.wl.idx (i:=0) (by simp)
 have l0:=hw.wl.load1 (dB (l:=[a,b,c,d,e]) (i:=0) rfl)
 simp only[Int.cast_ofNat_Int]at i0
 simp only[Nh,sA,sB,seval,ll,c1,i0,l0]
 refine (ov (by have:=W.len a (by simp); omega)).mono ?_
 rintro _ _ ⟨rfl,rfl⟩
 obtain⟨H1,m1,r1,n1,k1⟩:=aP H [.str [],.int .i64 0,.int .i64 0,.int .i64 0,.int .i64 0] (n:=5) rfl
 obtain⟨H1',m1',r1',n1',k1'⟩:=bA (n:=5) r1 rfl (xs:=wR ⟨a,⟨0,0,0⟩,0⟩) rfl rfl
 have e1:bw H.next H H1':=⟨om,fun c hc=>by rw[k1' c om,k1 c om]⟩
 have bd:bQ [.str [],.int .i64 0,.int .i64 0,.int .i64 0,.int .i64 0] [(0,1,.str a)]=some (.agg (wR ⟨a,⟨0,0,0⟩,0⟩)):=rfl
 simp only[sA,sB,seval,bd,m1,m1',aF,s4]
 refine (oN (b:=H.next) (n:=5) (o:=1) ((k4.same (e1.old wb w1)).wl) (fun c hc=>by subst hc; exact⟨om,om⟩) r1' rfl om (fun w hw=>W.big w (List.mem_of_mem_drop (List.mem_of_mem_take hw))) om).mono ?_
 rintro v H2 ⟨f2,C',r2,hC',h⟩
 have e2:bw H.next H H2:=⟨by have:=f2.next; omega,fun c hc=>by rw[f2.old c om om,e1.old c hc]⟩
 have hs4:(List.drop 1 [a,b,c,d,e]).take (4-1)=[b,c,d]:=rfl
 rw[hs4]at h
 rcases h with⟨x,hv,rfl,rfl⟩ | ⟨hv,rfl⟩
 rotate_left
 ·simp only[sA,sB,seval]
  exact⟨dc S e2,.inr ⟨by simp only[cQ,ux,hv,Option.bind_none],tt⟩⟩
 have hw2:=(hw.same (e2.old wb w1)).wl
 have ix:=hw2.idx (i:=4) (by simp)
 have lx:=hw2.load1 (dB (l:=[a,b,c,d,e]) (i:=4) rfl)
 simp only[Int.cast_ofNat_Int]at ix
 simp only[sA,sB,seval,ix,lx,aF]
 refine (pi (b:=H.next) (n:=5) (o:=4) r2 rfl om (W.big e (by simp))).mono ?_
 rintro v H3 ⟨f3,C3,r3,hC3,h3⟩
 have e3:bw H.next H H3:=⟨by have:=f3.next; have:=e2.next; omega,fun c hc=>by rw[f3.old c (by have:=e2.next; omega) om,e2.old c hc]⟩
 rcases h3 with⟨z,hz,rfl,rfl⟩ | ⟨hz,rfl⟩
 rotate_left
 ·simp only[sA,sB,seval]
  exact⟨dc S e3,.inr ⟨by simp only[cQ,ux,hv,hz,Option.bind_none],tt⟩⟩
 have hb:ux [a,b,c,d,e]=some ⟨a,x,z⟩:=by simp only[ux,hv,hz]
 have S3:=S.ext e3
 obtain⟨v',H4,H5,a1,a2,S5,f5,old⟩:=S3.growU (x:=⟨a,x,z⟩) om
 have lv:bg false 1 H3 (ak rb 22 20)=some vu:=ap 22 20 S3.row S3.len rfl
 have lvP:bg false 1 (H3.push (.cells (wR ⟨a,x,z⟩) 0 false)) (ak rb 22 20)=some vu:=ap 22 20 (S3.row.same (aS S3.rn)) S3.len rfl
 have l5:=aW 5 0 5 r3 rfl (xs:=wR ⟨a,x,z⟩) om rfl
 have bm:=p7 (m:=5) (z:=[.str [],.int .i64 0,.int .i64 0,.int .i64 0,.int .i64 0]) (xs:=wR ⟨a,x,z⟩) H3 rfl rfl
 have hae:aeq vu vu=true:=(gY.app S3.au (P:=fun _=>True) (fun _ _ _ _=>trivial)).aeq
 simp only[sA,sB,seval]
 refine eG rfl ?_
 simp only[sR,sA,sB,seval,aG,aF,lv,l5,bm,a1,a2]
 simp only[fK,fL,eF,fM,iV,and_true,true_and,List.map_cons,List.map_nil,sA,sB,seval,aF]
 refine⟨⟨_,rfl,fun _=>⟨_,lvP,hae⟩⟩,?_⟩
 have r5:Row H5 H.next (wR ⟨a,x,z⟩):=r3.same (old H.next (by have:=e3.next; have:=e2.next; have:=f2.next; have:=f3.next; omega) (by have:=S.rn; omega) (S.au.blk'.mono fun c hc=>om))
 have lx5:=ap 5 0 r5 rfl rfl
 have ly5:=aW 5 1 3 r5 rfl (xs:=gp x) om rfl
 have fx5:Fx F H H5:=(dc S e3).trans f5
 simp only[sA,sB,seval,aF,lx5]
 refine jX.mono ?_
 rintro _ _ ⟨rfl,rfl⟩
 cases hn:fg a with
 | false=>
  simp only[sA,sB,seval]
  exact⟨fx5,.inr ⟨by simp[cQ,hb,jm,hn],tt⟩⟩
 | true=>
  simp only[sA,sB,seval,aF,ly5]
  refine (eB (v:=x)).mono ?_
  rintro _ H6 ⟨rfl,e6⟩
  have S6:=S5.ext e6
  have fx:Fx F H H6:=fx5.trans (dc S5 e6)
  have l6:bg false 1 H6 (ak rb 22 20)=some v':=ap 22 20 S6.row S6.len rfl
  have ln:=S6.au.len
  simp only[lA,ND,NE]at ln
  cases hm:gT x with
  | false=>
   simp only[sA,sB,seval]
   exact⟨fx,.inr ⟨by simp[cQ,hb,jm,hm],tt⟩⟩
  | true=>
   by_cases hl:ps.1.us.length+1<=16
   ·have hl':((ps.1.us.length+(0+1):Nat):Int)<=16:=om
    simp only[sA,sB,seval,aG,aF,l6,ln,hl']
    exact⟨fx,.inl ⟨_,vm,vb,v',by simp only[cQ,hb,Option.bind_some]; rw[if_pos ⟨by simp only[jm,hn,hm,Bool.and_self],hl⟩],tt,S6⟩⟩
   ·have hl':¬((ps.1.us.length+(0+1):Nat):Int)<=16:=om
    simp only[sA,sB,seval,aG,aF,l6,ln,hl']
    exact⟨fx,.inr ⟨by simp only[cQ,hb,Option.bind_some]; rw[if_neg (fun h=>hl h.2)],tt⟩⟩
end
open Go.Abs Go.Abs.S
def J8(F:Nat->Prop)(H:ae)(rb mb:Nat)(o:Option PS)(v:af)(H':ae):Prop:=
 Fx F H H'/\((∃ps vm vb vu,o=some ps/\v=.bool true/\fy F H' rb mb ps vm vb vu)∨(o=none/\v=.bool false))
section
variable {F:Nat->Prop} {H:ae} {rb mb sb:Nat} {ps:PS} {vm vb vu vl:af} {ws:List Bs}
theorem GA{seen:List Nat}{o:Option Sc}{v:af}{H':ae}(h:gu F H rb mb seen o v H'):J8 F H rb mb (o.map fun c=>(c,seen)) v H':=by
 refine⟨h.1,?_⟩
 rcases h.2 with⟨s,vm,vb,vu,rfl,rfl,S⟩ | ⟨rfl,rfl⟩
 ·exact .inl ⟨(s,seen),vm,vb,vu,rfl,rfl,S⟩
 ·exact .inr ⟨rfl,rfl⟩
def CN:Nat->FuncId
 | 0=>40
 | 1=>42
 | 2=>43
 | 3=>44
 | 4=>46
 | 5=>48
 | 6=>49
 | 7=>50
 | _=>52
theorem Ge{i:Nat}(hi:i<9)(S:fy F H rb mb ps vm vb vu)(W:nT rb mb H vl ws)(B:Row H sb [ak rb 22 0])(hsb:sb<H.next/\sb≠rb):an Tryz.prog aE (CN i) [vl,ak sb 1 0] H (gu F H rb mb ps.2 (cS i ps.1 ws)):=by
 rcases i with _ | _ | _ | _ | _ | _ | _ | _ | _ | i
 ·exact CX S W B
 ·exact CW S W B
 ·exact CV S W B
 ·exact CU S W B
 ·exact CT S W B hsb
 ·exact CR S W B hsb
 ·exact CQ S W B hsb
 ·exact CP S W B hsb
 ·exact CO S W B hsb
 ·omega
theorem pt{m:Nat}{es:List fP}{n:Nat}{k:Bs}{ok:Bool}{z:af}(hg:H.get m=some (.map es n)){j:Nat}{e:fP}(hf:bR .str (.str k) es 0=some (some (j,e))):me (.mLook .str ok z) H [.map (some m),.str k]=some (lN ok e.2.1 true,H):=by
 simp only[me,qr,hg,ug,qL,cond_true,hf]
theorem tF{m:Nat}{es:List fP}{n:Nat}{k:Bs}{ok:Bool}{z:af}(hg:H.get m=some (.map es n))(hf:bR .str (.str k) es 0=some none):me (.mLook .str ok z) H [.map (some m),.str k]=some (lN ok z false,H):=by
 simp only[me,qr,hg,ug,qL,cond_true,hf]
theorem Gd{m:Nat}{es:List fP}{n:Nat}{k:Bs}{v:af}(hg:H.get m=some (.map es n)){j:Nat}{e:fP}(hf:bR .str (.str k) es 0=some (some (j,e))) :
  ∃H',me (.mf (.upd .str)) H [.map (some m),.str k,v]=some (.tuple [],H')/\H'.next=H.next/\H'.get m=some (.map (jA es j (.str k,v,e.2.2)) n)/\∀b,b≠m->H'.get b=H.get b:=
 ⟨H.set m (.map (jA es j (.str k,v,e.2.2)) n),by simp only[me,FY,hg,JY,qL,cond_true,hf],rfl,by rw[ae.get_set,if_pos rfl],fun b hb=>by rw[ae.get_set,if_neg hb]⟩
theorem fy.see(S:fy F H rb mb ps vm vb vu){H':ae}(hn:H'.next=H.next)(k:∀b,b≠mb->H'.get b=H.get b){l:List Nat}(h:∃es n,H'.get mb=some (.map es n)/\qv es l):fy F H' rb mb (ps.1,l) vm vb vu:=by
 have keep:∀{v:af},dP v (fun c=>¬F c/\c≠rb/\c≠mb)->dP v fun c=>H'.get c=H.get c:=fun h=>h.mono fun c hc=>k c hc.2.2
 exact⟨S.row.same (k rb S.ne),S.am.same om (keep S.fm),S.ab.same om (keep S.fb),S.au.same om (keep S.fu),S.fm,S.fb,S.fu,S.d1,S.d2,S.d3,by rw[hn]; exact S.rn,by rw[hn]; exact S.mn,S.ne,S.nr,S.nm,fun c hc=>by rw[hn]; exact S.fn c hc,h⟩
theorem Bw{es:List fP}{l:List Nat}{i n:Nat}(h:qv es l)(hi:i<9):qv (es++[(.str (eK i),.int .i64 1,n)]) (i::l):=by
 refine⟨fun e he=>?_,fun j hj=>?_⟩
 ·rcases List.mem_append.1 he with he | he
  ·obtain⟨j,a,b,c,d⟩:=h.mem e he
   exact⟨j,a,b,by simp[c],d⟩
  ·rw[List.mem_singleton.1 he]
   exact⟨i,hi,rfl,by simp,rfl⟩
 ·rcases List.mem_cons.1 hj with rfl | hj
  ·exact⟨_,by simp; exact .inr rfl,rfl⟩
  ·obtain⟨e,a,b⟩:=h.has j hj
   exact⟨e,by simp[a],b⟩
theorem mr{es:List fP}{l:List Nat}(h:qv es l):∀e∈es,∃s,e.1=.str s:=fun e he=>by obtain⟨i,_,q,_⟩:=h.mem e he; exact⟨_,q⟩
theorem Bg{i pb nb db:Nat}(hi:i<9)(S:fy F H rb mb ps vm vb vu)(W:nT rb mb H vl ws)(B:Row H sb [ak rb 22 0])(P:Row H pb [ak rb 22 0])(Nm:Row H nb [.str (eK i)])(D:Row H db [.func (.func (CN i)) [] [ak sb 1 0]])
  (fs:F sb) (fp:F pb) (fn:F nb) (fd:F db):an Tryz.prog aE 53 [vl,ak pb 1 0,ak nb 1 0,ak db 1 0] H (J8 F H rb mb (if i∈ps.2 then none else (cS i ps.1 ws).map fun c=>(c,i::ps.2))):=by
 refine ai rfl Mq rfl ?_
 have ne:∀{c},F c->c≠mb:=fun h e=>S.nm (e ▸ h)
 have nr:∀{c},F c->c≠rb:=fun h e=>S.nr (e ▸ h)
 have l0:=ap 1 0 P rfl rfl
 have l1:=ap 1 0 Nm rfl rfl
 have l2:bg false 1 H (ak rb 22 21)=some (.map (some mb)):=ap 22 21 S.row S.len rfl
 obtain⟨es,n,hg,hs⟩:=S.seen
 rcases jY (eK i) es 0 (mr hs) with⟨j,e,h1,h2,h3,h4⟩ | ⟨h1,h2⟩
 ·obtain⟨i',a1,a2,a3,a4⟩:=hs.mem e h1
  have:i'=i:=CL a1 hi (by rw[h2]at a2; simpa using a2.symm)
  subst this
  rw[if_pos a3]
  have e1:=pt (ok:=false) (z:=.int .i64 0) hg h3
  obtain⟨H1,m1,n1,g1,k1⟩:=Gd (v:=.int .i64 2) hg h3
  have e2:=pt (ok:=false) (z:=.int .i64 0) g1 (by rw[Nat.zero_add]; exact h4 (.int .i64 2) e.2.2)
  have w:IntKind.i64.wrap 2=2:=by decide
  have r0:=ap 1 0 (P.same (k1 _ (ne fp))) rfl rfl
  have r1:=ap 1 0 (Nm.same (k1 _ (ne fn))) rfl rfl
  have r2:bg false 1 H1 (ak rb 22 21)=some (.map (some mb)):=ap 22 21 (S.row.same (k1 _ S.ne)) S.len rfl
  simp only[lN,cond_false,a4]at e1 e2
  simp only[Nj,sA,sB,seval,l0,aG,aF,l2,l1,e1,w,m1,r0,r1,r2,e2]
  exact⟨⟨om,fun c hc=>k1 c (ne hc)⟩,.inr ⟨tt,tt⟩⟩
 ·have hni:i∉ps.2:=fun hm=>by
   obtain⟨e,q1,q2⟩:=hs.has i hm
   exact h1 e q1 q2
  rw[if_neg hni]
  have e1:=tF (ok:=false) (z:=.int .i64 0) hg h2
  obtain⟨H1,m1,n1,g1,k1⟩:=cP (v:=.int .i64 1) hg h2
  have w:IntKind.i64.wrap 1=1:=by decide
  have hs1:=Bw (n:=n) hs hi
  have S1:=S.see n1 k1 ⟨_,_,g1,hs1⟩
  have hf:∃e,bR .str (.str (eK i)) (es++[(.str (eK i),.int .i64 1,n)]) 0=some (some e)/\e.2.2.1=.int .i64 1:=by
   rcases jY (eK i) _ 0 (mr hs1) with⟨j,e,q1,q2,q3,q4⟩ | ⟨q1,q2⟩
   ·obtain⟨_,_,_,_,a4⟩:=hs1.mem e q1
    exact⟨_,q3,a4⟩
   ·exact absurd rfl (q1 _ (by simp; exact .inr rfl))
  obtain⟨⟨j,e⟩,f1,f2⟩:=hf
  have e2:=pt (ok:=false) (z:=.int .i64 0) g1 f1
  have r0:=ap 1 0 (P.same (k1 _ (ne fp))) rfl rfl
  have r1:=ap 1 0 (Nm.same (k1 _ (ne fn))) rfl rfl
  have r2:bg false 1 H1 (ak rb 22 21)=some (.map (some mb)):=ap 22 21 S1.row S1.len rfl
  have rd:=ap 1 0 (D.same (k1 _ (ne fd))) rfl rfl
  simp only[lN,cond_false]at e1 e2
  simp only at f2
  rw[f2]at e2
  obtain⟨wb,hw,w1,w2,w3⟩:=W.wk
  have W1:nT rb mb H1 vl ws:=⟨⟨wb,hw.same (k1 wb w3),om,w2,w3⟩,W.len⟩
  have hg8:CN i<1024:=by
   rcases i with _ | _ | _ | _ | _ | _ | _ | _ | _ | i <;> first | decide | omega
  simp only[Nj,sA,sB,seval,l0,aG,aF,l2,l1,e1,w,m1,r0,r1,r2,e2,rd,hg8]
  refine (Ge hi S1 W1 (B.same (k1 _ (ne fs))) ⟨by rw[n1]; exact S.fn _ fs,nr fs⟩).mono ?_
  rintro v H2 ⟨f2,h⟩
  simp only[sA,sB,seval]
  refine⟨(⟨om,fun c hc=>k1 c (ne hc)⟩:Fx F H H1).trans f2,?_⟩
  rcases h with⟨s,vm,vb,vu,h,rfl,S2⟩ | ⟨h,rfl⟩
  ·exact .inl ⟨(s,i::ps.2),vm,vb,vu,by rw[h]; rfl,rfl,S2⟩
  ·exact .inr ⟨by rw[h]; rfl,rfl⟩
end
def DZ(a rp:af):Nat->af
 | 0=>.func (.func 54) [] [rp]
 | 1=>.func (.func 56) [] [rp]
 | 2=>.func (.func 57) [] [rp]
 | 3=>.func (.func 58) [a] []
 | 4=>.func (.func 59) [a] []
 | _=>.func (.func 60) [a] []
theorem FB(H:ae)(a:Ad)(k:Bs):(∃i,i<9/\dr.idxOf k=i/\k=eK i/\∃n,bR .str (.str k) (nS H a) 0=some (some (n,(.str k,Ca (H.next+3) 53 (mw H) i,i)))) ∨
  (∃j,j<6/\¬dr.idxOf k<9/\di.idxOf k=j/\∃n m,bR .str (.str k) (nS H a) 0=some (some (n,(.str k,DZ (.ptr (some a)) (mw H) j,m)))) ∨
  (¬dr.idxOf k<9/\¬di.idxOf k<6/\bR .str (.str k) (nS H a) 0=some none):=by
 have he:nS H a=(dr.zipIdx.map fun p=>((.str p.1,Ca (H.next+3) 53 (mw H) p.2,p.2):fP))++(di.zipIdx.map fun p=>((.str p.1,DZ (.ptr (some a)) (mw H) p.2,p.2+9):fP)):=rfl
 have hd:∀s t:Bs,s≠t->qC .str (.str s) (.str t)=some false:=fun s t h=>by simp[qC,h]
 have hs:∀s:Bs,qC .str (.str s) (.str s)=some true:=fun s=>by simp[qC]
 by_cases hu:k∈dr
 ·have:∀x∈dr,(∃i,i<9/\dr.idxOf x=i/\x=eK i/\∃n,bR .str (.str x) (nS H a) 0=some (some (n,(.str x,Ca (H.next+3) 53 (mw H) i,i)))):=by
   simp only[dr,List.forall_mem_cons]
   refine⟨⟨0,om,by decide,rfl,0,rfl⟩,⟨1,om,by decide,rfl,1,rfl⟩,⟨2,om,by decide,rfl,2,rfl⟩,⟨3,om,by decide,rfl,3,rfl⟩,⟨4,om,by decide,rfl,4,rfl⟩,⟨5,om,by decide,rfl,5,rfl⟩,⟨6,om,by decide,rfl,6,rfl⟩,⟨7,om,by decide,rfl,7,rfl⟩,⟨8,om,by decide,rfl,8,rfl⟩,by simp⟩
  exact .inl (this k hu)
 by_cases hl:k∈di
 ·have:∀x∈di,(∃j,j<6/\¬dr.idxOf x<9/\di.idxOf x=j/\∃n m,bR .str (.str x) (nS H a) 0=some (some (n,(.str x,DZ (.ptr (some a)) (mw H) j,m)))):=by
   simp only[di,List.forall_mem_cons]
   refine⟨⟨0,om,by decide,by decide,9,9,rfl⟩,⟨1,om,by decide,by decide,10,10,rfl⟩,⟨2,om,by decide,by decide,11,11,rfl⟩,⟨3,om,by decide,by decide,12,12,rfl⟩,⟨4,om,by decide,by decide,13,13,rfl⟩,⟨5,om,by decide,by decide,14,14,rfl⟩,by simp⟩
  exact .inr (.inl (this k hl))
 ·refine .inr (.inr ⟨?_,?_,?_⟩)
  ·have h1:dr.length=9:=rfl
   rw[<- h1]; exact fun h=>hu (List.idxOf_lt_length_iff.1 h)
  ·have h1:di.length=6:=rfl
   rw[<- h1]; exact fun h=>hl (List.idxOf_lt_length_iff.1 h)
  ·have key:∀(es:List fP) (n:Nat),(∀e∈es,∃s,e.1=.str s/\s≠k)->bR .str (.str k) es n=some none:=by
    intro es
    induction es with
    | nil=>intro n _; rfl
    | cons e r ih=>
     intro n h
     obtain⟨s,h1,h2⟩:=h e (by simp)
     simp only[bR,h1,hd k s (Ne.symm h2),ih (n+1) fun e he=>h e (by simp[he])]
   refine key _ _ fun e he=>?_
   rw[‹nS H a=_›]at he
   rcases List.mem_append.1 he with h | h
   ·obtain⟨p,hp,rfl⟩:=List.mem_map.1 h
    exact⟨p.1,rfl,fun e=>hu (e ▸ (List.fst_mem_of_mem_zipIdx hp))⟩
   ·obtain⟨p,hp,rfl⟩:=List.mem_map.1 h
    exact⟨p.1,rfl,fun e=>hl (e ▸ (List.fst_mem_of_mem_zipIdx hp))⟩
open Go.Abs Go.Abs.S
structure je(H G:ae)(rb:Nat):Prop where
 map:H.get (G.next+2)=some (.map (nS G ⟨rb,22,0⟩) 15)
 rp:Row H G.next [ak rb 22 0]
 sp:Row H (G.next+1) [ak rb 22 0]
 nm:∀i,i<9->Row H (G.next+3+2*i) [.str (eK i)]
 db:∀i,i<9->Row H (G.next+3+2*i+1) [.func (.func (CN i)) [] [ak (G.next+1) 1 0]]
theorem je.same{H H' G:ae}{rb:Nat}(h:je H G rb)(k:∀c,G.next<=c->c<G.next+21->H'.get c=H.get c):je H' G rb:=
 ⟨(k _ om om).trans h.map,h.rp.same (k _ om om),h.sp.same (k _ om om),fun i hi=>(h.nm i hi).same (k _ om om),fun i hi=>(h.db i hi).same (k _ om om)⟩
theorem Ik(sp:af):∀i,i<9->(ul sp)[i]?=some (eK i,.func (.func (CN i)) [] [sp]):=by
 intro i hi
 rcases i with _ | _ | _ | _ | _ | _ | _ | _ | _ | i
 all_goals first | rfl | omega
theorem xN{G:ae}{rb:Nat}:∃H',mH G [ak rb 22 0]=some (.map (some (G.next+2)),H')/\je H' G rb/\H'.next=G.next+21/\∀c,c<G.next->H'.get c=G.get c:=by
 have hpn:(ii G ⟨rb,22,0⟩).next=G.next+3:=rfl
 refine⟨_,rfl,⟨?_,?_,?_,fun i hi=>?_,fun i hi=>?_⟩,?_,fun c hc=>?_⟩
 ·rw[ae.get_set,if_pos rfl]
 ·refine⟨0,?_,Nat.zero_le _⟩
  rw[ae.get_set,if_neg om,eg _ _ (.inl (by rw[hpn]; omega))]
  unfold ii
  rw[ae.get_push,if_neg (by show G.next≠G.next+1+1; omega),ae.get_push,if_neg (by show G.next≠G.next+1; omega),ae.get_push,if_pos rfl]
  rfl
 ·refine⟨1,?_,Nat.le_refl _⟩
  rw[ae.get_set,if_neg om,eg _ _ (.inl (by rw[hpn]; omega))]
  unfold ii
  rw[ae.get_push,if_neg (by show G.next+1≠G.next+1+1; omega),ae.get_push,if_pos (by rfl)]
  rfl
 ·have:=(ly (ul (kX G)) (ii G ⟨rb,22,0⟩) (Ik (kX G) i hi)).1
  rw[hpn]at this
  exact⟨1,by rw[ae.get_set,if_neg om]; exact this,Nat.le_refl _⟩
 ·have:=(ly (ul (kX G)) (ii G ⟨rb,22,0⟩) (Ik (kX G) i hi)).2
  rw[hpn]at this
  exact⟨1,by rw[ae.get_set,if_neg om]; exact this,Nat.le_refl _⟩
 ·show (ig (ul (kX G)) (ii G ⟨rb,22,0⟩)).next=_
  rw[kC,hpn]; rfl
 ·rw[ae.get_set,if_neg om,eg _ _ (.inl (by rw[hpn]; omega))]
  unfold ii
  rw[ae.get_push,if_neg (by show c≠G.next+1+1; omega),ae.get_push,if_neg (by show c≠G.next+1; omega),ae.get_push,if_neg om]
section
variable {F:Nat->Prop} {H G:ae} {rb mb:Nat} {ps:PS} {vm vb vu vl:af} {l:List Bs}
theorem iW{f:FuncId}{a b args:List af}{K:af->ae->Prop}(hf:Nat.blt f bI=true)(h:an Tryz.prog aE f (a++args++b) H K):mR (an Tryz.prog aE) (.func (.func f) a b) args H K:=⟨f,a,b,rfl,hf,h⟩
theorem Hf(k:Bs)(S:fy F H rb mb ps vm vb vu)(I:Be ps)(L:je H G rb)(hF:∀c,G.next<=c->c<G.next+21->F c)(W:nT rb mb H vl l) :
  (∃n v m,bR .str (.str k) (nS G ⟨rb,22,0⟩) 0=some (some (n,(.str k,v,m)))/\∀K:af->ae->Prop,(∀v' H',J8 F H rb mb (um ps (k::l)) v' H'->K v' H')->mR (an Tryz.prog aE) v [vl] H K) ∨
  (bR .str (.str k) (nS G ⟨rb,22,0⟩) 0=some none/\um ps (k::l)=none):=by
 rcases FB G ⟨rb,22,0⟩ k with⟨i,hi,hx,rfl,n,hf⟩ | ⟨j,hj,hx,hy,n,m,hf⟩ | ⟨hx,hy,hf⟩
 ·refine .inl ⟨n,_,i,hf,fun K hK=>?_⟩
  have hd:um ps (eK i::l)=if i∈ps.2 then none else (cS i ps.1 l).map fun c=>(c,i::ps.2):=by
   simp only[um,hx,if_pos hi]
  refine iW dD ?_
  refine (Bg (sb:=G.next+1) (pb:=G.next) (nb:=G.next+3+2*i) (db:=G.next+3+2*i+1) hi S W L.sp L.rp (L.nm i hi) (L.db i hi) (hF _ om om) (hF _ om om) (hF _ om om) (hF _ om om)).mono fun v' H' h=>hK v' H' (by rw[hd]; exact h)
 ·have hd:um ps (k::l)=(cQ j ps.1 l).map fun c=>(c,ps.2):=by
   simp only[um,if_neg hx,hy,if_pos hj]
  refine .inl ⟨n,_,m,hf,fun K hK=>?_⟩
  have gX:∀{o:Option Sc} {v':af} {H':ae},o=cQ j ps.1 l->gu F H rb mb ps.2 o v' H'->K v' H':=fun e h=>hK _ _ (by rw[hd,<- e]; exact GA h)
  rcases j with _ | _ | _ | _ | _ | _ | j
  ·exact iW dD ((BO S W L.rp I.msl).mono fun v' H' h=>gX rfl h)
  ·exact iW dD ((BN S W L.rp I.msl).mono fun v' H' h=>gX rfl h)
  ·exact iW dD ((BM S W L.rp I.msl).mono fun v' H' h=>gX rfl h)
  ·exact iW dD ((BL S W I.msl).mono fun v' H' h=>gX rfl h)
  ·exact iW dD ((BK S W I.bsl).mono fun v' H' h=>gX rfl h)
  ·exact iW dD ((BJ S W I.usl).mono fun v' H' h=>gX rfl h)
  ·omega
 ·exact .inr ⟨hf,by simp only[um,if_neg hx,if_neg hy]⟩
end
open Go.Abs Go.Abs.S
def zS:Sc:=⟨0,0,0,0,0,⟨0,0,0⟩,⟨0,0,0⟩,⟨0,0,0⟩,0,⟨0,0,0⟩,[],[],[]⟩
abbrev nc:List af:=fH zS cj cj cj
def wM(o:Except Nw Sc)(H:ae)(v:af)(H':ae):Prop:=bw H.next H H'/\match o with
 | .ok s=>∃vm vb vu,v=.tuple [.agg (fH s vm vb vu),.agg (fJ 0 0)]/\jP (fun c=>H.next<=c/\c<H'.next) H' s vm vb vu
 | .error e=>v=.tuple [.agg nc,.agg (fJ e.1 e.2)]
theorem xz{H:ae}:an Tryz.prog aE 19 [] H fun v H'=>v=.agg (fH bY cj cj cj)/\bw H.next H H':=by
 refine ai rfl MT rfl ?_
 obtain⟨H1,m1,r1,n1,k1⟩:=aP H nc (n:=21) rfl
 obtain⟨H2,m2,r2,n2,k2⟩:=bA (n:=21) r1 rfl (xs:=fH bY cj cj cj) rfl rfl
 have e2:bw H.next H H2:=⟨om,fun c hc=>by rw[k2 c om,k1 c om]⟩
 have b1:bQ [.int .i64 0,.int .i64 0,.int .i64 0] [(2,1,.int .i64 (-17179869184))]=some (.agg (gp ⟨0,0,-17179869184⟩)):=rfl
 have b2:bQ [.int .i64 0,.int .i64 0,.int .i64 0] [(1,1,.int .i64 4294967296)]=some (.agg (gp ⟨0,4294967296,0⟩)):=rfl
 have b3:bQ nc [(2,1,.int .i64 1),(3,1,.int .i64 2),(5,3,.agg (gp ⟨0,0,-17179869184⟩)),(11,3,.agg (gp ⟨0,4294967296,0⟩)),(14,1,.int .i64 4294967296)]=some (.agg (fH bY cj cj cj)):=rfl
 have z21:[af.int .i64 0,.int .i64 0,.int .i64 0,.int .i64 0,.int .u64 0,.int .i64 0,.int .i64 0,.int .i64 0,.int .i64 0,.int .i64 0,.int .i64 0,.int .i64 0,.int .i64 0,.int .i64 0,.int .i64 0,.int .i64 0,.int .i64 0,.int .i64 0,.slice none 0 (.known 0),.slice none 0 (.known 0),.slice none 0 (.known 0)]=nc:=rfl
 have l2:=dH (n:=21) r2 rfl
 simp only[c19,sA,sB,seval,z21,m1,b1,b2,b3,m2]
 refine JA _ _ _ _ l2 ?_
 exact⟨rfl,e2⟩
theorem lX:bQ nc []=some (.agg nc):=rfl
theorem lS{T T':bK}{H:ae}{K:af->ae->Prop}(h:gX [.cell true 21 2,.cell true 2 3] K .ret T H)(e2:T' 2=T 2)(e3:T' 3=T 3):gX [.cell true 21 2,.cell true 2 3] K .ret T' H:=by
 simp only[gX,mi,e2,e3]at h ⊢; exact h
theorem Gl{l:List Bs}{i:Nat}{s:Bs}(h:l[i]?=some s):(bM l)[i]?=some (.str s):=dB h
theorem tN:∀(s cur:Bs) (M:Nat),cur.length+s.length<=M->∀w∈fl cur s,w.length<=M
 | [],cur,M,h,w,hw=>by
  simp only[fl]at hw
  split at hw
  ·simp at hw
  ·rw[List.mem_singleton.1 hw]; simpa using h
 | c::s,cur,M,h,w,hw=>by
  rw[fl]at hw
  simp only[ND]at h
  split at hw
  ·split at hw
   ·exact tN s [] M (by simp; omega) w hw
   ·rcases List.mem_cons.1 hw with rfl | hw
    ·omega
    ·exact tN s [] M (by simp; omega) w hw
  ·exact tN s (cur++[c]) M (by simp; omega) w hw
theorem xh:∀(s cur:Bs) (M:Nat),cur.length+s.length<=M->∀w∈sp cur s,w.length<=M
 | [],cur,M,h,w,hw=>by
  simp only[sp]at hw
  rw[List.mem_singleton.1 hw]; simpa using h
 | c::s,cur,M,h,w,hw=>by
  rw[sp]at hw
  simp only[ND]at h
  split at hw
  ·rcases List.mem_cons.1 hw with rfl | hw
   ·omega
   ·exact xh s [] M (by simp; omega) w hw
  ·exact xh s (cur++[c]) M (by simp; omega) w hw
set_option maxHeartbeats 1000000 in
set_option maxRecDepth 20000 in
theorem d7(t:Bs){H:ae}:an Tryz.prog aE 7 [.str t] H (wM (aX t) H):=by
 refine ai rfl za7 rfl ?_
 obtain⟨H1,m1,r1,n1,k1⟩:=aP H nc (n:=21) rfl
 obtain⟨H2,m2,r2,n2,k2⟩:=aP H1 (fJ 0 0) (n:=2) rfl
 have q1:Row H2 H.next nc:=r1.same (k2 _ om)
 rw[n1]at r2 m2
 have e2:bw H.next H H2:=⟨om,fun c hc=>by rw[k2 c om,k1 c om]⟩
 have fault:∀{T:bK} {K:ae} {e l:Nat},bw H.next H K->Row K H.next nc->Row K (H.next+1) (fJ 0 0)->T 2=ak H.next 21 0->T 3=ak (H.next+1) 2 0->H.next+1<K.next->aX t=.error (e,l) ->
   ∃K1 K2,bB 21 K (ak H.next 21 0) (.agg nc)=some K1/\bB 2 K1 (ak (H.next+1) 2 0) (.agg (fJ e l))=some K2/\gX [.cell true 21 2,.cell true 2 3] (wM (aX t) H) .ret T K2:=by
  intro T K e l x q a g2 g3 hn hp
  obtain⟨K1,a1,b1,c1,d1⟩:=bA (n:=21) q rfl (xs:=nc) rfl rfl
  obtain⟨K2,a2,b2,c2,d2⟩:=bA (n:=2) (a.same (d1 _ om)) rfl (xs:=fJ e l) rfl rfl
  refine⟨K1,K2,a1,a2,EC _ _ _ _ _ _ _ (by rw[g2]; exact dH (b1.same (d2 _ om)) rfl) (by rw[g3]; exact dH b2 rfl) ⟨⟨by have:=x.next; omega,fun c hc=>by rw[d2 c om,d1 c om,x.old c hc]⟩,?_⟩⟩
  rw[hp]
 have z21:[af.int .i64 0,.int .i64 0,.int .i64 0,.int .i64 0,.int .u64 0,.int .i64 0,.int .i64 0,.int .i64 0,.int .i64 0,.int .i64 0,.int .i64 0,.int .i64 0,.int .i64 0,.int .i64 0,.int .i64 0,.int .i64 0,.int .i64 0,.int .i64 0,.slice none 0 (.known 0),.slice none 0 (.known 0),.slice none 0 (.known 0)]=nc:=rfl
 have z2:[af.int .i64 0,.int .i64 0]=fJ 0 0:=rfl
 simp only[c7,sA,sB,seval,z21,z2,m1,m2]
 by_cases hlen:16384<t.length
 ·have hl':(16384:Int)<(t.length:Int):=om
  have bf:bQ (fJ 0 0) [(0,1,.int .i64 3)]=some (.agg (fJ 3 0)):=rfl
  have hp:aX t=.error (3,0):=by rw[aX,if_pos hlen]
  obtain⟨K1,K2,a1,a2,a3⟩:=fault (T:=up (up (up (up (up (up (up (qQ [.str t]) 2 (ak H.next 21 0)) 3 (ak (H.next+1) 2 0)) 11 (.str t)) 12 (.int .i64 (t.length:Int))) 13 (.bool true)) 14 (.agg nc)) 15 (.agg (fJ 3 0))) e2 q1 r2 (by simp only[sA,sB,seval]) (by simp only[sA,sB,seval]) om hp
  simp only[sA,sB,seval,hl',lX,bf,a1,a2]
  exact a3
 have hl':¬(16384:Int)<(t.length:Int):=om
 simp only[sA,sB,seval,hl']
 refine xz.mono ?_
 rintro _ H3 ⟨rfl,x3⟩
 have mm:me .mkMap H3 []=some (.map (some H3.next),H3.push (.map [] 0)):=rfl
 obtain⟨H4,h4⟩:∃K,K=H3.push (.map [] 0):=⟨_,rfl⟩
 have n4:H4.next=H3.next+1:=by rw[h4]; rfl
 have g4:H4.get H3.next=some (.map [] 0):=by rw[h4,ae.get_push,if_pos rfl]
 have k4:∀c,c≠H3.next->H4.get c=H3.get c:=fun c hc=>by rw[h4,ae.get_push,if_neg hc]
 rw[<- h4]at mm
 obtain⟨H5,m5,r5,n5,k5⟩:=aP H4 (fH bY cj cj cj++[.map (some H3.next)]) (n:=22) rfl
 have b22:bQ [af.int .i64 0,.int .i64 0,.int .i64 0,.int .i64 0,.int .u64 0,.int .i64 0,.int .i64 0,.int .i64 0,.int .i64 0,.int .i64 0,.int .i64 0,.int .i64 0,.int .i64 0,.int .i64 0,.int .i64 0,.int .i64 0,.int .i64 0,.int .i64 0,.slice none 0 (.known 0),.slice none 0 (.known 0),.slice none 0 (.known 0),.map none] [(0,21,.agg (fH bY cj cj cj)),(21,1,.map (some H3.next))]=some (.agg (fH bY cj cj cj++[.map (some H3.next)])):=rfl
 have ca:(af.agg (fH bY cj cj cj++[.map (some H3.next)])).cells=fH bY cj cj cj++[.map (some H3.next)]:=rfl
 simp only[sA,sB,seval,mm,b22,ca,m5]
 obtain⟨H6,l6,L6,n6,k6⟩:=xN (G:=H5) (rb:=H4.next)
 refine jd (v:=.map (some (H5.next+2))) (H':=H6) rfl (show mH H5 [ak H4.next 22 0]=_ from l6) ?_
 simp only[sA,sB,seval]
 refine (xf (s:=t) om).mono ?_
 rintro _ H7 ⟨⟨b7,rfl,r7,n7,n7'⟩,x7⟩
 obtain⟨Ls,hLs⟩:∃Ls,Ls=sp [] t:=⟨_,rfl⟩
 have x3n:=x3.next
 have x7n:=x7.next
 rw[<- hLs]at r7 ⊢
 have hLl:Ls.length<=16385:=by rw[hLs,tl]; have:=List.count_le_length (a:=(10:UInt8)) (l:=t); omega
 obtain⟨F,hF⟩:∃F:Nat->Prop,F=fun c=>c<H7.next/\c≠H4.next/\c≠H3.next:=⟨_,rfl⟩
 have Fof:∀{c},c<H7.next->c≠H4.next->c≠H3.next->F c:=fun a b c=>by rw[hF]; exact⟨a,b,c⟩
 have Fno:∀{c},¬F c->c≠H4.next->c≠H3.next->H7.next<=c:=fun h a b=>Nat.le_of_not_lt fun hc=>h (Fof hc a b)
 have old7:∀c,c<H.next->H7.get c=H.get c:=fun c hc=>by rw[x7.old c om,k6 c om,k5 c om,k4 c om,x3.old c om,e2.old c hc]
 have p1:Row H7 H.next nc:=q1.same (by rw[x7.old _ om,k6 _ om,k5 _ om,k4 _ om,x3.old _ om])
 have p2:Row H7 (H.next+1) (fJ 0 0):=r2.same (by rw[x7.old _ om,k6 _ om,k5 _ om,k4 _ om,x3.old _ om])
 have L7:je H7 H5 H4.next:=L6.same fun c h1 h2=>x7.old c om
 have S7:fy F H7 H4.next H3.next (bY,[]) cj cj cj:=by
  refine⟨r5.same (by rw[x7.old _ om,k6 _ om]),.nil _ _ _,.nil _ _ _,.nil _ _ _,oz _,oz _,oz _,tT _,tT _,tT _,om,om,om,by rw[hF]; simp,by rw[hF]; simp,fun c hc=>by rw[hF]at hc; exact hc.1,[],0,?_,⟨by simp,by simp⟩⟩
  rw[x7.old H3.next om,k6 H3.next om,k5 H3.next om]; exact g4
 have lnL:fD false (jU b7 Ls.length (.known Ls.length))=some (.int .i64 (Ls.length:Int)):=rfl
 have back:∀{K:ae},Fx F H7 K->bw H.next H K/\Row K H.next nc/\Row K (H.next+1) (fJ 0 0)/\je K H5 H4.next/\Row K b7 (bM Ls):=fun {K} f=>by
  refine⟨⟨by have:=f.next; omega,fun c hc=>by rw[f.old c (Fof om om om),old7 c hc]⟩,p1.same (f.old _ (Fof om om om)),p2.same (f.old _ (Fof om om om)),L7.same fun c h1 h2=>f.old _ (Fof om om om),r7.same (f.old _ (Fof om om om))⟩
 have pgo:∀n,Ah (bY,[]) 1 Ls=.error n->aX t=.error (130,n):=fun n h=>by rw[aX,if_neg hlen,<- hLs,h]
 simp only[sA,sB,seval,lnL]
 refine ft (fun (T:bK) K=>∃ps vm vb vu,Ah (bY,[]) 1 Ls=.ok ps/\Be ps/\fy F K H4.next H3.next ps vm vb vu/\Fx F H7 K/\T 2=ak H.next 21 0/\T 3=ak (H.next+1) 2 0/\T 4=ak H4.next 22 0) (bP _ _) ?_ ?_
 ·refine bL (fun m (T:bK) K=>∃(i:Nat) (ps:PS) (vm vb vu:af),m=Ls.length-i/\i<=Ls.length/\Ah (bY,[]) 1 Ls=Ah ps (1+i) (Ls.drop i)/\Be ps/\fy F K H4.next H3.next ps vm vb vu/\Fx F H7 K/\T 2=ak H.next 21 0/\T 3=ak (H.next+1) 2 0/\T 4=ak H4.next 22 0/\T 5=.map (some (H5.next+2))/\T 23=jU b7 Ls.length (.known Ls.length)/\T 24=.int .i64 (Ls.length:Int)/\T 25=.int .i64 (i:Int)) Ls.length
   ⟨0,(bY,[]),cj,cj,cj,om,om,rfl,KI,S7,Fx.refl _ _,by simp only[sA,sB,seval],by simp only[sA,sB,seval],by simp only[sA,sB,seval],by simp only[sA,sB,seval],by simp only[sA,sB,seval],by simp only[sA,sB,seval],by simp only[sA,sB,seval]⟩ ?_
  rintro m T K ⟨i,ps,vm,vb,vu,rfl,hi,hgo,I,S,f,g2,g3,g4',g5,g23,g24,g25⟩
  obtain⟨y1,y2,y3,y4,y5⟩:=back f
  have fn:=f.next
  by_cases hlt:i<Ls.length
  rotate_left
  ·have hlt':¬(i:Int)<(Ls.length:Int):=om
   simp only[sA,sB,seval,g24,g25,hlt']
   rw[List.drop_of_length_le om]at hgo
   exact⟨ps,vm,vb,vu,hgo,I,S,f,tt,tt,tt⟩
  have hlt':(i:Int)<(Ls.length:Int):=om
  obtain⟨ln,hln⟩:=aO hlt
  have hlnl:ln.length<=16384:=xh t [] 16384 (by simp; omega) ln (by rw[<- hLs]; exact NH hln)
  have w1:=cF i om
  rw[iu hln,Ah]at hgo
  have y5l:(bM Ls).length=Ls.length:=dS _
  simp only[sA,sB,seval,g23,g24,g25,hlt',li .i64 hlt,ib y5 y5l (Gl hln)]
  refine (vj om).mono ?_
  rintro _ K1 ⟨⟨wb,rfl,rw_,wn,wn'⟩,xw⟩
  obtain⟨ws,hws⟩:∃ws,ws=jl ln:=⟨_,rfl⟩
  rw[<- hws]at rw_ hgo ⊢
  have hwl:∀w∈ws,w.length<=1000000:=fun w hw=>by
   have h2:(ln.takeWhile mE).length<=ln.length:=(List.takeWhile_prefix mE).length_le
   have:=tN (ln.takeWhile mE) [] 16384 (by simp; omega) w (by rw[hws]at hw; exact hw)
   omega
  have lnW:fD false (jU wb ws.length (.known ws.length))=some (.int .i64 (ws.length:Int)):=rfl
  have S1:=S.ext xw
  have f1:Fx F H7 K1:=f.trans (dc S xw)
  rcases ws with _ | ⟨k,l⟩
  ·have c0:((List.length ([]:List Bs):Nat):Int)=0:=rfl
   simp only[um]at hgo
   simp only[sA,sB,seval,lnW,c0,g25,w1]
   exact⟨_,om,i+1,ps,vm,vb,vu,rfl,om,by rw[hgo,show 1+i+1=1+(i+1) by omega],I,S1,f1,g2,g3,g4',g5,tt,tt,tt⟩
  have c0:¬((List.length (k::l):Nat):Int)=0:=by simp only[ND]; omega
  have wk:WK wb K1 (jU wb (k::l).length (.known (k::l).length)) (k::l):=WK.row rw_ rfl
  have rl:(bM (k::l)).length=(k::l).length:=dS _
  have i0:gi 1 (jU wb (k::l).length (.known (k::l).length)) (.int .i64 0)=some (ak wb (k::l).length 0):=li .i64 (i:=0) (by simp)
  have l0:bg false 1 K1 (ak wb (k::l).length 0)=some (.str k):=ib rw_ rl rfl
  obtain⟨vl,sl,wl⟩:=wk.sub (lo:=1) (hi:=(k::l).length) (lo':=some (.int .i64 ((1:Nat):Int))) (hi':=none) (by simp) rL (fun a c e1 e2=>by subst e1; exact JS (by simp))
  simp only[Int.cast_ofNat_Int]at sl
  have hdl:(List.drop 1 (k::l)).take ((k::l).length-1)=l:=by simp
  rw[hdl]at wl
  have W1:nT H4.next H3.next K1 vl l:=⟨⟨wb,wl,wn',by have:=S.rn; omega,by have:=S.mn; omega⟩,fun w hw=>hwl w (by simp[hw])⟩
  obtain⟨z1,z2',z3,z4,z5⟩:=back f1
  have f1n:=f1.next
  have stop:um ps (k::l)=none->∀{T':bK} {K2:ae},Fx F H7 K2->T' 2=ak H.next 21 0->T' 3=ak (H.next+1) 2 0->∃Ka Kb,bB 21 K2 (ak H.next 21 0) (.agg nc)=some Ka/\bB 2 Ka (ak (H.next+1) 2 0) (.agg (fJ 130 (i+1)))=some Kb/\gX [.cell true 21 2,.cell true 2 3] (wM (aX t) H) .ret T' Kb:=by
   intro hd T' K2 f2 h2 h3
   obtain⟨u1,u2,u3,u4,u5⟩:=back f2
   refine fault u1 u2 u3 h2 h3 (by have:=f2.next; omega) ?_
   have:=pgo (1+i) (by rw[hgo,hd])
   rw[this,Nat.add_comm]
  have bf:bQ (fJ 0 0) [(0,1,.int .i64 130),(1,1,.int .i64 ((i+1:Nat):Int))]=some (.agg (fJ 130 (i+1))):=rfl
  rcases Hf k S1 I z4 (fun c h1 h2=>Fof om om om) W1 with⟨n,v,m',hf,hcall⟩ | ⟨hf,hd⟩
  ·have lk:=pt (ok:=true) (z:=.nilFunc) z4.map hf
   simp only[lN,cond_true]at lk
   simp only[sA,sB,seval,lnW,c0,g5,i0,l0,lk,bT,bS,sl]
   refine hcall _ ?_
   rintro v' K2 ⟨f2,h⟩
   have f2':=f1.trans f2
   rcases h with⟨ps',vm',vb',vu',hd,rfl,S2⟩ | ⟨hd,rfl⟩
   ·rw[hd]at hgo
    simp only[sA,sB,seval,g25,w1]
    exact⟨_,om,i+1,ps',vm',vb',vu',rfl,om,by rw[hgo,show 1+i+1=1+(i+1) by omega],El I hd,S2,f2',g2,g3,g4',g5,g23,g24,tt⟩
   ·obtain⟨Ka,Kb,a1,a2,a3⟩:=stop hd (T':=T) f2' g2 g3
    simp only[sA,sB,seval,lX,w1,bf,g2,g3,a1,a2,z21,z2]
    exact lS a3 (by simp only[sA,sB,seval]) (by simp only[sA,sB,seval])
  ·have lk:=tF (ok:=true) (z:=.nilFunc) z4.map hf
   simp only[lN,cond_true]at lk
   obtain⟨Ka,Kb,a1,a2,a3⟩:=stop hd (T':=T) f1 g2 g3
   simp only[sA,sB,seval,lnW,c0,g5,i0,l0,lk,bT,bS,lX,w1,bf,g2,g3,a1,a2]
   exact lS a3 (by simp only[sA,sB,seval]) (by simp only[sA,sB,seval])
 ·rintro T K ⟨ps,vm,vb,vu,hgo,I,S,f,g2,g3,g4'⟩
  obtain⟨y1,y2,y3,y4,y5⟩:=back f
  have fn:=f.next
  have hpe:aX t=yk ps:=by rw[aX,if_neg hlen,<- hLs,hgo]
  have lm:bg false 1 K (ak H4.next 22 21)=some (.map (some H3.next)):=ap 22 21 S.row S.len rfl
  obtain⟨es,n,hg,hs⟩:=S.seen
  have e0:eK 0=[115,105,122,101]:=rfl
  have hbf:bQ (fJ 0 0) [(0,1,.int .i64 130)]=some (.agg (fJ 130 0)):=rfl
  rcases jY (eK 0) es 0 (mr hs) with⟨j,e,h1,h2,h3,_⟩ | ⟨h1,h2⟩
  rotate_left
  ·have hno:0∉ps.2:=fun hm=>by
    obtain⟨e,a,b⟩:=hs.has 0 hm
    exact h1 e a b
   have lk:=tF (ok:=false) (z:=.int .i64 0) hg h2
   simp only[lN,cond_false,e0]at lk
   have hp:aX t=.error (130,0):=by rw[hpe,yk,if_neg (fun h=>hno h.1)]
   obtain⟨Ka,Kb,a1,a2,a3⟩:=fault (T:=T) y1 y2 y3 g2 g3 om hp
   simp only[sA,sB,seval,g4',aG,aF,lm,lk,lX,hbf,g2,g3,a1,a2]
   exact lS a3 (by simp only[sA,sB,seval]) (by simp only[sA,sB,seval])
  ·obtain⟨i',a1,a2,a3,a4⟩:=hs.mem e h1
   have hi0:i'=0:=CL a1 om (by rw[h2]at a2; simpa using a2.symm)
   subst hi0
   have lk:=pt (ok:=false) (z:=.int .i64 0) hg h3
   simp only[lN,cond_false,e0,a4]at lk
   have ls:bg true 21 K (ak H4.next 22 0)=some (.agg (fH ps.1 vm vb vu)):=aW 22 0 21 S.row S.len om rfl
   have In:jP (·<K.next) K ps.1 vm vb vu:=⟨gY.app S.am S.am.blk',gY.app S.ab S.ab.blk',gY.app S.au S.au.blk'⟩
   simp only[sA,sB,seval,g4',aG,aF,lm,lk,ls]
   refine (rW In (by have:=I.bsl; omega) (by have:=I.usl; omega)).mono ?_
   rintro _ K1 ⟨rfl,xk⟩
   have S1:=S.ext xk
   have f1:Fx F H7 K1:=f.trans (dc S xk)
   obtain⟨u1,u2,u3,u4,u5⟩:=back f1
   have f1n:=f1.next
   cases ha:mZ ps.1 with
   | false=>
    have hp:aX t=.error (130,0):=by rw[hpe,yk,if_neg (by rw[ha]; simp)]
    obtain⟨Ka,Kb,a1,a2,a3⟩:=fault (T:=T) u1 u2 u3 g2 g3 om hp
    simp only[sA,sB,seval,lX,hbf,g2,g3,a1,a2]
    exact lS a3 (by simp only[sA,sB,seval]) (by simp only[sA,sB,seval])
   | true=>
    have hp:aX t=.ok ps.1:=by rw[hpe,yk,if_pos ⟨a3,ha⟩]
    have ls1:bg true 21 K1 (ak H4.next 22 0)=some (.agg (fH ps.1 vm vb vu)):=aW 22 0 21 S1.row S1.len om rfl
    have o1:(fH ps.1 vm vb vu).all af.one=true:=by
     simp only[fH,List.all_cons,List.all_nil,S1.am.one,S1.ab.one,S1.au.one,Bool.and_true]; rfl
    obtain⟨K2,b1,c1,d1,o2⟩:=bA (n:=21) u2 rfl (xs:=fH ps.1 vm vb vu) rfl o1
    obtain⟨K3,b2,c2,d2,o3⟩:=bA (n:=2) (u3.same (o2 _ om)) rfl (xs:=fJ 0 0) rfl rfl
    have bz:bQ (fJ 0 0) []=some (.agg (fJ 0 0)):=rfl
    simp only[sA,sB,seval,g4',aG,aF,ls1,bz,g2,g3,b1,b2]
    refine EC _ _ _ _ _ _ _ (v:=.agg (fH ps.1 vm vb vu)) (v':=.agg (fJ 0 0)) (by simp only[sA,sB,seval,g2]; exact dH (c1.same (o3 _ om)) rfl) (by simp only[sA,sB,seval,g3]; exact dH c2 rfl) ⟨⟨om,fun c hc=>by rw[o3 c om,o2 c om,u1.old c hc]⟩,?_⟩
    rw[hp]
    have far:∀{v:af},dP v (fun c=>¬F c/\c≠H4.next/\c≠H3.next)->dP v fun c=>H7.next<=c:=fun h=>h.mono fun c hc=>Fno hc.1 hc.2.1 hc.2.2
    have mv:∀{m k:Nat} {v:af} {L:List af},dq m 0 K1 v L k->dP v (fun c=>¬F c/\c≠H4.next/\c≠H3.next)->gY (fun c=>H.next<=c/\c<K3.next) K3 m v k L:=fun {m k v L} h hb=>by
     have h1:gY (fun c=>H7.next<=c/\c<K1.next) K1 m v k L:=gY.app h ((far hb).and h.blk')
     exact h1.mono fun c hc=>⟨⟨om,om⟩,by rw[o3 c om,o2 c om]⟩
    exact⟨vm,vb,vu,rfl,mv S1.am S1.fm,mv S1.ab S1.fb,mv S1.au S1.fu⟩
open Go.Abs Go.Abs.S
theorem DM:FN aE:=⟨rfl,rfl,rfl,rfl,rfl,rfl,rfl,rfl⟩
theorem zj{b k:Nat}(h:1+k<=24):gW 24 1 (ak b 24 0) (some (.int .i64 1)) (some (.int .i64 ((1+k:Nat):Int))) none=some (nQ b 1 k):=by
 have e:iD 24 24 (some (.int .i64 1)) (some (.int .i64 ((1+k:Nat):Int))) none=some (1,1+k,none):=wf (lo:=1) om h
 simp only[gW,ak,e,Option.getD_none,show Nat.beq 24 1=false from rfl,cond_false,nQ,Nat.zero_add,Nat.mul_one,Nat.add_sub_cancel_left]
theorem JR{H:ae}{b k:Nat}{l:List af}{s:Bs}(hr:Row H b l)(hl:l.length=24)(hk:1+k<=24)(hs:(l.drop 1).take k=cV s):Ct H (nQ b 1 k)=some (.str s):=by
 have:=xu hr hl (i:=1) (k:=k) hk
 simp only[Ct,nQ,this,hs,fN]
theorem vR{u k:Nat}(q1:10 ^ k<=u)(q2:u<10 ^ (k+1))(l:List Nat)(hl:k+1<=l.length):(gr (put (k+1) l u)).take (k+1)=cV (eW (cg u))/\(eW (cg u)).length=k+1:=by
 have hlen:(eW (cg u)).length=k+1:=by rw[ke,<- mD k u q1 q2,DG]
 refine⟨?_,hlen⟩
 rw[pc _ _ _ hl,mD k u q1 q2]
 have e:gr ((cg u).map (48+·))=cV (eW (cg u)):=by
  rw[<- mD k u q1 q2]; exact vi (xC _ _)
 have e2:gr ((cg u).map (48+·)++l.drop (k+1))=cV (eW (cg u))++gr (l.drop (k+1)):=by rw[<- e]; simp[gr]
 have e3:k+1=(cV (eW (cg u))).length:=by rw[gd,hlen]
 rw[e2,e3,List.take_left]
set_option maxRecDepth 20000 in
theorem fQ{n:Nat}(hn:n<=1000000){H:ae}(h0:0<H.next)(G:nO H 0 iL):an Tryz.prog aE 14 [.int .i64 (n:Int)] H fun v H'=>v=.str (eW (cg n))/\bw H.next H H':=by
 refine ai rfl MY rfl ?_
 simp only[c14,sA,sB,seval]
 refine ai rfl MI rfl ?_
 simp only[c37,sA,sB,seval]
 refine ai rfl Md rfl ?_
 have c0:(0:Int)<=(n:Int):=om
 by_cases c1:n<100
 ·have c1':(n:Int)<100:=om
  simp only[Nf,sA,sB,seval,c0,c1']
  refine (kz rfl c1).mono ?_
  rintro v _ ⟨rfl,rfl⟩
  simp only[sA,sB,seval]
  exact⟨tt,bw.refl _ _⟩
 have c1':¬(n:Int)<100:=om
 have c2:¬(n:Int)<0:=om
 obtain⟨H1,m1,r1,n1,k1⟩:=aP H (gr (List.replicate 24 0)) (n:=24) rfl
 have hz:gr (List.replicate 24 0)=[.int .u8 0,.int .u8 0,.int .u8 0,.int .u8 0,.int .u8 0,.int .u8 0,.int .u8 0,.int .u8 0,.int .u8 0,.int .u8 0,.int .u8 0,.int .u8 0,.int .u8 0,.int .u8 0,.int .u8 0,.int .u8 0,.int .u8 0,.int .u8 0,.int .u8 0,.int .u8 0,.int .u8 0,.int .u8 0,.int .u8 0,.int .u8 0]:=rfl
 rw[hz]at m1
 have w1:IntKind.u64.wrap (n:Int)=(n:Int):=jk om om
 have G1:nO H1 0 iL:=by unfold nO; rw[k1 0 om]; exact G
 simp only[Nf,sA,sB,seval,c0,c1',c2,m1,w1]
 refine (jE rfl rfl rfl rfl (u:=n) om om G1).mono ?_
 rintro v _ ⟨⟨k,rfl,q1,q2,q3⟩,rfl⟩
 have q3:k<7:=Nat.lt_of_not_le fun h=>by have:=Nat.pow_le_pow_right (n:=10) om h; omega
 have w2:IntKind.i64.wrap (1+((k+1:Nat):Int))=((1+(k+1):Nat):Int):=by rw[aR om om]; omega
 simp only[sA,sB,seval,w2,zj (show 1+(k+1)<=24 by omega)]
 have r1':Row _ H.next (gr ([0]++List.replicate 23 0)):=r1
 refine (rY (p:=[0]) (l:=List.replicate 23 0) rfl r1' (by simp) (by simp; omega) q2 om).mono ?_
 rintro v H2 ⟨r2,n2,k2⟩
 obtain⟨p1,p2⟩:=vR q1 q2 (List.replicate 23 0) (by simp; omega)
 have hbs:=JR (k:=k+1) (s:=eW (cg n)) r2 (by rw[fG,lA,od]; simp) om (by
  have:(gr ([0]++put (k+1) (List.replicate 23 0) n)).drop 1=gr (put (k+1) (List.replicate 23 0) n):=rfl
  rw[this,p1])
 simp only[sA,sB,seval,c2,w2,zj (show 1+(k+1)<=24 by omega),hbs]
 exact⟨tt,⟨om,fun c hc=>by rw[k2 c om,k1 c om]⟩⟩
set_option maxRecDepth 20000 in
theorem Bm{n:Nat}(hn:n<18446744073709551616){H:ae}(h0:0<H.next)(G:nO H 0 iL):an Tryz.prog aE 15 [.int .u64 (n:Int),.int .i64 10] H fun v H'=>v=.str (eW (cg n))/\bw H.next H H':=by
 refine ai rfl MX rfl ?_
 simp only[c15,sA,sB,seval]
 refine ai rfl MH rfl ?_
 by_cases c1:n<100
 ·have c1':(n:Int)<100:=om
  have w1:IntKind.i64.wrap (n:Int)=(n:Int):=aR om om
  simp only[Nq,sA,sB,seval,c1',w1]
  refine (kz rfl c1).mono ?_
  rintro v _ ⟨rfl,rfl⟩
  simp only[sA,sB,seval]
  exact⟨tt,bw.refl _ _⟩
 have c1':¬(n:Int)<100:=om
 obtain⟨H1,m1,r1,n1,k1⟩:=aP H (gr (List.replicate 24 0)) (n:=24) rfl
 have hz:gr (List.replicate 24 0)=[.int .u8 0,.int .u8 0,.int .u8 0,.int .u8 0,.int .u8 0,.int .u8 0,.int .u8 0,.int .u8 0,.int .u8 0,.int .u8 0,.int .u8 0,.int .u8 0,.int .u8 0,.int .u8 0,.int .u8 0,.int .u8 0,.int .u8 0,.int .u8 0,.int .u8 0,.int .u8 0,.int .u8 0,.int .u8 0,.int .u8 0,.int .u8 0]:=rfl
 rw[hz]at m1
 have G1:nO H1 0 iL:=by unfold nO; rw[k1 0 om]; exact G
 simp only[Nq,sA,sB,seval,c1',m1]
 refine (jE rfl rfl rfl rfl (u:=n) om hn G1).mono ?_
 rintro v _ ⟨⟨k,rfl,q1,q2,q3⟩,rfl⟩
 simp only[sA,sB,seval,nZ (show k+1<=24 by omega) om]
 refine (vI rfl r1 (by simp) (show k+1<=24 by omega) q2 hn).mono ?_
 rintro v H2 ⟨r2,n2,k2⟩
 obtain⟨p1,p2⟩:=vR q1 q2 (List.replicate 24 0) (by simp; omega)
 have hB:td H2 H.next 24 (eW (cg n)):=⟨_,r2,by rw[fG,od]; simp,by rw[p2]; exact p1⟩
 have hbs:=yB hB om
 rw[p2]at hbs
 simp only[sA,sB,seval,nZ (show k+1<=24 by omega) om,hbs]
 exact⟨tt,⟨om,fun c hc=>by rw[k2 c om,k1 c om]⟩⟩
theorem cK{n:Nat}(k:Nat)(h:n<10 ^ (k+1)):(eW (cg n)).length<=k+1:=by rw[ke]; exact pN k n h
theorem cI{n:Int}(h1:-9223372036854775808<=n)(h2:n<=9223372036854775807):(aC n).length<=60:=by
 have a:=cK (n:=n.natAbs / 4294967296) 10 om
 have b:(hJ (n.natAbs % 4294967296)).length<=33:=by
  unfold hJ
  split
  ·simp
  ·rw[ND,ke]; have:=B1 32 (n.natAbs % 4294967296); omega
 rw[aC,lA,lA]
 split <;> simp <;> omega
def BU(v:Vc):Prop:=(-9223372036854775808<=v.x/\v.x<=9223372036854775807)/\(-9223372036854775808<=v.y/\v.y<=9223372036854775807)/\(-9223372036854775808<=v.z/\v.z<=9223372036854775807)
theorem dR{v:Vc}(h:BU v):(fF v).length<=182:=by
 have a:=cI h.1.1 h.1.2
 have b:=cI h.2.1.1 h.2.1.2
 have c:=cI h.2.2.1 h.2.2.2
 simp only[fF,lA,ND]; omega
set_option maxRecDepth 20000 in
theorem dA{v:Vc}(hv:BU v){H:ae}(h0:0<H.next)(G:nO H 0 iL):an Tryz.prog aE 16 [.agg (gp v)] H fun r H'=>r=.str (fF v)/\bw H.next H H':=by
 refine ai rfl MW rfl ?_
 obtain⟨H1,m1,r1,n1,k1⟩:=aP H (gp v) (n:=3) rfl
 have e1:=dJ n1 k1
 have ca:(af.agg (gp v)).cells=gp v:=rfl
 have G1:=G.ext h0 e1
 have l0:=ap 3 0 r1 rfl rfl
 have l1:=ap 3 1 r1 rfl rfl
 have l2:=ap 3 2 r1 rfl rfl
 have a:=cI hv.1.1 hv.1.2
 have b:=cI hv.2.1.1 hv.2.1.2
 have c:=cI hv.2.2.1 hv.2.2.2
 simp only[c16,sA,sB,seval,ca,m1]
 refine eG rfl ?_
 simp only[sR,sA,sB,seval,aF,l0]
 refine (hZ DM rfl hv.1.1 hv.1.2 om G1).mono ?_
 rintro _ H2 ⟨rfl,x2⟩
 have l1':=ap 3 1 (r1.up x2 om) rfl rfl
 have l2':=ap 3 2 (r1.up x2 om) rfl rfl
 have s1:=jS (x:=aC v.x) (y:=[32]) (by simp; omega)
 simp only[sR,sA,sB,seval,aF,s1,l1']
 refine (hZ DM rfl hv.2.1.1 hv.2.1.2 (by have:=x2.next; omega) (G1.ext om x2)).mono ?_
 rintro _ H3 ⟨rfl,x3⟩
 have x3':=x2.trans (x3.less x2.next)
 have l2'':=ap 3 2 (r1.up x3' om) rfl rfl
 have s2:=jS (x:=aC v.x++[32]) (y:=aC v.y) (by simp; omega)
 have s3:=jS (x:=(aC v.x++[32])++aC v.y) (y:=[32]) (by simp; omega)
 simp only[sR,sA,sB,seval,aF,s2,s3,l2'']
 refine (hZ DM rfl hv.2.2.1 hv.2.2.2 (by have:=x3'.next; omega) (G1.ext om x3')).mono ?_
 rintro _ H4 ⟨rfl,x4⟩
 have x4':=x3'.trans (x4.less x3'.next)
 have s4:=jS (x:=((aC v.x++[32])++aC v.y)++[32]) (y:=aC v.z) (by simp; omega)
 simp only[sR,sA,sB,seval,aF,s4]
 simp only[fK,fL,eF,fM,iV,and_true,true_and,List.map_cons,List.map_nil,sA,sB,seval,aF]
 refine⟨⟨⟨_,rfl,fun _=>⟨_,l1,gK _ _⟩⟩,⟨_,rfl,fun _=>⟨_,l2,gK _ _⟩⟩,⟨_,rfl,fun _=>⟨_,l2',gK _ _⟩⟩⟩,?_,e1.trans (x4'.less om)⟩
 simp[fF]
theorem vx:∀l:List Bs,l≠[]->Lib.join l [32]=ct l
 | [],h=>absurd rfl h
 | [a],_=>by rw[Lib.join_one]; rfl
 | a::b::l,_=>by
  have ih:=vx (b::l) (by simp)
  rw[Lib.join_cons]at ih ⊢
  show a++Lib.joinTail [32] (b::l)=a++32::ct (b::l)
  rw[<- ih]
  simp[Lib.joinTail]
theorem BQ{P:Nat->Prop}{v:af}{ws:List Bs}{H:ae}(h:Wl P H v ws)(h2:2<=ws.length)(hn:ws.length<=100)(hl:(ct ws).length<=1000000):an Tryz.prog aE 36 [v,.str [32]] H fun r H'=>r=.str (ct ws)/\H=H':=by
 rcases h with⟨_,h0,_⟩ | ⟨a,r,rfl,_,hr⟩
 ·omega
 have hne:ws≠[]:=fun e=>by rw[e]at h2; simp at h2
 rw[Nat.one_mul]at hr
 have hs:∀l:List Bs,kx (bM l)=some l:=fun l=>by
  induction l with
  | nil=>rfl
  | cons x l ih=>
   have:bM (x::l)=.str x::bM l:=rfl
   rw[this]; simp only[kx,ih]
 refine jd (v:=.str (ct ws)) (H':=H) rfl ?_ ⟨rfl,rfl⟩
 show wJ H [.slice (some a) ws.length r,.str [32]]=_
 simp only[wJ,hr,hs,vx ws hne,NB h2,NB (show ws.length<=140737488355328 by omega),NB (show (ct ws).length<=140737488355328 by omega),Bool.and_self,cond_true]
open Go.Abs Go.Abs.S
structure Pg(H:ae)(pb:Nat)(t:Bs):Prop where
 ex:∃v,Row H pb [v]/\dq 1 0 H v (cV t) t.length/\dP v (pb<·)
 lt:pb<H.next
theorem Pg.ext{H H':ae}{pb:Nat}{t:Bs}(h:Pg H pb t)(e:bw H.next H H'):Pg H' pb t:=by
 obtain⟨v,r,a,b⟩:=h.ex
 exact⟨⟨v,r.up e h.lt,a.ext e,b⟩,NN h.lt e.next⟩
theorem dX(H:ae)(a b:Bs):bU 2 [.str []] H [(0,1,.str a),(1,1,.str b)]=some (jU H.next 2 (.known 2),H.push (.cells (bM [a,b]) 0 false)):=rfl
theorem AA(H:ae)(a b c:Bs):bU 3 [.str []] H [(0,1,.str a),(1,1,.str b),(2,1,.str c)]=some (jU H.next 3 (.known 3),H.push (.cells (bM [a,b,c]) 0 false)):=rfl
theorem Az(H:ae)(a b c d:Bs):bU 4 [.str []] H [(0,1,.str a),(1,1,.str b),(2,1,.str c),(3,1,.str d)]=some (jU H.next 4 (.known 4),H.push (.cells (bM [a,b,c,d]) 0 false)):=rfl
theorem oJ(H:ae)(l:List Bs){k:Nat}(hk:l.length=k):Wl (·=H.next) (H.push (.cells (bM l) 0 false)) (jU H.next k (.known k)) l:=by
 subst hk
 exact gY.row (jq H _) (dS l) om rfl
theorem JP:[af.int .u8 10]=cV [10]:=rfl
theorem mI{P:Nat->Prop}{pb:Nat}{t:Bs}{ws:List Bs}{vl:af}{H:ae}(h:Pg H pb t)(hw:Wl P H vl ws)(h2:2<=ws.length)(hn:ws.length<=100)(hl:(ct ws).length<=1000000)(ht:t.length<=1000000) :
  an Tryz.prog aE 13 [ak pb 1 0,vl] H fun _ H'=>Pg H' pb (t++aY ws)/\bw pb H H'/\H.next<=H'.next:=by
 refine ai rfl MZ rfl ?_
 obtain⟨v,r,a,b⟩:=h.ex
 have hlt:=h.lt
 have l0:=ap 1 0 r rfl rfl
 obtain⟨v1,H1,m1,a1,n1,b1,k1⟩:=a.many (za H (ct ws)) (by rw[gd]; omega) (p6 _) om (bytes:=1) om om
 have bp:dP v (pb≠·):=b.mono fun c hc=>om
 have bp1:dP v1 (pb<·):=(b1 _ b).mono fun c hc=>om
 obtain⟨H2,m2,r2,n2,k2⟩:=bj (r.same (k1 pb hlt bp)) (n:=1) rfl (i:=0) om (x:=v1) a1.one
 have a2:dq 1 0 H2 v1 (cV (t++ct ws)) (t++ct ws).length:=by
  rw[jJ,lA]
  exact a1.same om (bp1.mono fun c hc=>k2 c om)
 have r2':Row H2 pb [v1]:=r2
 have l2:=ap 1 0 r2' rfl rfl
 obtain⟨v3,H3,m3,a3,n3,b3,k3⟩:=a2.pushB (xs:=[.int .u8 10]) rfl rfl om (bytes:=1) (by rw[lA]; omega) om
 have bq:dP v1 (pb≠·):=bp1.mono fun c hc=>om
 have bp3:dP v3 (pb<·):=(b3 _ bp1).mono fun c hc=>om
 obtain⟨H4,m4,r4,n4,k4⟩:=bj (r2'.same (k3 pb om bq)) (n:=1) rfl (i:=0) om (x:=v3) a3.one
 have bl:bU 1 [.int .u8 0] H2 [(0,1,.int .u8 10)]=some (po H2 1,H2.push (.cells [.int .u8 10] 0 false)):=rfl
 have hae:aeq v v=true:=(gY.app a (P:=fun _=>True) (fun _ _ _ _=>trivial)).aeq
 simp only[c13,sA,sB,seval]
 refine eG rfl ?_
 simp only[sR,sA,sB,seval,aG,aF,l0]
 refine (BQ hw h2 hn hl).mono ?_
 rintro _ _ ⟨rfl,rfl⟩
 simp only[sR,sA,sB,seval,aG,aF,m1,m2]
 simp only[fK,fL,eF,fM,iV,and_true,true_and,List.map_cons,List.map_nil,sA,sB,seval,aF]
 refine⟨⟨_,rfl,fun _=>⟨_,l0,hae⟩⟩,?_⟩
 simp only[sA,sB,seval,aG,aF,l2,bl,m3,m4,fZ]
 refine⟨⟨⟨v3,r4,?_,bp3⟩,om⟩,⟨om,fun c hc=>?_⟩,om⟩
 ·have:=a3.same (H':=H4) om (bp3.mono fun c hc=>k4 c om)
  rw[JP,<- jJ]at this
  have e:t++aY ws=t++ct ws++[10]:=by rw[aY,NM]
  have e2:(t++ct ws++[10]).length=(t++ct ws).length+1:=by rw[lA]; rfl
  rw[e,e2]
  exact this
 ·rw[k4 c om,k3 c om (bp1.mono fun d hd=>om),k2 c om,k1 c om (b.mono fun d hd=>om)]
theorem Io(a b:Bs):(ct [a,b]).length=a.length+1+b.length:=by simp[ct]; omega
theorem Im(a b c:Bs):(ct [a,b,c]).length=a.length+1+(b.length+1+c.length):=by simp[ct]; omega
theorem Il(a b c d:Bs):(ct [a,b,c,d]).length=a.length+1+(b.length+1+(c.length+1+d.length)):=by simp[ct]; omega
theorem jf{pb:Nat}{t a b:Bs}{H:ae}(h:Pg H pb t)(ha:a.length<=100)(hb:b.length<=1000)(ht:t.length<=1000000) :
  an Tryz.prog aE 13 [ak pb 1 0,jU H.next 2 (.known 2)] (H.push (.cells (bM [a,b]) 0 false)) fun _ H'=>Pg H' pb (t++aY [a,b])/\bw pb H H'/\H.next<=H'.next:=by
 have hp:bw H.next H (H.push (.cells (bM [a,b]) 0 false)):=(bw.refl _ _).push rL _
 refine (mI (h.ext hp) (oJ H [a,b] rfl) (by simp) (by simp) (by rw[Io]; omega) ht).mono ?_
 rintro v H' ⟨p,e,n⟩
 exact⟨p,(hp.less (Nat.le_of_lt h.lt)).trans e,Nat.le_trans hp.next n⟩
theorem Ij{pb:Nat}{t a b c:Bs}{H:ae}(h:Pg H pb t)(ha:a.length<=100)(hb:b.length<=1000)(hc:c.length<=1000)(ht:t.length<=1000000) :
  an Tryz.prog aE 13 [ak pb 1 0,jU H.next 3 (.known 3)] (H.push (.cells (bM [a,b,c]) 0 false)) fun _ H'=>Pg H' pb (t++aY [a,b,c])/\bw pb H H'/\H.next<=H'.next:=by
 have hp:bw H.next H (H.push (.cells (bM [a,b,c]) 0 false)):=(bw.refl _ _).push rL _
 refine (mI (h.ext hp) (oJ H [a,b,c] rfl) (by simp) (by simp) (by rw[Im]; omega) ht).mono ?_
 rintro v H' ⟨p,e,n⟩
 exact⟨p,(hp.less (Nat.le_of_lt h.lt)).trans e,Nat.le_trans hp.next n⟩
theorem Ii{pb:Nat}{t a b c d:Bs}{H:ae}(h:Pg H pb t)(ha:a.length<=100)(hb:b.length<=1000)(hc:c.length<=1000)(hd:d.length<=1000)(ht:t.length<=1000000) :
  an Tryz.prog aE 13 [ak pb 1 0,jU H.next 4 (.known 4)] (H.push (.cells (bM [a,b,c,d]) 0 false)) fun _ H'=>Pg H' pb (t++aY [a,b,c,d])/\bw pb H H'/\H.next<=H'.next:=by
 have hp:bw H.next H (H.push (.cells (bM [a,b,c,d]) 0 false)):=(bw.refl _ _).push rL _
 refine (mI (h.ext hp) (oJ H [a,b,c,d] rfl) (by simp) (by simp) (by rw[Il]; omega) ht).mono ?_
 rintro v H' ⟨p,e,n⟩
 exact⟨p,(hp.less (Nat.le_of_lt h.lt)).trans e,Nat.le_trans hp.next n⟩
set_option maxRecDepth 20000 in
theorem BW{pb:Nat}{t:Bs}{m:Mt}{H:ae}(h:Pg H pb t)(hv:BU m.c)(hs:m.sh.length<=1000)(hx:m.tx.length<=1000)(ht:t.length<=1000000)(hp:0<pb)(G:nO H 0 iL) :
  an Tryz.prog aE 18 [ak pb 1 0,.agg (jh m)] H fun _ H'=>Pg H' pb (t++ef m)/\bw pb H H'/\H.next<=H'.next:=by
 refine ai rfl MU rfl ?_
 obtain⟨k,c,sh,tx⟩:=m
 obtain⟨H1,m1,r1,n1,k1⟩:=aP H (jh ⟨k,c,sh,tx⟩) (n:=6) rfl
 have e1:=dJ n1 k1
 have ca:(af.agg (jh ⟨k,c,sh,tx⟩)).cells=jh ⟨k,c,sh,tx⟩:=rfl
 have hlt:=h.lt
 have l0:=ap 6 0 r1 rfl rfl
 have lv:=aW 6 1 3 r1 rfl (xs:=gp c) om rfl
 have l4:=ap 6 4 r1 rfl rfl
 have l5:=ap 6 5 r1 rfl rfl
 have hvl:(fF c).length<=182:=dR hv
 have G1:=G.ext om e1
 have gX:∀{K K':ae} {w:Bs},bw H.next H K->Pg K' pb (t++w)/\bw pb K K'/\K.next<=K'.next->Pg K' pb (t++w)/\bw pb H K'/\H.next<=K'.next:=fun e hh=>⟨hh.1,(e.less (Nat.le_of_lt hlt)).trans hh.2.1,Nat.le_trans e.next hh.2.2⟩
 have col:∀{K:af->ae->Prop},(∀H',bw H.next H H'->K (.str (fF c)) H')->an Tryz.prog aE 16 [.agg (gp c)] H1 K:=fun hh=>(dA hv om G1).mono fun r H' ⟨a,b⟩=>by subst a; exact hh H' (e1.trans (b.less om))
 simp only[c18,sA,sB,seval,ca,m1,aF,l0]
 by_cases h1:k=1
 ·subst h1
  have a1:((1:Nat):Int)=1:=rfl
  simp only[sA,sB,seval,a1,aF,lv]
  refine col fun H2 e2=>?_
  simp only[sA,sB,seval,dX]
  refine (jf (h.ext e2) (by simp) om ht).mono ?_
  rintro v H3 hh
  simp only[sA,sB,seval,fZ]
  exact gX e2 hh
 have a1:¬(k:Int)=1:=om
 by_cases h2:k=2
 ·subst h2
  have a2:((2:Nat):Int)=2:=rfl
  simp only[sA,sB,seval,a1,a2,aF,lv]
  refine col fun H2 e2=>?_
  simp only[sA,sB,seval,dX]
  refine (jf (h.ext e2) (by simp) om ht).mono ?_
  rintro v H3 hh
  simp only[sA,sB,seval,fZ]
  exact gX e2 hh
 have a2:¬(k:Int)=2:=om
 by_cases h3:k=3
 ·subst h3
  have a3:((3:Nat):Int)=3:=rfl
  simp only[sA,sB,seval,a1,a2,a3,aF,lv]
  refine col fun H2 e2=>?_
  simp only[sA,sB,seval,dX]
  refine (jf (h.ext e2) (by simp) om ht).mono ?_
  rintro v H3 hh
  simp only[sA,sB,seval,fZ]
  exact gX e2 hh
 have a3:¬(k:Int)=3:=om
 by_cases h4:k=4
 ·subst h4
  have a4:((4:Nat):Int)=4:=rfl
  by_cases c5:tx=[]
  ·subst c5
   simp only[sA,sB,seval,a1,a2,a3,a4,aF,l5,l4,dX]
   refine (jf (h.ext e1) (by simp) hs ht).mono ?_
   rintro v H3 hh
   simp only[sA,sB,seval,fZ]
   exact gX e1 hh
  ·have e:ef ⟨4,c,sh,tx⟩=aY [gQ 3,sh,tx]:=by show (if tx=[] then _ else _)=_; rw[if_neg c5]
   rw[e]
   simp only[sA,sB,seval,a1,a2,a3,a4,aF,l5,l4,c5,AA]
   refine (Ij (h.ext e1) (by simp) hs hx ht).mono ?_
   rintro v H3 hh
   simp only[sA,sB,seval,fZ]
   exact gX e1 hh
 ·have a4:¬(k:Int)=4:=om
  have e:ef ⟨k,c,sh,tx⟩=[]:=by
   unfold ef
   split
   ·rename_i he; exact absurd he h1
   ·rename_i he; exact absurd he h2
   ·rename_i he; exact absurd he h3
   ·rename_i he; exact absurd he h4
   ·rfl
  rw[e,List.append_nil]
  simp only[sA,sB,seval,a1,a2,a3,a4,fZ]
  exact⟨h.ext e1,e1.less (Nat.le_of_lt hlt),e1.next⟩
open Go.Abs Go.Abs.S
theorem pG{v:Vc}{lo hi:Int}(h:wS v lo hi=true)(h1:-9223372036854775808<=lo)(h2:hi<=9223372036854775807):BU v:=by
 obtain⟨a,b,c⟩:=GX.1 h
 exact⟨⟨om,om⟩,⟨om,om⟩,⟨om,om⟩⟩
theorem dW{v:Vc}(h:gT v=true):BU v:=pG h dD dD
theorem cC(a b:Bs):(aY [a,b]).length=a.length+b.length+2:=by rw[aY,lA,Io]; simp; omega
theorem rP(a b c:Bs):(aY [a,b,c]).length=a.length+b.length+c.length+3:=by rw[aY,lA,Im]; simp; omega
theorem rO(a b c d:Bs):(aY [a,b,c,d]).length=a.length+b.length+c.length+d.length+4:=by rw[aY,lA,Il]; simp; omega
theorem lO{n lo hi:Int}(h:kY n lo hi=true)(h1:0<=lo)(h2:hi<=1000000):∃k:Nat,n=(k:Int)/\k<=1000000/\du n=eW (cg k):=by
 have:=xW.1 h
 obtain⟨k,rfl⟩:∃k:Nat,n=(k:Int):=⟨n.toNat,om⟩
 exact⟨k,rfl,om,by rw[du,Int.toNat_natCast]⟩
theorem rM{m:Mt}(h:im m=true):BU m.c/\m.sh.length<=40/\m.tx.length<=40:=by
 have nm:∀{s:Bs},fg s=true->s.length<=40:=fun h=>by simp only[fg,NC,NL]at h; exact h.2.1
 by_cases k12:m.k=1∨m.k=2
 ·rw[zY k12]at h
  simp only[NC,NL]at h
  exact⟨pG h.2.2 dD dD,by rw[h.1]; simp,by rw[h.2.1]; simp⟩
 by_cases k3:m.k=3
 ·rw[DV k3]at h
  simp only[NC,NL]at h
  exact⟨pG h.2.2 dD dD,by rw[h.1]; simp,by rw[h.2.1]; simp⟩
 by_cases k4:m.k=4
 ·rw[DU k4]at h
  simp only[NC,Bool.or_eq_true,NL,KG]at h
  obtain⟨⟨a,b,c⟩,d,e⟩:=h
  refine⟨⟨om,om,om⟩,nm d,?_⟩
  rcases e with e | e
  ·rw[e]; simp
  ·exact nm e
 ·rw[zX k12 k3 k4]at h; simp at h
theorem Bv{m:Mt}(h:im m=true):(ef m).length<=2000:=by
 obtain⟨a,b,c⟩:=rM h
 have d:=dR a
 have n3:∀i,i<6->(gQ i).length<=10:=by
  have:∀i:Fin 6,(gQ i.1).length<=10:=by decide
  exact fun i hi=>this ⟨i,hi⟩
 unfold ef
 split
 ·rw[cC]; have:=n3 0 om; omega
 ·rw[cC]; have:=n3 1 om; omega
 ·rw[cC]; have:=n3 2 om; omega
 ·split
  ·rw[cC]; have:=n3 3 om; omega
  ·rw[rP]; have:=n3 3 om; omega
 ·simp
theorem G7{α:Type}{f:α->Bs}{l:List α}{M:Nat}(h:∀x∈l,(f x).length<=M):(l.flatMap f).length<=l.length*M:=by
 induction l with
 | nil=>simp
 | cons x l ih=>
  rw[List.flatMap_cons,lA,ND,Nat.succ_mul]
  have:=h x (by simp)
  have:=ih fun y hy=>h y (by simp[hy])
  omega
theorem mM{α:Type}{f:α->Bs}{l:List α}{i:Nat}{x:α}(h:l[i]?=some x):(l.take (i+1)).flatMap f=(l.take i).flatMap f++f x:=by
 rw[List.take_add_one,h]; simp
theorem iP{α:Type}{f:α->Bs}{l:List α}{M i:Nat}(h:∀x∈l,(f x).length<=M):((l.take i).flatMap f).length<=l.length*M:=by
 have h1:=G7 (f:=f) (l:=l.take i) (M:=M) fun x hx=>h x (List.mem_of_mem_take hx)
 have h2:(l.take i).length<=l.length:=by rw[NR]; omega
 have:=Nat.mul_le_mul_right M h2
 omega
theorem Hz{H:ae}{v:af}{t:Bs}(h:dq 1 0 H v (cV t) t.length):Ct H v=some (.str t):=by
 rcases h with⟨rfl,h1,_⟩ | ⟨b,low,rfl,h2,h3,h4,h5,h6,h7⟩
 ·obtain rfl:t=[]:=by cases t with | nil=>rfl | cons a l=>simp[cV]at h1
  rfl
 ·have:=ew h5 h6
  rw[gd]at this
  simp only[Ct,gd,this,fN]
set_option maxHeartbeats 4000000 in
set_option maxRecDepth 20000 in
theorem Bu{H:ae}{s:Sc}{vm vb vu:af}(I:jP (·<H.next) H s vm vb vu)(hs:s.seed<18446744073709551616)(h0:0<H.next)(G:nO H 0 iL) :
  an Tryz.prog aE 6 [.agg (fH s vm vb vu)] H fun v H'=>v=.tuple [.str (gO s).1,.int .i64 ((gO s).2:Int)]/\bw H.next H H':=by
 refine ai rfl za6 rfl ?_
 obtain⟨H1,m1,r1,n1,k1⟩:=aP H (fH s vm vb vu) (n:=21) rfl
 have e1:=dJ n1 k1
 have ca:(af.agg (fH s vm vb vu)).cells=fH s vm vb vu:=rfl
 have lz:=aW 21 0 21 r1 rfl (xs:=fH s vm vb vu) om rfl
 have I1:jP (·<H1.next) H1 s vm vb vu:=(I.up e1).mono fun b hb=>⟨om,rfl⟩
 simp only[c6,sA,sB,seval,ca,m1,lz]
 refine (vV I1).mono ?_
 rintro _ H2 ⟨rfl,x2⟩
 cases hc:kP s with
 | false=>
  have e0:Hb false=.int .i64 130:=rfl
  have es:gO s=([],130):=by rw[gO,if_neg (by rw[hc]; simp)]
  rw[es]
  simp only[sA,sB,seval,e0]
  exact⟨tt,e1.trans (x2.less om)⟩
 | true=>
 have e0:Hb true=.int .i64 0:=rfl
 have hcc:=hc
 simp only[kP,Ae,ng,NC,NL]at hcc
 obtain⟨⟨cw,ch,csm,cbo,ce,cat_,cup,⟨cw0,cw1⟩,csky,cml,cbl,cul⟩,cm,cb,cu,cal⟩:=hcc
 have x2':=e1.trans (x2.less om)
 have x2n:=x2.next
 obtain⟨K0,mK,rK,nK,kK⟩:=aP H2 [cj] (n:=1) rfl
 have bz:bQ [.slice none 0 (.known 0)] []=some (.agg [cj]):=rfl
 have ca2:(af.agg [cj]).cells=[cj]:=rfl
 obtain⟨pb,hpb⟩:∃pb,pb=H2.next:=⟨_,rfl⟩
 have xK:bw H2.next H2 K0:=dJ nK kK
 rw[<- hpb]at mK rK xK
 have hp1:H.next<pb:=om
 have r:Row K0 H.next (fH s vm vb vu):=(r1.up x2 om).up xK om
 have old0:bw H.next H K0:=x2'.trans (xK.less om)
 have G0:nO K0 0 iL:=G.ext h0 old0
 have I0:jP (·<pb) K0 s vm vb vu:=(I.up old0).mono fun b hb=>⟨om,rfl⟩
 have P0:Pg K0 pb []:=⟨⟨cj,rK,.nil _ _ _,oz _⟩,om⟩
 have E0:bw pb K0 K0:=bw.refl _ _
 have un:∀i,i<9->(eK i).length<=10:=by
  have:∀i:Fin 9,(eK i.1).length<=10:=by decide
  exact fun i hi=>this ⟨i,hi⟩
 simp only[sA,sB,seval,e0,bz,ca2,mK]
 obtain⟨nw,qw,qwl,iw⟩:=lO cw dD dD
 obtain⟨nh,qh,qhl,ih_⟩:=lO ch dD dD
 have Lw:=ap 21 0 r rfl rfl
 have Lh:=ap 21 1 r rfl rfl
 rw[qw]at Lw
 rw[qh]at Lh
 refine eG rfl ?_
 simp only[sR,sA,sB,seval,aF,Lw]
 refine (fQ qwl om G0).mono ?_
 rintro _ Ka ⟨rfl,xa⟩
 have xa':bw pb K0 Ka:=xa.less om
 have Lh2:=ap 21 1 (r.up xa' hp1) rfl rfl
 rw[qh]at Lh2
 simp only[sR,sA,sB,seval,aF,Lh2]
 refine (fQ qhl (by have:=xa.next; omega) (G0.ext om xa)).mono ?_
 rintro _ Kb ⟨rfl,xb⟩
 have xb':bw K0.next K0 Kb:=xa.trans (xb.less xa.next)
 simp only[sR,sA,sB,seval,AA]
 have lnw:=cK (n:=nw) 6 om
 have lnh:=cK (n:=nh) 6 om
 refine (Ij (P0.ext xb') (by simp) om om (by simp)).mono ?_
 rintro _ K1 ⟨P1,y1,z1⟩
 simp only[sR,sA,sB,seval]
 simp only[fK,fL,eF,fM,iV,and_true,true_and,List.map_cons,List.map_nil,sA,sB,seval,aF]
 refine⟨⟨_,rfl,fun _=>⟨_,Lh,gK _ _⟩⟩,?_⟩
 have E1:bw pb K0 K1:=(xb'.less om).trans y1
 obtain⟨T1,hT1⟩:∃T,T=[]++aY [eK 0,du s.w,du s.h]:=⟨_,rfl⟩
 have P1:Pg K1 pb T1:=by rw[hT1,iw,ih_]; exact P1
 have t1:T1.length<=600:=by rw[hT1,List.nil_append,rP,iw,ih_]; have:=un 0 om; omega
 have R1:=r.up E1 hp1
 obtain⟨nsm,qsm,qsml,ism⟩:=lO csm dD dD
 have L1:=ap 21 2 R1 rfl rfl
 rw[qsm]at L1
 simp only[sA,sB,seval,aF,L1]
 refine (fQ qsml (by have:=E1.next; omega) (G0.ext om E1)).mono ?_
 have ln1:(du s.sm).length<=200:=by rw[ism]; have:=cK (n:=nsm) 6 om; omega
 rintro _ X1 ⟨rfl,x1⟩
 simp only[sA,sB,seval,dX]
 rw[<- ism]
 refine (jf (a:=eK 1) (P1.ext x1) (by have:=un 1 om; omega) om om).mono ?_
 rintro _ K2 ⟨P2,y2,z2⟩
 have E2:bw pb K0 K2:=E1.trans ((x1.less (Nat.le_of_lt P1.lt)).trans y2)
 obtain⟨T2,hT2⟩:∃T,T=T1++aY [eK 1,du s.sm]:=⟨_,rfl⟩
 rw[<- hT2]at P2
 have t2:T2.length<=1200:=by rw[hT2,lA,cC]; have:=un 1 om; omega
 have R2:=r.up E2 hp1
 obtain⟨nbo,qbo,qbol,ibo⟩:=lO cbo dD dD
 have L2:=ap 21 3 R2 rfl rfl
 rw[qbo]at L2
 simp only[sA,sB,seval,aF,L2]
 refine (fQ qbol (by have:=E2.next; omega) (G0.ext om E2)).mono ?_
 have ln2:(du s.bo).length<=200:=by rw[ibo]; have:=cK (n:=nbo) 6 om; omega
 rintro _ X2 ⟨rfl,x2⟩
 simp only[sA,sB,seval,dX]
 rw[<- ibo]
 refine (jf (a:=eK 2) (P2.ext x2) (by have:=un 2 om; omega) om om).mono ?_
 rintro _ K3 ⟨P3,y3,z3⟩
 have E3:bw pb K0 K3:=E2.trans ((x2.less (Nat.le_of_lt P2.lt)).trans y3)
 obtain⟨T3,hT3⟩:∃T,T=T2++aY [eK 2,du s.bo]:=⟨_,rfl⟩
 rw[<- hT3]at P3
 have t3:T3.length<=1800:=by rw[hT3,lA,cC]; have:=un 2 om; omega
 have R3:=r.up E3 hp1
 have L3:=ap 21 4 R3 rfl rfl
 simp only[sA,sB,seval,aF,L3]
 refine (Bm hs (by have:=E3.next; omega) (G0.ext om E3)).mono ?_
 have ln3:(eW (cg s.seed)).length<=200:=by have:=cK (n:=s.seed) 20 om; omega
 rintro _ X3 ⟨rfl,x3⟩
 simp only[sA,sB,seval,dX]
 refine (jf (a:=eK 3) (P3.ext x3) (by have:=un 3 om; omega) om om).mono ?_
 rintro _ K4 ⟨P4,y4,z4⟩
 have E4:bw pb K0 K4:=E3.trans ((x3.less (Nat.le_of_lt P3.lt)).trans y4)
 obtain⟨T4,hT4⟩:∃T,T=T3++aY [eK 3,eW (cg s.seed)]:=⟨_,rfl⟩
 rw[<- hT4]at P4
 have t4:T4.length<=2400:=by rw[hT4,lA,cC]; have:=un 3 om; omega
 have R4:=r.up E4 hp1
 have L4:=aW 21 5 3 R4 rfl (xs:=gp s.eye) om rfl
 simp only[sA,sB,seval,aF,L4]
 refine (dA (dW ce) (by have:=E4.next; omega) (G0.ext om E4)).mono ?_
 have ln4:(fF s.eye).length<=200:=by have:=dR (dW ce); omega
 rintro _ X4 ⟨rfl,x4⟩
 simp only[sA,sB,seval,dX]
 refine (jf (a:=eK 4) (P4.ext x4) (by have:=un 4 om; omega) om om).mono ?_
 rintro _ K5 ⟨P5,y5,z5⟩
 have E5:bw pb K0 K5:=E4.trans ((x4.less (Nat.le_of_lt P4.lt)).trans y5)
 obtain⟨T5,hT5⟩:∃T,T=T4++aY [eK 4,fF s.eye]:=⟨_,rfl⟩
 rw[<- hT5]at P5
 have t5:T5.length<=3000:=by rw[hT5,lA,cC]; have:=un 4 om; omega
 have R5:=r.up E5 hp1
 have L5:=aW 21 8 3 R5 rfl (xs:=gp s.at_) om rfl
 simp only[sA,sB,seval,aF,L5]
 refine (dA (dW cat_) (by have:=E5.next; omega) (G0.ext om E5)).mono ?_
 have ln5:(fF s.at_).length<=200:=by have:=dR (dW cat_); omega
 rintro _ X5 ⟨rfl,x5⟩
 simp only[sA,sB,seval,dX]
 refine (jf (a:=eK 5) (P5.ext x5) (by have:=un 5 om; omega) om om).mono ?_
 rintro _ K6 ⟨P6,y6,z6⟩
 have E6:bw pb K0 K6:=E5.trans ((x5.less (Nat.le_of_lt P5.lt)).trans y6)
 obtain⟨T6,hT6⟩:∃T,T=T5++aY [eK 5,fF s.at_]:=⟨_,rfl⟩
 rw[<- hT6]at P6
 have t6:T6.length<=3600:=by rw[hT6,lA,cC]; have:=un 5 om; omega
 have R6:=r.up E6 hp1
 have L6:=aW 21 11 3 R6 rfl (xs:=gp s.up) om rfl
 simp only[sA,sB,seval,aF,L6]
 refine (dA (dW cup) (by have:=E6.next; omega) (G0.ext om E6)).mono ?_
 have ln6:(fF s.up).length<=200:=by have:=dR (dW cup); omega
 rintro _ X6 ⟨rfl,x6⟩
 simp only[sA,sB,seval,dX]
 refine (jf (a:=eK 6) (P6.ext x6) (by have:=un 6 om; omega) om om).mono ?_
 rintro _ K7 ⟨P7,y7,z7⟩
 have E7:bw pb K0 K7:=E6.trans ((x6.less (Nat.le_of_lt P6.lt)).trans y7)
 obtain⟨T7,hT7⟩:∃T,T=T6++aY [eK 6,fF s.up]:=⟨_,rfl⟩
 rw[<- hT7]at P7
 have t7:T7.length<=4200:=by rw[hT7,lA,cC]; have:=un 6 om; omega
 have R7:=r.up E7 hp1
 have L7:=ap 21 14 R7 rfl rfl
 simp only[sA,sB,seval,aF,L7]
 refine (hZ DM rfl (n:=s.wide) om om (by have:=E7.next; omega) (G0.ext om E7)).mono ?_
 have ln7:(aC s.wide).length<=200:=by have:=cI (n:=s.wide) om om; omega
 rintro _ X7 ⟨rfl,x7⟩
 simp only[sA,sB,seval,dX]
 refine (jf (a:=eK 7) (P7.ext x7) (by have:=un 7 om; omega) om om).mono ?_
 rintro _ K8 ⟨P8,y8,z8⟩
 have E8:bw pb K0 K8:=E7.trans ((x7.less (Nat.le_of_lt P7.lt)).trans y8)
 obtain⟨T8,hT8⟩:∃T,T=T7++aY [eK 7,aC s.wide]:=⟨_,rfl⟩
 rw[<- hT8]at P8
 have t8:T8.length<=4800:=by rw[hT8,lA,cC]; have:=un 7 om; omega
 have R8:=r.up E8 hp1
 have L8:=aW 21 15 3 R8 rfl (xs:=gp s.sky) om rfl
 simp only[sA,sB,seval,aF,L8]
 refine (dA (pG csky dD dD) (by have:=E8.next; omega) (G0.ext om E8)).mono ?_
 have ln8:(fF s.sky).length<=200:=by have:=dR (pG csky dD dD); omega
 rintro _ X8 ⟨rfl,x8⟩
 simp only[sA,sB,seval,dX]
 refine (jf (a:=eK 8) (P8.ext x8) (by have:=un 8 om; omega) om om).mono ?_
 rintro _ K9 ⟨P9,y9,z9⟩
 have E9:bw pb K0 K9:=E8.trans ((x8.less (Nat.le_of_lt P8.lt)).trans y9)
 obtain⟨T9,hT9⟩:∃T,T=T8++aY [eK 8,fF s.sky]:=⟨_,rfl⟩
 rw[<- hT9]at P9
 have t9:T9.length<=5400:=by rw[hT9,lA,cC]; have:=un 8 om; omega
 have hT:T9=gz s:=by
  rw[hT9,hT8,hT7,hT6,hT5,hT4,hT3,hT2,hT1]
  simp only[gz,List.nil_append,NM]
 rw[hT]at P9 t9
 have lb:=I0.b.len
 have lm:=I0.m.len
 have lu:=I0.u.len
 have rm:∀x:Mt,(jh x).length=6:=fun _=>rfl
 have rb:∀x:Rd,(rB x).length=5:=fun _=>rfl
 have ru:∀x:Us,(wR x).length=5:=fun _=>rfl
 have am:∀x∈s.ms,im x=true:=List.all_eq_true.1 cm
 have ab:∀x∈s.bs,mz x=true:=List.all_eq_true.1 cb
 have au:∀x∈s.us,jm x=true:=List.all_eq_true.1 cu
 have hal:=cal
 simp only[mZ,NC,List.all_eq_true,Af]at hal
 have lenM:∀i,((s.ms.take i).flatMap ef).length<=128000:=fun i=>by
  have:=iP (f:=ef) (l:=s.ms) (i:=i) fun x hx=>Bv (am x hx)
  have:=Nat.mul_le_mul_right 2000 cml
  omega
 have ln4:(gQ 4).length=4:=rfl
 have ln5:(gQ 5).length=4:=rfl
 have matN:∀{m:Int},0<=m->m<s.ms.length->∃k:Nat,m=(k:Int)/\k<=64/\du m=eW (cg k):=fun {m} h1 h2=>by
  obtain⟨k,rfl⟩:∃k:Nat,m=(k:Int):=⟨m.toNat,om⟩
  exact⟨k,rfl,om,by rw[du,Int.toNat_natCast]⟩
 have showB_len:∀x∈s.bs,(gA x).length<=400:=fun x hx=>by
  have h1:=ab x hx
  simp only[mz,NC,NL]at h1
  obtain⟨k,q1,q2,q3⟩:=matN (hal.1 x hx).1 (hal.1 x hx).2
  have d:=dR (dW h1.1)
  have e:=cI (n:=x.r) om om
  have f:=cK (n:=k) 6 om
  rw[gA,rO,q3]; omega
 have nameL:∀{s:Bs},fg s=true->s.length<=40:=fun h=>by simp only[fg,NC,NL]at h; exact h.2.1
 have showU_len:∀x∈s.us,(lg x).length<=400:=fun x hx=>by
  have h1:=au x hx
  simp only[jm,NC]at h1
  obtain⟨k,q1,q2,q3⟩:=matN (hal.2 x hx).1 (hal.2 x hx).2
  have d:=dR (dW h1.2)
  have e:=nameL h1.1
  have f:=cK (n:=k) 6 om
  rw[lg,rO,q3]; omega
 have lenB:∀i,((s.bs.take i).flatMap gA).length<=102400:=fun i=>by
  have:=iP (f:=gA) (l:=s.bs) (i:=i) showB_len
  have:=Nat.mul_le_mul_right 400 cbl
  omega
 have lenU:∀i,((s.us.take i).flatMap lg).length<=6400:=fun i=>by
  have:=iP (f:=lg) (l:=s.us) (i:=i) showU_len
  have:=Nat.mul_le_mul_right 400 cul
  omega
 have L18:=ap 21 18 (r.up E9 hp1) rfl rfl
 simp only[sA,sB,seval,aF,L18,lm]
 refine ft (fun (T:bK) K=>bw pb K0 K/\Pg K pb (gz s++s.ms.flatMap ef)/\T 1=ak H.next 21 0/\T 5=ak pb 1 0) (bP _ _) ?_ ?_
 ·refine bL (fun m (T:bK) K=>∃i:Nat,bw pb K0 K/\i<=s.ms.length/\m=s.ms.length-i/\Pg K pb (gz s++(s.ms.take i).flatMap ef)/\T 1=ak H.next 21 0/\T 5=ak pb 1 0/\T 77=vm/\T 78=.int .i64 (s.ms.length:Int)/\T 79=.int .i64 (i:Int)) s.ms.length
   ⟨0,E9,om,om,by rw[List.take_zero,List.flatMap_nil,List.append_nil]; exact P9,by simp only[sA,sB,seval],by simp only[sA,sB,seval],by simp only[sA,sB,seval],by simp only[sA,sB,seval],by simp only[sA,sB,seval]⟩ ?_
  rintro m T K ⟨i,E,hi,rfl,P,g1,g5,g10,g11,g12⟩
  by_cases hlt:i<s.ms.length
  ·have hlt':(i:Int)<(s.ms.length:Int):=om
   obtain⟨x,hx⟩:=aO hlt
   have w1:=cF i om
   have IK:=I0.up E
   have ix:=IK.m.idx hlt
   have lx:=IK.m.loadE rm hx
   obtain⟨H3,m3,r3,n3,k3⟩:=aP K [.int .u8 0,.int .i64 0,.int .i64 0,.int .i64 0,.str [],.str []] (n:=6) rfl
   obtain⟨H4,m4,r4,n4,k4⟩:=bA (n:=6) r3 rfl (xs:=jh x) rfl rfl
   have xe:bw K.next K H4:=⟨om,fun b hb=>by rw[k4 b om,k3 b om]⟩
   have l4:=aW 6 0 6 r4 rfl (xs:=jh x) om rfl
   have hm:=am x (kF hx)
   obtain⟨f1,f2,f3⟩:=rM hm
   have lm1:=lenM i
   have plt:=P.lt
   simp only[sA,sB,seval,g5,g10,g11,g12,hlt',ix,lx,m3,m4,l4]
   refine (BW (P.ext xe) f1 om om (by rw[lA]; omega) om ((G0.ext om E).ext (by have:=E.next; omega) xe)).mono ?_
   rintro _ H5 ⟨P5,y5,z5⟩
   rw[NM,<- mM hx]at P5
   simp only[sA,sB,seval,g12,w1]
   exact⟨_,om,i+1,E.trans ((xe.less om).trans y5),om,rfl,P5,g1,tt,g10,g11,tt⟩
  ·have hlt':¬(i:Int)<(s.ms.length:Int):=om
   simp only[sA,sB,seval,g11,g12,hlt']
   rw[List.take_of_length_le om]at P
   exact⟨E,P,g1,g5⟩
 rintro T K ⟨Em,Pm,g1,g5⟩
 have tm:=lenM s.ms.length
 rw[List.take_length]at tm
 have L19:=ap 21 19 (r.up Em hp1) rfl rfl
 simp only[sA,sB,seval,g1,aF,L19,lb]
 refine ft (fun (T:bK) K=>bw pb K0 K/\Pg K pb (gz s++s.ms.flatMap ef++s.bs.flatMap gA)/\T 1=ak H.next 21 0/\T 5=ak pb 1 0) (bP _ _) ?_ ?_
 ·refine bL (fun m (T:bK) K=>∃i:Nat,bw pb K0 K/\i<=s.bs.length/\m=s.bs.length-i/\Pg K pb (gz s++s.ms.flatMap ef++(s.bs.take i).flatMap gA)/\T 1=ak H.next 21 0/\T 5=ak pb 1 0/\T 88=vb/\T 89=.int .i64 (s.bs.length:Int)/\T 90=.int .i64 (i:Int)) s.bs.length
   ⟨0,Em,om,om,by rw[List.take_zero,List.flatMap_nil,List.append_nil]; exact Pm,by simp only[sA,sB,seval,g1],by simp only[sA,sB,seval,g5],by simp only[sA,sB,seval],by simp only[sA,sB,seval],by simp only[sA,sB,seval]⟩ ?_
  clear g1 g5
  rintro m T K ⟨i,E,hi,rfl,P,g1,g5,g10,g11,g12⟩
  by_cases hlt:i<s.bs.length
  ·have hlt':(i:Int)<(s.bs.length:Int):=om
   obtain⟨x,hx⟩:=aO hlt
   have w1:=cF i om
   have IK:=I0.up E
   have ix:=IK.b.idx hlt
   have lx:=IK.b.loadE rb hx
   obtain⟨H3,m3,r3,n3,k3⟩:=aP K [.int .i64 0,.int .i64 0,.int .i64 0,.int .i64 0,.int .i64 0] (n:=5) rfl
   obtain⟨H4,m4,r4,n4,k4⟩:=bA (n:=5) r3 rfl (xs:=rB x) rfl rfl
   have xe:bw K.next K H4:=⟨om,fun b hb=>by rw[k4 b om,k3 b om]⟩
   have hm:=ab x (kF hx)
   simp only[mz,NC,NL]at hm
   obtain⟨k,q1,q2,q3⟩:=matN (hal.1 x (kF hx)).1 (hal.1 x (kF hx)).2
   have vL:=dR (dW hm.1)
   have nL:=cI (n:=x.r) om om
   have aL:=cK (n:=k) 6 om
   have lm1:=lenB i
   have plt:=P.lt
   have G4:=(G0.ext om E).ext (by have:=E.next; omega) xe
   have l0:=aW 5 0 3 r4 rfl (xs:=gp x.c) om rfl
   have l3:=ap 5 3 r4 rfl rfl
   have l4:=ap 5 4 r4 rfl rfl
   rw[q1]at l4
   simp only[sA,sB,seval,g5,g10,g11,g12,hlt',ix,lx,m3,m4]
   refine eG rfl ?_
   simp only[sR,sA,sB,seval,g5,aF,l0]
   refine (dA (dW hm.1) om G4).mono ?_
   rintro _ V1 ⟨rfl,v1⟩
   have l3a:=ap 5 3 (r4.up v1 om) rfl rfl
   have l4a:=ap 5 4 (r4.up v1 om) rfl rfl
   rw[q1]at l4a
   simp only[sR,sA,sB,seval,g5,aF,l3a]
   refine (hZ DM rfl (n:=x.r) om om (by have:=v1.next; omega) (G4.ext om v1)).mono ?_
   rintro _ V2 ⟨rfl,v2⟩
   have v2':=v1.trans (v2.less v1.next)
   have l4b:=ap 5 4 (r4.up v2' om) rfl rfl
   rw[q1]at l4b
   simp only[sR,sA,sB,seval,g5,aF,l4b]
   refine (fQ (n:=k) om (by have:=v2'.next; omega) (G4.ext om v2')).mono ?_
   rintro _ V3 ⟨rfl,v3⟩
   have v3':=v2'.trans (v3.less v2'.next)
   simp only[sR,sA,sB,seval,g5,Az]
   refine (Ii (a:=gQ 4) ((P.ext xe).ext v3') om om om om (by rw[lA,lA]; omega)).mono ?_
   rintro _ H5 ⟨P5,y5,z5⟩
   rw[<- q3]at P5
   have P5:Pg H5 pb (gz s++s.ms.flatMap ef++(s.bs.take i).flatMap gA++gA x):=P5
   rw[NM (gz s++s.ms.flatMap ef),<- mM hx]at P5
   simp only[sR,sA,sB,seval]
   simp only[fK,fL,eF,fM,iV,and_true,true_and,List.map_cons,List.map_nil,sA,sB,seval,aF]
   refine⟨⟨⟨_,rfl,fun _=>⟨_,l3,gK _ _⟩⟩,⟨_,rfl,fun _=>⟨_,l4,gK _ _⟩⟩,⟨_,rfl,fun _=>⟨_,l4a,gK _ _⟩⟩⟩,?_⟩
   simp only[sA,sB,seval,g12,w1]
   exact⟨_,om,i+1,E.trans ((xe.less om).trans ((v3'.less om).trans y5)),om,rfl,P5,g1,tt,g10,g11,tt⟩
  ·have hlt':¬(i:Int)<(s.bs.length:Int):=om
   simp only[sA,sB,seval,g11,g12,hlt']
   rw[List.take_of_length_le om]at P
   exact⟨E,P,g1,g5⟩
 clear g1 g5 Em Pm L19
 rintro T K ⟨Em,Pm,g1,g5⟩
 have tb:=lenB s.bs.length
 rw[List.take_length]at tb
 have L20:=ap 21 20 (r.up Em hp1) rfl rfl
 simp only[sA,sB,seval,g1,aF,L20,lu]
 refine ft (fun (T:bK) K=>bw pb K0 K/\Pg K pb (eO s)/\T 1=ak H.next 21 0/\T 5=ak pb 1 0) (bP _ _) ?_ ?_
 ·refine bL (fun m (T:bK) K=>∃i:Nat,bw pb K0 K/\i<=s.us.length/\m=s.us.length-i/\Pg K pb (gz s++s.ms.flatMap ef++s.bs.flatMap gA++(s.us.take i).flatMap lg)/\T 1=ak H.next 21 0/\T 5=ak pb 1 0/\T 110=vu/\T 111=.int .i64 (s.us.length:Int)/\T 112=.int .i64 (i:Int)) s.us.length
   ⟨0,Em,om,om,by rw[List.take_zero,List.flatMap_nil,List.append_nil]; exact Pm,by simp only[sA,sB,seval,g1],by simp only[sA,sB,seval,g5],by simp only[sA,sB,seval],by simp only[sA,sB,seval],by simp only[sA,sB,seval]⟩ ?_
  clear g1 g5
  rintro m T K ⟨i,E,hi,rfl,P,g1,g5,g10,g11,g12⟩
  by_cases hlt:i<s.us.length
  ·have hlt':(i:Int)<(s.us.length:Int):=om
   obtain⟨x,hx⟩:=aO hlt
   have w1:=cF i om
   have IK:=I0.up E
   have ix:=IK.u.idx hlt
   have lx:=IK.u.loadE ru hx
   obtain⟨H3,m3,r3,n3,k3⟩:=aP K [.str [],.int .i64 0,.int .i64 0,.int .i64 0,.int .i64 0] (n:=5) rfl
   obtain⟨H4,m4,r4,n4,k4⟩:=bA (n:=5) r3 rfl (xs:=wR x) rfl rfl
   have xe:bw K.next K H4:=⟨om,fun b hb=>by rw[k4 b om,k3 b om]⟩
   have hm:=au x (kF hx)
   simp only[jm,NC]at hm
   obtain⟨k,q1,q2,q3⟩:=matN (hal.2 x (kF hx)).1 (hal.2 x (kF hx)).2
   have vL:=dR (dW hm.2)
   have nL:=nameL hm.1
   have aL:=cK (n:=k) 6 om
   have lm1:=lenU i
   have plt:=P.lt
   have G4:=(G0.ext om E).ext (by have:=E.next; omega) xe
   have l0:=ap 5 0 r4 rfl rfl
   have l1:=aW 5 1 3 r4 rfl (xs:=gp x.p) om rfl
   have l4:=ap 5 4 r4 rfl rfl
   rw[q1]at l4
   simp only[sA,sB,seval,g5,g10,g11,g12,hlt',ix,lx,m3,m4]
   refine eG rfl ?_
   simp only[sR,sA,sB,seval,g5,aF,l0,l1]
   refine (dA (dW hm.2) om G4).mono ?_
   rintro _ V1 ⟨rfl,v1⟩
   have l4a:=ap 5 4 (r4.up v1 om) rfl rfl
   have l0a:=ap 5 0 (r4.up v1 om) rfl rfl
   rw[q1]at l4a
   simp only[sR,sA,sB,seval,g5,aF,l4a]
   refine (fQ (n:=k) om (by have:=v1.next; omega) (G4.ext om v1)).mono ?_
   rintro _ V2 ⟨rfl,v2⟩
   have v2':=v1.trans (v2.less v1.next)
   have l0b:=ap 5 0 (r4.up v2' om) rfl rfl
   simp only[sR,sA,sB,seval,g5,Az]
   refine (Ii (a:=gQ 5) ((P.ext xe).ext v2') om om om om (by rw[lA,lA,lA]; omega)).mono ?_
   rintro _ H5 ⟨P5,y5,z5⟩
   rw[<- q3]at P5
   have P5:Pg H5 pb (gz s++s.ms.flatMap ef++s.bs.flatMap gA++(s.us.take i).flatMap lg++lg x):=P5
   rw[NM (gz s++s.ms.flatMap ef++s.bs.flatMap gA),<- mM hx]at P5
   simp only[sR,sA,sB,seval]
   simp only[fK,fL,eF,fM,iV,and_true,true_and,List.map_cons,List.map_nil,sA,sB,seval,aF]
   refine⟨⟨⟨⟨_,rfl,fun _=>⟨_,l0a,by simp[aeq]⟩⟩,⟨_,rfl,fun _=>⟨_,l0b,by simp[aeq]⟩⟩⟩,⟨_,rfl,fun _=>⟨_,l4,gK _ _⟩⟩⟩,?_⟩
   simp only[sA,sB,seval,g12,w1]
   exact⟨_,om,i+1,E.trans ((xe.less om).trans ((v2'.less om).trans y5)),om,rfl,P5,g1,tt,g10,g11,tt⟩
  ·have hlt':¬(i:Int)<(s.us.length:Int):=om
   simp only[sA,sB,seval,g11,g12,hlt']
   rw[List.take_of_length_le om]at P
   refine⟨E,?_,g1,g5⟩
   have:eO s=gz s++s.ms.flatMap ef++s.bs.flatMap gA++s.us.flatMap lg:=by simp only[eO,NM]
   rw[this]; exact P
 clear g1 g5 Em Pm L20
 rintro T K ⟨Em,Pm,g1,g5⟩
 obtain⟨v,rv,av,bv⟩:=Pm.ex
 have lv:=ap 1 0 rv rfl rfl
 have ll:=av.len
 have lend:bw H.next H K:=old0.trans (Em.less om)
 by_cases hl:16384<(eO s).length
 ·have hl':(16384:Int)<((eO s).length:Int):=om
  have es:gO s=([],3):=by rw[gO,if_pos hc,if_pos hl]
  rw[es]
  simp only[sA,sB,seval,g5,aG,aF,lv,ll,hl']
  exact⟨tt,lend⟩
 ·have hl':¬(16384:Int)<((eO s).length:Int):=om
  have es:gO s=(eO s,0):=by rw[gO,if_pos hc,if_neg hl]
  have bs:Ct K v=some (.str (eO s)):=Hz av
  rw[es]
  simp only[sA,sB,seval,g5,aG,aF,lv,ll,hl',bs]
  exact⟨tt,lend⟩
open Go.Abs Go.Abs.S
end Go.Proofs.Wo
namespace Go.Proofs.Wo
open Go.Abs Go.Abs.S
def vD:Bs:=[115,105,122,101,32,49,48,50,52,32,49,10,115,97,109,112,108,101,115,32,54,52,10,98,111,117,110,99,101,115,32,56,10,119,105,100,101,32,49,48,48,10,103,108,111,119,32,54,52,32,48,32,48,10]
def wW:List Bs:=[[98,97,108,108],[49,48,48,48,48],[45,49,48,48,48,48],[48],[49,48,48,48,48],[48]]
def pw:Bs:=[98,97,108,108,32,49,48,48,48,48,32,45,49,48,48,48,48,32,48,32,49,48,48,48,48,32,48]
def wV:List Bs:=[[109,101,115,104],[109],[48],[48],[48],[48]]
def pv:Bs:=[109,101,115,104,32,109,32,48,32,48,32,48,32,48]
def wU:List Bs:=[[109,105,114,114,111,114],[49],[49],[49]]
def pu:Bs:=[109,105,114,114,111,114,32,49,32,49,32,49]
def qP:List Bs:=[[115,105,122,101,32,49,48,50,53,32,49],
 [115,105,122,101,32,48,32,49],
 [115,105,122,101,32,49,32,49,10,115,97,109,112,108,101,115,32,54,53],
 [115,105,122,101,32,49,32,49,10,115,97,109,112,108,101,115,32,48],
 [115,105,122,101,32,49,32,49,10,98,111,117,110,99,101,115,32,57],
 [115,105,122,101,32,49,32,49,10,119,105,100,101,32,48],
 [115,105,122,101,32,49,32,49,10,119,105,100,101,32,49,48,48,46,49],
 [115,105,122,101,32,49,32,49,10,115,107,121,32,54,53,32,48,32,48],
 [115,105,122,101,32,49,32,49,10,109,105,114,114,111,114,32,49,46,49,32,48,32,48],
 [115,105,122,101,32,49,32,49,10,101,121,101,32,49,48,48,48,49,32,48,32,48],
 [115,105,122,101,32,49,32,49,10,115,101,101,100,32,49,56,52,52,54,55,52,52,48,55,51,55,48,57,53,53,49,54,49,54],
 [115,105,122,101,32,49,32,49,10,102,111,103,32,49],
 [115,97,109,112,108,101,115,32,49]]
def ki(l:Bs)(k:Nat):Bs:=vD++(List.replicate k (l++[10])).flatten
theorem Ht:∀t∈qP,∃l,aX t=.error (130,l):=by
 have h:∀t∈qP,(match aX t with | .error (e,_)=>decide (e=130) | .ok _=>false)=true:=by
  simp only[qP,List.forall_mem_cons]
  refine⟨?_,?_,?_,?_,?_,?_,?_,?_,?_,?_,?_,?_,?_,by simp⟩ <;> kernel_rfl
 intro t ht
 have:=h t ht
 split at this
 ·rename_i e l he
  simp only[NL]at this
  subst this
  exact⟨l,he⟩
 ·simp at this
def KJ:Mt:=⟨3,⟨274877906944,0,0⟩,[],[]⟩
def mJ:Sc:={ bY with w:=1024,h:=1,sm:=64,bo:=8,wide:=429496729600,ms:=[KJ] }
def xY:List (List Bs):=[[[115,105,122,101],[49,48,50,52],[49]],[[115,97,109,112,108,101,115],[54,52]],[[98,111,117,110,99,101,115],[56]],[[119,105,100,101],[49,48,48]],[[103,108,111,119],[54,52],[48],[48]]]
theorem Jt:∀(r:Bs),FU (bY,[]) 1 (vD++r)=FU (mJ,[7,2,1,0]) 6 r:=by
 intro r
 have hw:∀l∈xY,∀w∈l,HI w:=by
  have:∀l∈xY,∀w∈l,(w≠[]/\∀c∈w,Gb c=true):=by decide
  exact this
 have e:vD++r=aY (xY.getD 0 [])++(aY (xY.getD 1 [])++(aY (xY.getD 2 [])++(aY (xY.getD 3 [])++(aY (xY.getD 4 [])++r)))):=rfl
 rw[e]
 rw[ip (s':=({ bY with w:=1024,h:=1 },[0])) (hw _ dD) (by kernel_rfl)]
 rw[ip (s':=({ bY with w:=1024,h:=1,sm:=64 },[1,0])) (hw _ dD) (by kernel_rfl)]
 rw[ip (s':=({ bY with w:=1024,h:=1,sm:=64,bo:=8 },[2,1,0])) (hw _ dD) (by kernel_rfl)]
 rw[ip (s':=({ bY with w:=1024,h:=1,sm:=64,bo:=8,wide:=429496729600 },[7,2,1,0])) (hw _ dD) (by kernel_rfl)]
 rw[ip (s':=(mJ,[7,2,1,0])) (hw _ dD) (by kernel_rfl)]
theorem iI(l:Bs):∀k,(List.replicate k l).flatten.length=k*l.length
 | 0=>by simp
 | k+1=>by rw[List.replicate_succ,List.flatten_cons,lA,iI l k,Nat.succ_mul,Nat.add_comm]
theorem xQ(l:Bs)(ws:List Bs)(k M:Nat)(add:Sc->Option Sc)(len:Sc->Nat)(P:Sc->Prop)(hl:aY ws=l++[10])(hk:54+k*(l.length+1)<=16384)(hw:∀w∈ws,HI w)(hd:∀s:PS,um s ws=(add s.1).map fun c=>(c,s.2))
  (h1:∀s,P s->len s+1<=M->∃c,add s=some c/\len c=len s+1/\P c) (h2:∀s,P s->¬len s+1<=M->add s=none) (hP:P mJ) (hA:∀s,P s->mZ s=true) (h3:len mJ<=M) :
  (len mJ+k<=M->∃s,aX (ki l k)=.ok s)/\(¬len mJ+k<=M->∃n,aX (ki l k)=.error (130,n)):=by
 have hlen:¬16384<(ki l k).length:=by
  have e0:vD.length=54:=rfl
  have e1:(l++[10]).length=l.length+1:=by simp
  rw[ki,lA,iI,e0,e1]
  omega
 obtain⟨a,b⟩:=many add len M P ws hw hd h1 h2 k (mJ,[7,2,1,0]) 6 hP
 have e:∀r,Ah (bY,[]) 1 (sp [] (ki l k))=r↔FU (mJ,[7,2,1,0]) 6 (List.replicate k (aY ws)).flatten=r:=by
  intro r
  rw[hl]
  show FU (bY,[]) 1 (ki l k)=r↔_
  rw[ki,Jt]
 refine⟨fun h=>?_,fun h=>?_⟩
 ·obtain⟨c,q1,q2⟩:=a h
  refine⟨c,?_⟩
  rw[aX,if_neg hlen,(e _).2 q1]
  simp only
  rw[yk,if_pos ⟨by simp,hA c q2⟩]
 ·obtain⟨n,q1⟩:=b h3 h
  refine⟨n,?_⟩
  rw[aX,if_neg hlen,(e _).2 q1]
theorem tV{ws:List Bs}(h:∀w∈ws,(w≠[]/\∀c∈w,Gb c=true)):∀w∈ws,HI w:=h
def AO:Rd:=⟨⟨42949672960000,-42949672960000,0⟩,42949672960000,0⟩
def zW:Us:=⟨[109],⟨0,0,0⟩,0⟩
def zV:Mt:=⟨2,⟨4294967296,4294967296,4294967296⟩,[],[]⟩
theorem vF{n:Nat}(h:0<n):kj n 0=true:=Af.2 ⟨by decide,om⟩
theorem vo(k:Nat)(hk:k<=260):(k<=256->∃s,aX (ki pw k)=.ok s)/\(¬k<=256->∃n,aX (ki pw k)=.error (130,n)):=by
 have hb:lZ (wW.drop 1)=some AO:=by kernel_rfl
 have hr:mz AO=true:=by decide
 have:=xQ pw wW k 256 (fun s=>if s.bs.length+1<=256 then some { s with bs:=s.bs++[AO] } else none) (fun s=>s.bs.length) (fun s=>s.us=[]/\0<s.ms.length/\∀b∈s.bs,b=AO) rfl
  (by have : pw.length = 27 := rfl
      rw [this]; omega) (tV dD) (fun s => ?_) (fun s hP hl => ⟨_, if_pos hl, by simp, hP.1, hP.2.1, fun b hb => ?_⟩) (fun s hP hl => if_neg hl) ⟨rfl, by decide, by simp [mJ, bY]⟩ (fun s hP => ?_) dD
 ·have e0:mJ.bs.length=0:=rfl
  simp only[e0,Nat.zero_add]at this
  exact this
 ·have:=tR 4 dD s (wW.drop 1)
  refine Eq.trans this ?_
  simp only[cQ,hb,Option.bind_some]
  rw[hr]
  simp only[true_and]
 ·rcases List.mem_append.1 hb with hb | hb
  ·exact hP.2.2 b hb
  ·exact List.mem_singleton.1 hb
 ·obtain⟨a,b,c⟩:=hP
  simp only[mZ,a,List.all_nil,Bool.and_true,List.all_eq_true]
  intro x hx
  rw[c x hx]
  exact vF b
theorem vn(k:Nat)(hk:k<=260):(k<=16->∃s,aX (ki pv k)=.ok s)/\(¬k<=16->∃n,aX (ki pv k)=.error (130,n)):=by
 have hb:ux (wV.drop 1)=some zW:=by kernel_rfl
 have hr:jm zW=true:=by decide
 have:=xQ pv wV k 16 (fun s=>if s.us.length+1<=16 then some { s with us:=s.us++[zW] } else none) (fun s=>s.us.length) (fun s=>s.bs=[]/\0<s.ms.length/\∀b∈s.us,b=zW) rfl
  (by have : pv.length = 14 := rfl
      rw [this]; omega) (tV dD) (fun s => ?_) (fun s hP hl => ⟨_, if_pos hl, by simp, hP.1, hP.2.1, fun b hb => ?_⟩) (fun s hP hl => if_neg hl) ⟨rfl, by decide, by simp [mJ, bY]⟩ (fun s hP => ?_) dD
 ·have e0:mJ.us.length=0:=rfl
  simp only[e0,Nat.zero_add]at this
  exact this
 ·have:=tR 5 dD s (wV.drop 1)
  refine Eq.trans this ?_
  simp only[cQ,hb,Option.bind_some]
  rw[hr]
  simp only[true_and]
 ·rcases List.mem_append.1 hb with hb | hb
  ·exact hP.2.2 b hb
  ·exact List.mem_singleton.1 hb
 ·obtain⟨a,b,c⟩:=hP
  simp only[mZ,a,List.all_nil,Bool.true_and,List.all_eq_true]
  intro x hx
  rw[c x hx]
  exact vF b
theorem vk(k:Nat)(hk:k<=260):(k<=63->∃s,aX (ki pu k)=.ok s)/\(¬k<=63->∃n,aX (ki pu k)=.error (130,n)):=by
 have hb:iG (wU.drop 1)=some zV.c:=by kernel_rfl
 have hr:im zV=true:=by decide
 have:=xQ pu wU k 64 (fun s=>if s.ms.length+1<=64 then some { s with ms:=s.ms++[zV] } else none) (fun s=>s.ms.length) (fun s=>s.bs=[]/\s.us=[]) rfl
  (by have : pu.length = 12 := rfl
      rw [this]; omega) (tV dD) (fun s => ?_) (fun s hP hl => ⟨_, if_pos hl, by simp, hP.1, hP.2⟩) (fun s hP hl => if_neg hl) ⟨rfl, rfl⟩ (fun s hP => ?_) dD
 ·have e0:mJ.ms.length=1:=rfl
  simp only[e0]at this
  exact⟨fun h=>this.1 om,fun h=>this.2 om⟩
 ·have:=tR 1 dD s (wU.drop 1)
  refine Eq.trans this ?_
  simp only[cQ,hb,Option.bind_some]
  show (l9 s.1 zV).map _=_
  rw[l9,hr]
  simp only[true_and]
 ·obtain⟨a,b⟩:=hP
  simp only[mZ,a,b,List.all_nil,Bool.true_and]
end Go.Proofs.Wo
