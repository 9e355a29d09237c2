/- Part of a proof (VD8 VD9 VD10 VD11 VD12 VD13 VD14 VD15 VD16 VD17 VD18); no condition. -/
import Derived.Test.YtacaginbdjepcaaGreatDoorP10
set_option linter.unusedSimpArgs false
set_option linter.unusedVariables false
set_option linter.unnecessarySimpa false
namespace Go.Proofs.Wo
open Go.Abs Go.Abs.S
theorem BA(s:Bs){i:Nat}{c:UInt8}(h:s[i]?=some c):(aE s).get! i=c:=by
 obtain⟨hl,he⟩:=Ps.1 h
 show s.toArray[i]! = c
 simp[hl,he]
theorem EY(s:Bs):(aE s).size=s.length:=by simp[aE,ByteArray.size]
theorem Gy{s:Bs}{pos r n:Nat}{c:UInt8}(hc:s[pos]?=some c)(h128:128<=c.toNat)(h:Utf8.decode (aE s) pos=(r,n)):128<=r/\∀k,k<n->∃d,s[pos+k]?=some d/\128<=d.toNat:=by
 have hget:∀k,pos+k<(aE s).size->∃d,s[pos+k]?=some d/\(aE s).get! (pos+k)=d:=by
  intro k hk
  rw[EY]at hk
  obtain⟨d,hd⟩:=aM hk
  exact⟨d,hd,BA s hd⟩
 have cont:∀k,(decide (pos+k<(aE s).size)&&((aE s).get! (pos+k)).toNat / 64==2)=true->∃d,s[pos+k]?=some d/\128<=d.toNat:=by
  intro k hk
  simp only[Pu,PE,beq_iff_eq]at hk
  obtain⟨d,h1,h2⟩:=hget k hk.1
  rw[h2]at hk
  exact⟨d,h1,om⟩
 have zero:∃d,s[pos+0]?=some d/\128<=d.toNat:=⟨c,by rw[Nat.add_zero]; exact hc,h128⟩
 have e0:((aE s).get! (pos+0)).toNat=c.toNat:=by rw[Nat.add_zero,BA s hc]
 simp only[Utf8.decode,e0,Utf8.runeError]at h
 rw[if_neg om]at h
 have one:∀k,k<1->∃d,s[pos+k]?=some d/\128<=d.toNat:=fun k hk=>by
  obtain rfl:k=0:=om
  exact zero
 split at h
 ·rename_i h1
  simp only[Pu]at h1
  split at h <;> simp only[pJ]at h <;> obtain⟨rfl,rfl⟩:=h
  ·refine⟨om,fun k hk=>?_⟩
   obtain rfl | rfl:k=0∨k=1:=om
   ·exact zero
   ·exact cont 1 (by simpa using h1.2)
  ·exact⟨om,one⟩
 split at h
 ·rename_i h1
  simp only[Pu]at h1
  split at h <;> simp only[pJ]at h <;> obtain⟨rfl,rfl⟩:=h
  ·rename_i h2
   simp only[Pu,PE]at h2
   refine⟨om,fun k hk=>?_⟩
   obtain rfl | rfl | rfl:k=0∨k=1∨k=2:=om
   ·exact zero
   ·exact cont 1 (by simpa using h1.1.2)
   ·exact cont 2 (by simpa using h1.2)
  ·exact⟨om,one⟩
 split at h
 ·rename_i h1
  simp only[Pu]at h1
  split at h <;> simp only[pJ]at h <;> obtain⟨rfl,rfl⟩:=h
  ·rename_i h2
   simp only[Pu,PE]at h2
   refine⟨om,fun k hk=>?_⟩
   obtain rfl | rfl | rfl | rfl:k=0∨k=1∨k=2∨k=3:=om
   ·exact zero
   ·exact cont 1 (by simpa using h1.1.1.2)
   ·exact cont 2 (by simpa using h1.1.2)
   ·exact cont 3 (by simpa using h1.2)
  ·exact⟨om,one⟩
 ·simp only[pJ]at h
  obtain⟨rfl,rfl⟩:=h
  exact⟨om,one⟩
theorem LO{d:UInt8}(h:128<=d.toNat):bk d=false:=by
 simp only[bk,Bool.or_eq_false_iff,decide_eq_false_iff_not]; omega
theorem Ia{s:Bs}{pos r n:Nat}(h:nu s pos=some (r,n)):(ux r=true/\n=1/\∃c,s[pos]?=some c/\bk c=true)∨(ux r=false/\∀k,k<n->∃d,s[pos+k]?=some d/\bk d=false):=by
 unfold nu at h
 rw[mB]at h
 split at h <;> first | (simp at h; done) | skip
 rename_i c hc
 cases hb:Nat.ble 128 c.toNat with
 | true=>
  rw[hb]at h
  simp only[cond_true,sJ]at h
  obtain⟨h1,h2⟩:=Gy hc (Px hb) h
  refine .inr ⟨by simp only[ux,Bool.or_eq_false_iff,decide_eq_false_iff_not]; omega,fun k hk=>?_⟩
  obtain⟨d,q1,q2⟩:=h2 k hk
  exact⟨d,q1,LO q2⟩
 | false=>
  rw[hb]at h
  simp only[cond_false,sJ,pJ]at h
  obtain⟨rfl,rfl⟩:=h
  have e:ux c.toNat=bk c:=rfl
  cases hs:bk c with
  | true=>exact .inl ⟨by rw[e,hs],rfl,c,hc,hs⟩
  | false=>
   refine .inr ⟨by rw[e,hs],fun k hk=>⟨c,?_,hs⟩⟩
   obtain rfl:k=0:=om
   rw[Nat.add_zero]; exact hc
theorem BE:∀(n:Nat) {s:Bs} {pos:Nat} (cur:Bs),(∀k,k<n->∃d,s[pos+k]?=some d/\bk d=false)->fl cur (s.drop pos)=fl (cur++(s.drop pos).take n) (s.drop (pos+n))
 | 0,s,pos,cur,_=>by rw[List.take_zero,List.append_nil,Nat.add_zero]
 | n+1,s,pos,cur,h=>by
  obtain⟨d,h1,h2⟩:=h 0 om
  rw[Nat.add_zero]at h1
  have ih:=BE n (s:=s) (pos:=pos+1) (cur++[d]) fun k hk=>by
   obtain⟨d,q1,q2⟩:=h (k+1) om
   exact⟨d,by rw[show pos+1+k=pos+(k+1) by omega]; exact q1,q2⟩
  rw[iY h1,fl,if_neg (by rw[h2]; simp),ih,List.take_succ_cons,PG,show pos+1+n=pos+(n+1) by omega]
  rfl
def xy(s:Bs)(pos:Nat):Option Nat->Bs
 | none=>[]
 | some i=>ea s (i,pos)
def IW(s:Bs):Option Nat×List (Nat×Nat)->List Bs
 | (some i,l)=>(l++[(i,s.length)]).map (ea s)
 | (none,l)=>l.map (ea s)
theorem CM{s:Bs}{i pos n:Nat}(h:i<=pos):ea s (i,pos)++(s.drop pos).take n=ea s (i,pos+n):=by
 simp only[ea]
 rw[show pos+n-i=(pos-i)+n by omega,List.take_add,List.drop_drop,show i+(pos-i)=pos by omega]
theorem Bh{s:Bs}{i pos:Nat}(h:i<pos)(hp:pos<=s.length):ea s (i,pos)≠[]:=fun e=>by
 have:=congrArg List.length e
 simp only[ea,PO,PN,Pw]at this; omega
theorem MP{cur:Bs}(h:cur≠[]):fl cur []=[cur]:=by rw[fl,if_neg h]
theorem MQ{cur r:Bs}{c:UInt8}(hb:bk c=true)(h:cur≠[]):fl cur (c::r)=cur::fl [] r:=by rw[fl,if_pos hb,if_neg h]
theorem jL(s:Bs):∀(f pos:Nat) (b:Option Nat) (l:List (Nat×Nat)),s.length+1<=f+pos->pos<=s.length->(∀i,b=some i->i<pos)->IW s (iJ s f pos b l)=l.map (ea s)++fl (xy s pos b) (s.drop pos)
 | 0,pos,b,l,h,h2,_=>om
 | f+1,pos,b,l,h,hp,hb=>by
  rw[iJ]
  cases hr:nu s pos with
  | none=>
   have hl:=sC.1 hr
   have e:s.drop pos=[]:=List.drop_eq_nil_of_le hl
   obtain rfl:pos=s.length:=om
   rw[e]
   cases b with
   | none=>simp only[IW,xy,fl,if_true,List.append_nil]
   | some i=>
    have hi:=hb i rfl
    simp only[IW,xy,MP (Bh hi hp),List.map_append,List.map_cons,List.map_nil]
  | some p=>
   obtain⟨r,n⟩:=p
   obtain⟨hn,hlt⟩:=we hr
   rcases Ia hr with⟨hs,rfl,c,hc,hbk⟩ | ⟨hs,hk⟩
   ·simp only[hs,if_true]
    rw[iY hc]
    cases b with
    | none=>
     have ih:=jL s f (pos+1) none l om om (by simp)
     simp only[ih,xy,fl,hbk,if_true]
    | some i=>
     have hi:=hb i rfl
     have ih:=jL s f (pos+1) none (l++[(i,pos)]) om om (by simp)
     simp only[ih,xy,MQ hbk (Bh hi hp),List.map_append,List.map_cons,List.map_nil,PG,PM,List.nil_append]
   ·simp only[hs,PD,if_false]
    have hle:pos+n<=s.length:=by
     obtain⟨d,q1,_⟩:=hk (n-1) om
     have:=(Ps.1 q1).1
     omega
    rw[BE n _ hk]
    cases b with
    | none=>
     have ih:=jL s f (pos+n) (some pos) l om hle (fun i hi=>by simp only[sJ]at hi; omega)
     simp only[ih,xy,List.nil_append]
     congr 2
     simp only[ea]; rw[show pos+n-pos=n by omega]
    | some i=>
     have hi:=hb i rfl
     have ih:=jL s f (pos+n) (some i) l om hle (fun j hj=>by simp only[sJ]at hj; omega)
     simp only[ih,xy]
     rw[CM om]
theorem tq(s:Bs):(co s).map (ea s)=fl [] s:=by
 have:=jL s (s.length+1) 0 none [] om om (by simp)
 simp only[List.map_nil,List.nil_append,xy,List.drop_zero]at this
 rw[<- this,co]
 split <;> simp only[*,IW]
theorem uS(c:UInt8):∀(s:Bs) (n:Nat),wT c s n=if (s.all fun x=>!decide (x.toNat=c.toNat))=true then -1 else ((n+(s.takeWhile fun x=>!decide (x.toNat=c.toNat)).length:Nat):Int)
 | [],n=>rfl
 | b::s,n=>by
  rw[wT]
  by_cases h:b.toNat=c.toNat
  ·have e:Nat.beq b.toNat c.toNat=true:=by rw[h]; exact Nat.beq_refl _
   simp[e,h]
  ·have e:Nat.beq b.toNat c.toNat=false:=by
    cases hb:Nat.beq b.toNat c.toNat with
    | false=>rfl
    | true=>exact absurd (Py hb) h
   rw[e,cond_false,uS c s (n+1)]
   simp only[List.all_cons,h,decide_false,Bool.not_false,Bool.true_and,List.takeWhile_cons,if_true,Pv]
   split
   ·rfl
   ·rw[show n+1+(s.takeWhile fun x=>!decide (x.toNat=c.toNat)).length=n+((s.takeWhile fun x=>!decide (x.toNat=c.toNat)).length+1) by omega]
theorem FY(c:UInt8){H:ae}{s:Bs}:aq Tryz.prog aG 107 [.str s,.int .u8 (c.toNat:Int)] H fun v H'=>v=.int .i64 (wT c s 0)/\H=H':=by
 refine ai rfl Jt rfl ?_
 have e:iu .ibs [.str s,.int .u8 (c.toNat:Int)]=some (.int .i64 (wT c s 0)):=by
  show some (af.int .i64 (wT (c.toNat).toUInt8 s 0))=_
  rw[show (c.toNat).toUInt8=c from UInt8.ofNat_toNat]
 simp only[LI,sA,sB,seval,e]
 exact⟨tt,tt⟩
theorem wS(c:UInt8){H:ae}{s:Bs}:aq Tryz.prog aG 99 [.str s,.str [c]] H fun v H'=>v=.int .i64 (wT c s 0)/\H=H':=by
 refine ai rfl Mm rfl ?_
 have i0:jg (.str [c]) (.int .i64 0)=some (.int .u8 (c.toNat:Int)):=rfl
 have hl1:((List.length [c]:Nat):Int)=1:=rfl
 by_cases hs:[c]=s
 ·subst hs
  have e:wT c [c] 0=0:=by rw[uS]; simp
  rw[e]
  simp only[M1,sA,sB,seval,hl1]
  exact⟨tt,tt⟩
 ·simp only[M1,sA,sB,seval,hl1,hs,i0]
  refine (FY c).mono ?_
  rintro v _ ⟨rfl,rfl⟩
  simp only[sA,sB,seval]
  exact⟨tt,tt⟩
theorem wJ{s:Bs}(hs:s.length<=1000000){H:ae}:aq Tryz.prog aG 22 [.str s] H fun v H'=>(∃b,v=kB b (gv s).length (.known (gv s).length)/\Row H' b (bX (gv s))/\H.next<=b/\b<H'.next)/\bg H.next H H':=by
 refine ai rfl OH rfl ?_
 simp only[c22,sA,sB,seval]
 have hcut:∀{K:af->ae->Prop},(∀a b,K (.tuple [.str (s.takeWhile nE),a,b]) H)->aq Tryz.prog aG 62 [.str s,.str [35]] H K:=by
  intro K hK
  refine ai rfl Mo rfl ?_
  simp only[O7,sA,sB,seval]
  refine ai rfl Mn rfl ?_
  simp only[O4,sA,sB,seval]
  refine (wS 35).mono ?_
  rintro v _ ⟨rfl,rfl⟩
  have hl1:((List.length [(35:UInt8)]:Nat):Int)=1:=rfl
  have en:(fun x:UInt8=>!decide (x.toNat=(35:UInt8).toNat))=nE:=rfl
  rw[uS,en]
  by_cases ha:s.all nE=true
  ·have e:s.takeWhile nE=s:=by
    have:=iI (l:=s) (r:=[]) (fun c hc=>List.all_eq_true.1 ha c hc) (.inl rfl)
    rwa [List.append_nil]at this
   have hK:=hK
   rw[e]at hK
   rw[if_pos ha]
   have c1:¬(0:Int)<=-1:=om
   simp only[sA,sB,seval,c1,bK,bJ,gb]
   exact hK _ _
  ·rw[if_neg ha]
   have hlt:(s.takeWhile nE).length<s.length:=by
    rcases Nat.lt_or_ge (s.takeWhile nE).length s.length with h | h
    ·exact h
    ·exfalso
     apply ha
     have e:s.takeWhile nE=s:=(List.takeWhile_prefix nE).eq_of_length_le h
     rw[<- e]
     exact List.all_takeWhile
   have et:s.take (0+(s.takeWhile nE).length)=s.takeWhile nE:=by rw[Nat.zero_add]; exact (List.prefix_iff_eq_take.1 (List.takeWhile_prefix nE)).symm
   have c1:(0:Int)<=((0+(s.takeWhile nE).length:Nat):Int):=om
   have s1:=oX (s:=s) (h:=0+(s.takeWhile nE).length) om
   have s2:=oW (s:=s) (l:=0+(s.takeWhile nE).length+1) om
   have w:=cE (0+(s.takeWhile nE).length) om
   rw[et]at s1
   simp only[sA,sB,seval,c1,s1,hl1,w,s2,bK,bJ,gb]
   exact hK _ _
 refine hcut fun a b=>?_
 simp only[sA,sB,seval,bK,bJ,gb]
 have hlt:(s.takeWhile nE).length<=s.length:=(List.takeWhile_prefix nE).length_le
 refine (IR (s.takeWhile nE) om).mono ?_
 rintro v H1 ⟨⟨b,rfl,r1,n1,n2⟩,_,e1⟩
 rw[tq]at r1
 have hl:(co (s.takeWhile nE)).length=(gv s).length:=by
  have:=congrArg List.length (tq (s.takeWhile nE))
  rw[PI]at this
  exact this
 simp only[sA,sB,seval]
 rw[hl]
 exact⟨⟨b,rfl,r1,n1,n2⟩,e1⟩
open Go.Abs Go.Abs.S
def KM(x:UInt8):Bool:=!decide (x.toNat=10)
theorem yH:∀(s cur:Bs),sp cur s=match sp [] s with | []=>[] | a::l=>(cur++a)::l
 | [],cur=>by simp only[sp,List.append_nil]
 | c::s,cur=>by
  by_cases h:c.toNat=10
  ·simp only[sp,if_pos h,List.append_nil]
  ·rw[sp,if_neg h,yH s (cur++[c]),sp,if_neg h,yH s ([]++[c])]
   cases sp [] s with
   | nil=>rfl
   | cons a l=>simp
theorem pP:∀(s cur:Bs),(sp cur s).length=s.count 10+1
 | [],cur=>rfl
 | c::s,cur=>by
  by_cases h:c.toNat=10
  ·have:c=10:=UInt8.toNat_inj.1 h
   subst this
   rw[sp,if_pos h,Pv,pP s [],List.count_cons_self]
  ·rw[sp,if_neg h,pP s _,List.count_cons_of_ne (fun e=>h (by rw[e]; rfl))]
theorem Kv{s:Bs}(h:s.count 10=0)(cur:Bs):sp cur s=[cur++s]:=by
 have hne:∀c∈s,c.toNat≠10:=fun c hc e=>by
  have:c=10:=UInt8.toNat_inj.1 e
  subst this
  exact absurd hc (List.count_eq_zero.1 h)
 induction s generalizing cur with
 | nil=>simp[sp]
 | cons c s ih=>
  have hc:=hne c (by simp)
  rw[sp,if_neg hc,ih (by rw[List.count_cons_of_ne (fun e=>hc (by rw[e]; rfl))]at h; exact h) _ (fun d hd=>hne d (by simp[hd]))]
  simp
theorem ER:∀{s:Bs},0<s.count 10->∃k,(s.takeWhile KM).length=k/\k+1<=s.length/\s.all KM=false/\sp [] s=s.take k::sp [] (s.drop (k+1))/\s.count 10=(s.drop (k+1)).count 10+1
 | [],h=>by simp at h
 | c::s,h=>by
  by_cases hc:c.toNat=10
  ·have:c=10:=UInt8.toNat_inj.1 hc
   subst this
   refine⟨0,by simp[KM],by simp,by simp[KM],?_,by simp⟩
   rw[sp,if_pos hc]; rfl
  ·have hn:KM c=true:=by simp[KM,hc]
   have hcc:(c::s).count 10=s.count 10:=List.count_cons_of_ne (fun e=>hc (by rw[e]; rfl))
   rw[hcc]at h ⊢
   obtain⟨k,h1,h2,h3,h4,h5⟩:=ER h
   refine⟨k+1,by rw[List.takeWhile_cons_of_pos hn,Pv,h1],by simp; omega,by rw[List.all_cons,h3,Bool.and_false],?_,by simpa using h5⟩
   rw[sp,if_neg hc,yH,h4]
   simp
def WK(b:Nat)(H:ae)(v:af)(ws:List Bs):Prop:=∃a c,v=.slice (some a) ws.length (.known c)/\ws.length<=c/\a.b=b/\aT H a ws.length=some (bX ws)
theorem WK.wl{b:Nat}{H:ae}{v:af}{ws:List Bs}(h:WK b H v ws):Wl (·=b) H v ws:=by
 obtain⟨a,c,rfl,_,hb,hr⟩:=h
 exact .inr ⟨a,_,rfl,hb,by rw[Nat.one_mul]; exact hr⟩
theorem WK.row{b n:Nat}{H:ae}{ws:List Bs}(h:Row H b (bX ws))(hn:ws.length=n):WK b H (kB b n (.known n)) ws:=by
 subst hn
 obtain⟨low,h1,h2⟩:=h
 rw[eh]at h2
 refine⟨⟨b,ws.length,0⟩,ws.length,rfl,Nat.le_refl _,rfl,?_⟩
 have:=eQ h1 (by rw[eh]; exact h2)
 rw[eh]at this
 exact this
theorem WK.same{b:Nat}{H H':ae}{v:af}{ws:List Bs}(h:WK b H v ws)(e:H'.get b=H.get b):WK b H' v ws:=by
 obtain⟨a,c,h1,h2,rfl,hr⟩:=h
 exact⟨a,c,h1,h2,rfl,by rw[wo e]; exact hr⟩
theorem su{a:Ad}{k c lo hi:Nat}{lo' hi':Option af}(e:jh k c lo' hi' none=some (lo,hi,none)):Hk 1 (.slice (some a) k (.known c)) lo' hi' none=some (bif Nat.beq c lo then .slice (some a) (hi-lo) (.known (c-lo)) else .slice (some ⟨a.b,a.lim,a.o+lo⟩) (hi-lo) (.known (c-lo))):=by
 simp only[Hk,e,Option.getD_none,Nat.mul_one]
 cases Nat.beq c lo <;> rfl
theorem WK.sub{b:Nat}{H:ae}{v:af}{ws:List Bs}(h:WK b H v ws){lo hi:Nat}{lo' hi':Option af}(h1:lo<=hi)(h2:hi<=ws.length)(e:∀k c,k=ws.length->k<=c->jh k c lo' hi' none=some (lo,hi,none)):∃v',Hk 1 v lo' hi' none=some v'/\WK b H v' ((ws.drop lo).take (hi-lo)):=by
 obtain⟨a,c,rfl,hc,rfl,hr⟩:=h
 have hl:((ws.drop lo).take (hi-lo)).length=hi-lo:=by rw[PO,PN]; omega
 refine⟨_,su (e _ c rfl hc),?_⟩
 cases hb:Nat.beq c lo with
 | true=>
  have:=Py hb
  obtain rfl:hi=lo:=om
  refine⟨a,c-hi,by rw[hl]; rfl,by rw[hl]; omega,rfl,?_⟩
  rw[hl,Nat.sub_self]
  exact KF hr (Nat.zero_le _)
 | false=>
  refine⟨⟨a.b,a.lim,a.o+lo⟩,c-lo,by rw[hl]; rfl,by rw[hl]; omega,rfl,?_⟩
  rw[hl]
  have:=Bc hr (i:=lo) (j:=hi-lo) om
  rw[this]
  simp only[bX,List.map_take,List.map_drop]
theorem LM{lo k c:Nat}(h:lo<=k):jh k c (some (.int .i64 (lo:Int))) none none=some (lo,k,none):=by
 have:bd (.int .i64 (lo:Int)) k=some lo:=jB h
 simp only[jh,DA,this]
theorem GO{hi k c:Nat}(h:hi<=c):jh k c none (some (.int .i64 (hi:Int))) none=some (0,hi,none):=by
 have:bd (.int .i64 (hi:Int)) c=some hi:=jB h
 simp only[jh,DA,this]
theorem xN{lo hi k c:Nat}(h:lo<=hi)(h2:hi<=c):jh k c (some (.int .i64 (lo:Int))) (some (.int .i64 (hi:Int))) none=some (lo,hi,none):=by
 have e1:bd (.int .i64 (hi:Int)) c=some hi:=jB h2
 have e2:bd (.int .i64 (lo:Int)) hi=some lo:=jB h
 simp only[jh,DA,e1,e2]
theorem Kx{b n:Nat}(hn:0<n):Hk 1 (kB b n (.known n)) none (some (.int .i64 (n:Int))) none=some (kB b n (.known n)):=by
 have hb:Nat.beq n 0=false:=by cases n with | zero=>omega | succ n=>rfl
 rw[kB,su (GO rL),hb]
 rfl
set_option maxRecDepth 20000 in
theorem yE{s:Bs}(hs:s.length<=1000000){H:ae}:aq Tryz.prog aG 21 [.str s,.str [10]] H fun v H'=>(∃b,v=kB b (sp [] s).length (.known (sp [] s).length)/\Row H' b (bX (sp [] s))/\H.next<=b/\b<H'.next)/\bg H.next H H':=by
 refine ai rfl OI rfl ?_
 simp only[c21,sA,sB,seval]
 have hcl:s.count 10<=s.length:=List.count_le_length
 obtain⟨n,hn⟩:∃n,n=s.count 10+1:=⟨_,rfl⟩
 have hsl:(sp [] s).length=n:=by rw[pP,hn]
 rw[hsl]
 obtain⟨H1,m1,r1,n1,k1⟩:=sD (H:=H) (z:=.str []) (bytes:=16) (k:=n) om om
 have e1:=dY n1 k1
 have key:aq Tryz.prog aG 61 [.str s,.str [10],.int .i64 0,.int .i64 (Int.negSucc 0)] H fun v H'=>(∃b,v=kB b n (.known n)/\Row H' b (bX (sp [] s))/\H.next<=b/\b<H'.next)/\bg H.next H H':=by
  refine ai rfl N6 rfl ?_
  have a1:¬(Int.negSucc 0)=0:=om
  have a2:(Int.negSucc 0)<0:=om
  have w1:IntKind.i64.wrap ((s.count 10:Int)+1)=(n:Int):=by rw[hn]; exact cE _ om
  have w2:=cE s.length om
  have hmin:(if ((s.length+1:Nat):Int)<(n:Int) then ((s.length+1:Nat):Int) else (n:Int))=(n:Int):=if_neg om
  have w3:IntKind.i64.wrap ((n:Int)-1)=((n-1:Nat):Int):=by rw[aV om om]; omega
  simp only[c61,sA,sB,seval,a1,a2]
  refine (Af rfl s).mono ?_
  rintro _ _ ⟨rfl,rfl⟩
  simp only[sA,sB,seval,w1,w2,yV,hmin,m1,w3]
  refine fH (fun (T:bN) H'=>∃(s':Bs) (L:List Bs),T 0=.str s'/\T 9=kB H.next n (.known n)/\T 10=.int .i64 ((n-1:Nat):Int)/\s'.count 10=0/\sp [] s=L++sp [] s'/\L.length=n-1/\Row H' H.next (bX L++List.replicate 1 (.str []))/\bg H.next H H'/\H.next<H'.next) (bP _ _) ?_ ?_
  ·refine bM (fun m (T:bN) H'=>∃(i:Nat) (s':Bs) (L:List Bs),m=n-i/\i+1+s'.count 10=n/\s'.length<=s.length/\T 0=.str s'/\T 1=.str [10]/\T 2=.int .i64 0/\T 3=.int .i64 ((n-1:Nat):Int)/\T 9=kB H.next n (.known n)/\T 10=.int .i64 (i:Int)/\sp [] s=L++sp [] s'/\L.length=i/\Row H' H.next (bX L++List.replicate (n-i) (.str []))/\bg H.next H H'/\H.next<H'.next) n
    ⟨0,s,[],om,om,om,by simp only[sA,sB,seval],by simp only[sA,sB,seval],by simp only[sA,sB,seval],by simp only[sA,sB,seval],by simp only[sA,sB,seval],by simp only[sA,sB,seval],rfl,rfl,by simpa[bX] using r1,e1,om⟩ ?_
   rintro m T H2 ⟨i,s',L,rfl,hi,hsl',g0,g1,g2,g3,g9,g10,hsp,hL,r2,e2,hn2⟩
   by_cases hlt:i<n-1
   ·have hlt':(i:Int)<((n-1:Nat):Int):=om
    obtain⟨k,q1,q2,q3,q4,q5⟩:=ER (s:=s') om
    simp only[sA,sB,seval,g0,g1,g2,g3,g9,g10,hlt']
    refine ai rfl NP rfl ?_
    simp only[c84,sA,sB,seval]
    refine (wS 10).mono ?_
    rintro _ _ ⟨rfl,rfl⟩
    have en:(fun x:UInt8=>!decide (x.toNat=(10:UInt8).toNat))=KM:=rfl
    rw[uS,en,q3,if_neg (by simp),q1,Nat.zero_add]
    have c1:¬((k:Nat):Int)<0:=om
    have w4:IntKind.i64.wrap ((k:Int)+0)=(k:Int):=by rw[aV om om]; omega
    have s1:=oX (s:=s') (h:=k) om
    have s2:=oW (s:=s') (l:=k+1) q2
    have hl1:((List.length [(10:UInt8)]:Nat):Int)=1:=rfl
    have w5:=cE k om
    have w6:=cE i om
    have hlen:(bX L++List.replicate (n-i) (af.str [])).length=n:=by simp[eh,hL]; omega
    obtain⟨H3,m3,r3,n3,k3⟩:=bA r2 hlen (i:=i) om (x:=.str (s'.take k)) rfl
    have er:(bX L++List.replicate (n-i) (af.str [])).set i (.str (s'.take k))=bX (L++[s'.take k])++List.replicate (n-(i+1)) (af.str []):=by
     have h1:(bX L).length=i:=by rw[eh,hL]
     have h2:List.replicate (n-i) (af.str [])=.str []::List.replicate (n-(i+1)) (af.str []):=by
      rw[show n-i=(n-(i+1))+1 by omega,List.replicate_succ]
     have h3:=pQ (bX L) (List.replicate (n-(i+1)) (af.str [])) (af.str []) (.str (s'.take k))
     rw[h1]at h3
     rw[h2,h3,sj]
     simp
    rw[er]at r3
    simp only[sA,sB,seval,g0,g1,g2,g3,g9,g10,c1,w4,s1,l9 .i64 (show i<n by omega),m3,hl1,w5,s2,w6]
    refine⟨_,om,i+1,s'.drop (k+1),L++[s'.take k],rfl,om,by rw[PN]; omega,tt,tt,tt,tt,tt,tt,by rw[hsp,q4]; simp,by rw[lA,hL]; rfl,r3,⟨by have:=e2.next; omega,fun c hc=>by rw[k3 c om]; exact e2.old c hc⟩,om⟩
   ·have hlt':¬(i:Int)<((n-1:Nat):Int):=om
    obtain rfl:i=n-1:=om
    simp only[sA,sB,seval,g3,g10,hlt']
    exact⟨s',L,g0,g9,tt,om,hsp,hL,by rw[show n-(n-1)=1 by omega]at r2; exact r2,e2,hn2⟩
  ·rintro T H2 ⟨s',L,g0,g9,g10,hz,hsp,hL,r2,e2,hn2⟩
   have hlen:(bX L++List.replicate 1 (af.str [])).length=n:=by simp[eh,hL]; omega
   obtain⟨H3,m3,r3,n3,k3⟩:=bA r2 hlen (i:=n-1) om (x:=.str s') rfl
   have er:(bX L++List.replicate 1 (af.str [])).set (n-1) (.str s')=bX (sp [] s):=by
    have h1:(bX L).length=n-1:=by rw[eh,hL]
    have h3:=pQ (bX L) [] (af.str []) (.str s')
    rw[h1]at h3
    rw[show List.replicate 1 (af.str [])=[af.str []] from rfl,h3,hsp,Kv hz,List.nil_append,sj]
   rw[er]at r3
   have w7:IntKind.i64.wrap (((n-1:Nat):Int)+1)=(n:Int):=by rw[aV om om]; omega
   have sl:Hk 1 (kB H.next n (.known n)) none (some (.int .i64 (n:Int))) none=some (kB H.next n (.known n)):=by
    exact Kx om
   simp only[sA,sB,seval,g0,g9,g10,l9 .i64 (show n-1<n by omega),m3,w7,sl]
   exact⟨⟨H.next,rfl,r3,Nat.le_refl _,om⟩,⟨by have:=e2.next; omega,fun c hc=>by rw[k3 c om]; exact e2.old c hc⟩⟩
 refine key.mono ?_
 rintro v H' h
 simp only[sA,sB,seval]
 exact h
open Go.Abs Go.Abs.S
theorem kG(k:Bs):∀(es:List gr) (j:Nat),(∀e∈es,∃s,e.1=.str s) ->
  (∃i e,e∈es/\e.1=.str k/\bY .str (.str k) es j=some (some (j+i,e))/\∀x n,bY .str (.str k) (jY es i (.str k,x,n)) j=some (some (j+i,(.str k,x,n))))∨((∀e∈es,e.1≠.str k)/\bY .str (.str k) es j=some none)
 | [],j,_=>.inr ⟨by simp,rfl⟩
 | e::r,j,h=>by
  obtain⟨s,hs⟩:=h e (by simp)
  by_cases hk:k=s
  ·subst hk
   refine .inl ⟨0,e,by simp,hs,?_,fun x n=>?_⟩
   ·simp[bY,hs,ry]
   ·simp[jY,bY,ry]
  ·have hq:ry .str (.str k) e.1=some false:=by rw[hs]; simp[ry,hk]
   rcases kG k r (j+1) (fun e' he=>h e' (by simp[he])) with⟨i,e',h1,h2,h3,h4⟩ | ⟨h1,h2⟩
   ·refine .inl ⟨i+1,e',by simp[h1],h2,?_,fun x n=>?_⟩
    ·simp only[bY,hq,h3]; rw[show j+1+i=j+(i+1) by omega]
    ·simp only[jY,bY,hq,h4]; rw[show j+1+i=j+(i+1) by omega]
   ·refine .inr ⟨fun e' he=>?_,?_⟩
    ·rcases List.mem_cons.1 he with rfl | he
     ·rw[hs]; intro e'; simp only[af.str.injEq]at e'; exact hk e'.symm
     ·exact h1 e' he
    ·simp only[bY,hq,h2]
structure rh(es:List gr)(l:List Nat):Prop where
 mem:∀e∈es,∃i,i<9/\e.1=.str (ef i)/\i∈l/\e.2.1=.int .i64 1
 has:∀i∈l,∃e∈es,e.1=.str (ef i)
theorem Eg{i j:Nat}(hi:i<9)(hj:j<9)(h:ef i=ef j):i=j:=by
 have:∀i j:Fin 9,ef i.1=ef j.1->i.1=j.1:=by decide
 exact this ⟨i,hi⟩ ⟨j,hj⟩ h
structure fZ(F:Nat->Prop)(H:ae)(rb mb:Nat)(ps:PS)(vm vb vu:af):Prop where
 row:Row H rb (dH ps.1 vm vb vu++[.map (some mb)])
 am:dI 6 0 H vm (ps.1.ms.flatMap iD) ps.1.ms.length
 ab:dI 5 0 H vb (ps.1.bs.flatMap oz) ps.1.bs.length
 au:dI 5 0 H vu (ps.1.us.flatMap rx) ps.1.us.length
 fm:ed vm fun c=>¬F c/\c≠rb/\c≠mb
 fb:ed vb fun c=>¬F c/\c≠rb/\c≠mb
 fu:ed vu fun c=>¬F c/\c≠rb/\c≠mb
 d1:HH vm vb
 d2:HH vm vu
 d3:HH vb vu
 rn:rb<H.next
 mn:mb<H.next
 ne:rb≠mb
 nr:¬F rb
 nm:¬F mb
 fn:∀c,F c->c<H.next
 seen:∃es n,H.get mb=some (.map es n)/\rh es ps.2
structure Fx(F:Nat->Prop)(H H':ae):Prop where
 next:H.next<=H'.next
 old:∀c,F c->H'.get c=H.get c
theorem Fx.refl(F:Nat->Prop)(H:ae):Fx F H H:=⟨Nat.le_refl _,fun _ _=>rfl⟩
theorem Fx.trans{F:Nat->Prop}{H H' H2:ae}(a:Fx F H H')(b:Fx F H' H2):Fx F H H2:=⟨Nat.le_trans a.next b.next,fun c h=>(b.old c h).trans (a.old c h)⟩
section
variable {F:Nat->Prop} {H H':ae} {rb mb:Nat} {ps:PS} {vm vb vu:af}
theorem fZ.fx(S:fZ F H rb mb ps vm vb vu)(f:Fp rb H H'):Fx F H H':=⟨f.next,fun c hc=>f.old c (S.fn c hc) (fun e=>S.nr (e ▸ hc))⟩
theorem du(S:fZ F H rb mb ps vm vb vu)(e:bg H.next H H'):Fx F H H':=⟨e.next,fun c hc=>e.old c (S.fn c hc)⟩
theorem fZ.hd(S:fZ F H rb mb ps vm vb vu)(f:Fp rb H H'){s:Sc}(hm:s.ms=ps.1.ms)(hb:s.bs=ps.1.bs)(hu:s.us=ps.1.us)(r:Row H' rb (dH s vm vb vu++[.map (some mb)])):fZ F H' rb mb (s,ps.2) vm vb vu:=by
 have hk:∀{v:af},ed v (·<H.next)->ed v (fun c=>¬F c/\c≠rb/\c≠mb)->ed v fun c=>H'.get c=H.get c:=fun h1 h2 a m q e=>f.old _ (h1 a m q e) (h2 a m q e).2.1
 obtain⟨es,n,h1,h2⟩:=S.seen
 exact⟨r,by simp only[hm]; exact S.am.same f.next (hk S.am.blk' S.fm),by simp only[hb]; exact S.ab.same f.next (hk S.ab.blk' S.fb),by simp only[hu]; exact S.au.same f.next (hk S.au.blk' S.fu),S.fm,S.fb,S.fu,S.d1,S.d2,S.d3,PH S.rn f.next,PH S.mn f.next,S.ne,S.nr,S.nm,fun c hc=>PH (S.fn c hc) f.next,es,n,by rw[f.old _ S.mn S.ne.symm]; exact h1,h2⟩
theorem fZ.ext(S:fZ F H rb mb ps vm vb vu)(e:bg H.next H H'):fZ F H' rb mb ps vm vb vu:=
 S.hd (Fp.of_ext e) rfl rfl rfl (S.row.up e S.rn)
theorem fZ.len(S:fZ F H rb mb ps vm vb vu):(dH ps.1 vm vb vu++[af.map (some mb)]).length=22:=rfl
end
def hX(F:Nat->Prop)(H:ae)(rb mb:Nat)(seen:List Nat)(o:Option Sc)(v:af)(H':ae):Prop:=
 Fx F H H'/\((∃s vm vb vu,o=some s/\v=.bool true/\fZ F H' rb mb (s,seen) vm vb vu)∨(o=none/\v=.bool false))
structure oS(rb mb:Nat)(H:ae)(v:af)(ws:List Bs):Prop where
 wk:∃b,WK b H v ws/\b<H.next/\b≠rb/\b≠mb
 len:∀w∈ws,w.length<=1000000
theorem oS.big{rb mb:Nat}{H:ae}{v:af}{ws:List Bs}(h:oS rb mb H v ws):∀w∈ws,w.length<=4611686018427387904:=fun w hw=>by have:=h.len w hw; omega
section
variable {F:Nat->Prop} {H:ae} {rb mb sb:Nat} {ps:PS} {vm vb vu vl:af} {ws:List Bs}
theorem DY{wb:Nat}(h:WK wb H vl ws){H':ae}(f:Fp rb H H')(h1:wb<H.next)(h2:wb≠rb):Wl (·=wb) H' vl ws:=(h.same (f.old _ h1 h2)).wl
theorem MY{lo hi:Nat}{ns:List Int}(hl:ws.length=2)(h:fg (fj lo hi) ws=some ns):∃a b x y,ws=[a,b]/\ns=[x,y]/\fj lo hi a=some x/\fj lo hi b=some y:=by
 obtain⟨a,b,rfl⟩:∃a b,ws=[a,b]:=by
  rcases ws with _ | ⟨a,_ | ⟨b,_ | ⟨c,r⟩⟩⟩ <;> simp at hl
  exact⟨a,b,rfl⟩
 simp only[fg]at h
 split at h <;> first | (simp at h; done) | skip
 rename_i x hx
 split at h <;> first | (simp at h; done) | skip
 rename_i y hy
 simp only[Option.map_some,sJ]at h
 subst h
 exact⟨a,b,x,y,rfl,rfl,hx,hy⟩
theorem J7{f:Bs->Option Int}{ns:List Int}(hl:ws.length=1)(h:fg f ws=some ns):∃a x,ws=[a]/\ns=[x]/\f a=some x:=by
 obtain⟨a,rfl⟩:∃a,ws=[a]:=by
  rcases ws with _ | ⟨a,_ | ⟨b,r⟩⟩ <;> simp at hl
  exact⟨a,rfl⟩
 simp only[fg]at h
 split at h <;> first | (simp at h; done) | skip
 rename_i x hx
 simp only[Option.map_some,sJ]at h
 subst h
 exact⟨a,x,rfl,rfl,hx⟩
theorem GB{f:Bs->Option Int}{α:Type}{g:Int->α}(h:ws.length=1->fg f ws=none):(match ws with | [a]=>(f a).map g | _=>none)=none:=by
 rcases ws with _ | ⟨a,_ | ⟨b,r⟩⟩
 ·rfl
 ·have:=h rfl
  simp only[fg]at this
  split at this
  ·rename_i hx; simp only[hx,Option.map_none]
  ·simp at this
 ·rfl
theorem Eu(S:fZ F H rb mb ps vm vb vu)(W:oS rb mb H vl ws)(B:Row H sb [aj rb 22 0]):aq Tryz.prog aG 40 [vl,aj sb 1 0] H (hX F H rb mb ps.2 (ct 0 ps.1 ws)):=by
 refine ai rfl Ou rfl ?_
 obtain⟨wb,hw,w1,w2,w3⟩:=W.wk
 have l0:=an 1 0 B rfl rfl
 simp only[c40,sA,sB,seval,l0,aI,aF,I8]
 have f0:=mL rb H (.cells [aj rb 22 0,aj rb 22 1] 0 false)
 have ht:=mj (H:=H) (b:=rb) (n:=22) (o:=0) (k:=2) [aj rb 22 0,aj rb 22 1] rfl
 refine (oJ (lo:=1) (hi:=1024) (Q:=(·=H.next)) (DY hw f0 w1 w2) (fun c hc=>by subst hc; exact⟨by rw[aR]; omega,w2⟩) ht (fun c hc=>⟨by rw[aR]; omega,by have:=S.rn; omega⟩) (S.row.same (aU S.rn)) S.len om W.big (by rw[aR]; have:=S.rn; omega) om om).mono ?_
 rintro v H' ⟨f,C',r',hC',h⟩
 have f:=f0.trans f
 simp only[sA,sB,seval]
 refine⟨S.fx f,?_⟩
 rcases h with⟨rfl,h1,ns,h2,rfl⟩ | ⟨rfl,h1⟩
 ·obtain⟨a,b,x,y,rfl,rfl,hx,hy⟩:=MY h1 h2
  exact .inl ⟨_,vm,vb,vu,by simp only[ct,hx,hy],rfl,S.hd f (s:={ ps.1 with w:=x,h:=y }) rfl rfl rfl r'⟩
 ·refine .inr ⟨?_,rfl⟩
  simp only[ct]
  split
  ·rename_i a b
   have:=h1 rfl
   simp only[fg]at this
   split at this
   ·rename_i hx; simp only[hx]
   ·rename_i x hx
    simp only[hx]
    split at this
    ·rename_i hy; simp only[hy]
    ·simp at this
  ·rfl
theorem vO{f:Nat}{o lo hi:Nat}{c:cg}(S:fZ F H rb mb ps vm vb vu)(W:oS rb mb H vl ws)(ho:o<18)(hhi:hi<=1000000){g:Int->Sc}(hg:∀x,(g x).ms=ps.1.ms/\(g x).bs=ps.1.bs/\(g x).us=ps.1.us/\mh (dH ps.1 vm vb vu++[.map (some mb)]) o [x]=dH (g x) vm vb vu++[.map (some mb)]){K:af->ae->Prop}
  (hK:∀v H',hX F H rb mb ps.2 (match ws with | [a]=>(fj lo hi a).map g | _=>none) v H'->K v H') :
  aq Tryz.prog aG 41 [vl,.int .u64 (lo:Int),.int .u64 (hi:Int),kB H.next 1 (.known 1)] (H.push (.cells [aj rb 22 o] 0 false)) K:=by
 obtain⟨wb,hw,w1,w2,w3⟩:=W.wk
 have f0:=mL rb H (.cells [aj rb 22 o] 0 false)
 have ht:=mj (H:=H) (b:=rb) (n:=22) (o:=o) (k:=1) [aj rb 22 o] rfl
 refine (oJ (lo:=lo) (hi:=hi) (Q:=(·=H.next)) (DY hw f0 w1 w2) (fun c hc=>by subst hc; exact⟨by rw[aR]; omega,w2⟩) ht (fun c hc=>⟨by rw[aR]; omega,by have:=S.rn; omega⟩) (S.row.same (aU S.rn)) S.len om W.big (by rw[aR]; have:=S.rn; omega) om hhi).mono ?_
 rintro v H' ⟨f,C',r',hC',h⟩
 have f:=f0.trans f
 refine hK _ _ ⟨S.fx f,?_⟩
 rcases h with⟨rfl,h1,ns,h2,rfl⟩ | ⟨rfl,h1⟩
 ·obtain⟨a,x,rfl,rfl,hx⟩:=J7 h1 h2
  obtain⟨g1,g2,g3,g4⟩:=hg x
  exact .inl ⟨_,vm,vb,vu,by simp only[hx,Option.map_some],rfl,S.hd f g1 g2 g3 (by rw[<- g4]; exact r')⟩
 ·exact .inr ⟨GB h1,rfl⟩
theorem Et(S:fZ F H rb mb ps vm vb vu)(W:oS rb mb H vl ws)(B:Row H sb [aj rb 22 0]):aq Tryz.prog aG 42 [vl,aj sb 1 0] H (hX F H rb mb ps.2 (ct 1 ps.1 ws)):=by
 refine ai rfl Oq rfl ?_
 have l0:=an 1 0 B rfl rfl
 simp only[Pd,sA,sB,seval,l0,aI,aF,vn]
 refine vO (f:=0) (c:=Pd) (lo:=1) (hi:=64) (o:=2) S W om om (g:=fun x=>{ ps.1 with sm:=x }) (fun x=>⟨rfl,rfl,rfl,rfl⟩) fun v H' h=>?_
 simp only[sA,sB,seval]
 exact h
theorem Es(S:fZ F H rb mb ps vm vb vu)(W:oS rb mb H vl ws)(B:Row H sb [aj rb 22 0]):aq Tryz.prog aG 43 [vl,aj sb 1 0] H (hX F H rb mb ps.2 (ct 2 ps.1 ws)):=by
 refine ai rfl Oo rfl ?_
 have l0:=an 1 0 B rfl rfl
 simp only[Pc,sA,sB,seval,l0,aI,aF,vn]
 refine vO (f:=0) (c:=Pc) (lo:=0) (hi:=8) (o:=3) S W om om (g:=fun x=>{ ps.1 with bo:=x }) (fun x=>⟨rfl,rfl,rfl,rfl⟩) fun v H' h=>?_
 simp only[sA,sB,seval]
 exact h
theorem Er(S:fZ F H rb mb ps vm vb vu)(W:oS rb mb H vl ws)(B:Row H sb [aj rb 22 0]):aq Tryz.prog aG 44 [vl,aj sb 1 0] H (hX F H rb mb ps.2 (ct 3 ps.1 ws)):=by
 refine ai rfl On rfl ?_
 obtain⟨wb,hw,w1,w2,w3⟩:=W.wk
 have l0:=an 1 0 B rfl rfl
 simp only[c44,sA,sB,seval,l0,aI,aF]
 refine (CI (b:=rb) (n:=22) (o:=4) hw.wl (fun c hc=>by subst hc; exact⟨w1,w2⟩) S.row S.len om W.big).mono ?_
 rintro v H' ⟨f,C',r',hC',h⟩
 simp only[sA,sB,seval]
 refine⟨S.fx f,?_⟩
 rcases h with⟨x,h1,rfl,rfl⟩ | ⟨h1,rfl⟩
 ·refine .inl ⟨_,vm,vb,vu,?_,rfl,S.hd f (s:={ ps.1 with seed:=x }) rfl rfl rfl r'⟩
  simp only[ct]
  unfold pR at h1
  split at h1 <;> first | (simp at h1; done) | skip
  rename_i a
  simp only
  split at h1 <;> first | (simp at h1; done) | skip
  split at h1 <;> first | (simp at h1; done) | skip
  simp only[sJ]at h1
  subst h1
  simp only[*,if_true]
 ·refine .inr ⟨?_,rfl⟩
  simp only[ct]
  unfold pR at h1
  split
  ·simp only at h1
   split at h1
   ·split at h1
    ·simp at h1
    ·rename_i n hn hlt; simp only[hn,if_neg hlt]
   ·rename_i hn; simp only[hn]
  ·rfl
theorem lX{f:Nat}{o:Nat}(S:fZ F H rb mb ps vm vb vu)(W:oS rb mb H vl ws)(ho:o<16){g:Vc->Sc}(hg:∀x,(g x).ms=ps.1.ms/\(g x).bs=ps.1.bs/\(g x).us=ps.1.us/\mh (dH ps.1 vm vb vu++[.map (some mb)]) o [x.x,x.y,x.z]=dH (g x) vm vb vu++[.map (some mb)]){K:af->ae->Prop}
  (hK:∀v H',Fx F H H'->H.next<=H'.next->((∃x,gw ws=some x/\v=.bool true/\fZ F H' rb mb (g x,ps.2) vm vb vu)∨(gw ws=none/\v=.bool false))->(∀c,c<H.next->c≠rb->H'.get c=H.get c)->K v H'):aq Tryz.prog aG 47 [vl,aj rb 22 o] H K:=by
 obtain⟨wb,hw,w1,w2,w3⟩:=W.wk
 refine (pC (b:=rb) (n:=22) (o:=o) hw.wl (fun c hc=>by subst hc; exact⟨w1,w2⟩) S.row S.len om W.big S.rn).mono ?_
 rintro v H' ⟨f,C',r',hC',h⟩
 refine hK v H' (S.fx f) f.next ?_ f.old
 rcases h with⟨x,h1,rfl,rfl⟩ | ⟨h1,rfl⟩
 ·obtain⟨g1,g2,g3,g4⟩:=hg x
  exact .inl ⟨x,h1,rfl,S.hd f g1 g2 g3 (by rw[<- g4]; exact r')⟩
 ·exact .inr ⟨h1,rfl⟩
end
open Go.Abs Go.Abs.S
section
variable {F:Nat->Prop} {H:ae} {rb mb sb:Nat} {ps:PS} {vm vb vu vl:af} {ws:List Bs}
theorem Ep(S:fZ F H rb mb ps vm vb vu)(W:oS rb mb H vl ws)(B:Row H sb [aj rb 22 0])(hsb:sb<H.next/\sb≠rb):aq Tryz.prog aG 46 [vl,aj sb 1 0] H (hX F H rb mb ps.2 (ct 4 ps.1 ws)):=by
 refine ai rfl Ol rfl ?_
 have l0:=an 1 0 B rfl rfl
 simp only[c46,sA,sB,seval,l0,aI,aF]
 refine lX (f:=0) (o:=5) S W om (g:=fun x=>{ ps.1 with eye:=x }) (fun x=>⟨rfl,rfl,rfl,rfl⟩) fun v H' fx hn h old=>?_
 have l1:=an 1 0 (B.same (old _ hsb.1 hsb.2)) rfl rfl
 rcases h with⟨x,h1,rfl,S1⟩ | ⟨h1,rfl⟩
 ·have l2:=aH 22 5 3 S1.row S1.len (xs:=fk x) om rfl
  simp only[sA,sB,seval,l1,aI,aF,l2]
  refine (eW (v:=x)).mono ?_
  rintro _ H2 ⟨rfl,e2⟩
  have S2:=S1.ext e2
  simp only[sA,sB,seval]
  refine⟨fx.trans (du S1 e2),?_⟩
  cases hf:gZ x with
  | true=>exact .inl ⟨_,vm,vb,vu,by simp only[ct,j9,h1,hf,if_true,Option.map_some],rfl,S2⟩
  | false=>exact .inr ⟨by simp[ct,j9,h1,hf],rfl⟩
 ·simp only[sA,sB,seval]
  exact⟨fx,.inr ⟨by simp only[ct,j9,h1,Option.map_none],rfl⟩⟩
theorem Eo(S:fZ F H rb mb ps vm vb vu)(W:oS rb mb H vl ws)(B:Row H sb [aj rb 22 0])(hsb:sb<H.next/\sb≠rb):aq Tryz.prog aG 48 [vl,aj sb 1 0] H (hX F H rb mb ps.2 (ct 5 ps.1 ws)):=by
 refine ai rfl Oj rfl ?_
 have l0:=an 1 0 B rfl rfl
 simp only[c48,sA,sB,seval,l0,aI,aF]
 refine lX (f:=0) (o:=8) S W om (g:=fun x=>{ ps.1 with at_:=x }) (fun x=>⟨rfl,rfl,rfl,rfl⟩) fun v H' fx hn h old=>?_
 have l1:=an 1 0 (B.same (old _ hsb.1 hsb.2)) rfl rfl
 rcases h with⟨x,h1,rfl,S1⟩ | ⟨h1,rfl⟩
 ·have l2:=aH 22 8 3 S1.row S1.len (xs:=fk x) om rfl
  simp only[sA,sB,seval,l1,aI,aF,l2]
  refine (eW (v:=x)).mono ?_
  rintro _ H2 ⟨rfl,e2⟩
  have S2:=S1.ext e2
  simp only[sA,sB,seval]
  refine⟨fx.trans (du S1 e2),?_⟩
  cases hf:gZ x with
  | true=>exact .inl ⟨_,vm,vb,vu,by simp only[ct,j9,h1,hf,if_true,Option.map_some],rfl,S2⟩
  | false=>exact .inr ⟨by simp[ct,j9,h1,hf],rfl⟩
 ·simp only[sA,sB,seval]
  exact⟨fx,.inr ⟨by simp only[ct,j9,h1,Option.map_none],rfl⟩⟩
theorem El(S:fZ F H rb mb ps vm vb vu)(W:oS rb mb H vl ws)(B:Row H sb [aj rb 22 0])(hsb:sb<H.next/\sb≠rb):aq Tryz.prog aG 49 [vl,aj sb 1 0] H (hX F H rb mb ps.2 (ct 6 ps.1 ws)):=by
 refine ai rfl Oi rfl ?_
 have l0:=an 1 0 B rfl rfl
 simp only[c49,sA,sB,seval,l0,aI,aF]
 refine lX (f:=0) (o:=11) S W om (g:=fun x=>{ ps.1 with up:=x }) (fun x=>⟨rfl,rfl,rfl,rfl⟩) fun v H' fx hn h old=>?_
 have l1:=an 1 0 (B.same (old _ hsb.1 hsb.2)) rfl rfl
 rcases h with⟨x,h1,rfl,S1⟩ | ⟨h1,rfl⟩
 ·have l2:=aH 22 11 3 S1.row S1.len (xs:=fk x) om rfl
  simp only[sA,sB,seval,l1,aI,aF,l2]
  refine (eW (v:=x)).mono ?_
  rintro _ H2 ⟨rfl,e2⟩
  have S2:=S1.ext e2
  simp only[sA,sB,seval]
  refine⟨fx.trans (du S1 e2),?_⟩
  cases hf:gZ x with
  | true=>exact .inl ⟨_,vm,vb,vu,by simp only[ct,j9,h1,hf,if_true,Option.map_some],rfl,S2⟩
  | false=>exact .inr ⟨by simp[ct,j9,h1,hf],rfl⟩
 ·simp only[sA,sB,seval]
  exact⟨fx,.inr ⟨by simp only[ct,j9,h1,Option.map_none],rfl⟩⟩
theorem Ek(S:fZ F H rb mb ps vm vb vu)(W:oS rb mb H vl ws)(B:Row H sb [aj rb 22 0])(hsb:sb<H.next/\sb≠rb):aq Tryz.prog aG 50 [vl,aj sb 1 0] H (hX F H rb mb ps.2 (ct 7 ps.1 ws)):=by
 refine ai rfl Oh rfl ?_
 obtain⟨wb,hw,w1,w2,w3⟩:=W.wk
 have l0:=an 1 0 B rfl rfl
 simp only[c50,sA,sB,seval,l0,aI,aF,vn]
 have f0:=mL rb H (.cells [aj rb 22 14] 0 false)
 have ht:=mj (H:=H) (b:=rb) (n:=22) (o:=14) (k:=1) [aj rb 22 14] rfl
 refine (jp (Q:=(·=H.next)) (DY hw f0 w1 w2) (fun c hc=>by subst hc; exact⟨by rw[aR]; omega,w2⟩) ht (fun c hc=>⟨by rw[aR]; omega,by have:=S.rn; omega⟩) (S.row.same (aU S.rn)) S.len om W.big (by rw[aR]; have:=S.rn; omega) om).mono ?_
 rintro v H' ⟨f,C',r',hC',h⟩
 have f:=f0.trans f
 have l1:=an 1 0 (B.same (f.old _ hsb.1 hsb.2)) rfl rfl
 rcases h with⟨rfl,h1,ns,h2,rfl⟩ | ⟨rfl,h1⟩
 ·obtain⟨a,x,rfl,rfl,hx⟩:=J7 h1 h2
  have S1:=S.hd f (s:={ ps.1 with wide:=x }) rfl rfl rfl r'
  have l2:bi false 1 H' (aj rb 22 14)=some (.int .i64 x):=an 22 14 S1.row S1.len rfl
  by_cases c1:0<x
  ·by_cases c2:x<=429496729600
   ·simp only[sA,sB,seval,l1,aI,aF,l2,c1,c2]
    exact⟨S.fx f,.inl ⟨_,vm,vb,vu,by simp[ct,hx,kV,c1,c2],tt,S1⟩⟩
   ·simp only[sA,sB,seval,l1,aI,aF,l2,c1,c2]
    exact⟨S.fx f,.inr ⟨by simp[ct,hx,kV,c2],tt⟩⟩
  ·simp only[sA,sB,seval,l1,aI,aF,l2,c1]
   exact⟨S.fx f,.inr ⟨by simp[ct,hx,kV,c1],tt⟩⟩
 ·simp only[sA,sB,seval]
  refine⟨S.fx f,.inr ⟨?_,rfl⟩⟩
  simp only[ct]
  rcases ws with _ | ⟨a,_ | ⟨b,r⟩⟩
  ·rfl
  ·have:=h1 rfl
   simp only[fg]at this
   split at this
   ·rename_i hx; simp only[hx]
   ·simp at this
  ·rfl
theorem Ej(S:fZ F H rb mb ps vm vb vu)(W:oS rb mb H vl ws)(B:Row H sb [aj rb 22 0])(hsb:sb<H.next/\sb≠rb):aq Tryz.prog aG 52 [vl,aj sb 1 0] H (hX F H rb mb ps.2 (ct 8 ps.1 ws)):=by
 refine ai rfl Of rfl ?_
 have l0:=an 1 0 B rfl rfl
 simp only[c52,sA,sB,seval,l0,aI,aF]
 refine lX (f:=0) (o:=15) S W om (g:=fun x=>{ ps.1 with sky:=x }) (fun x=>⟨rfl,rfl,rfl,rfl⟩) fun v H' fx hn h old=>?_
 have l1:=an 1 0 (B.same (old _ hsb.1 hsb.2)) rfl rfl
 rcases h with⟨x,h1,rfl,S1⟩ | ⟨h1,rfl⟩
 ·have l2:=aH 22 15 3 S1.row S1.len (xs:=fk x) om rfl
  simp only[sA,sB,seval,l1,aI,aF,l2]
  refine (hY (v:=x)).mono ?_
  rintro _ H2 ⟨rfl,e2⟩
  have S2:=S1.ext e2
  simp only[sA,sB,seval]
  refine⟨fx.trans (du S1 e2),?_⟩
  cases hf:vE x 0 274877906944 with
  | true=>exact .inl ⟨_,vm,vb,vu,by simp only[ct,h1,hf,if_true],rfl,S2⟩
  | false=>exact .inr ⟨by simp[ct,h1,hf],rfl⟩
 ·simp only[sA,sB,seval]
  exact⟨fx,.inr ⟨by simp only[ct,h1],rfl⟩⟩
end
open Go.Abs Go.Abs.S
theorem pm{s:Bs}(hs:s.length<=281474976710656){H:ae}:aq Tryz.prog aG 80 [.str s] H fun v H'=>v=.str s/\H=H':=by
 refine ai rfl NS rfl ?_
 simp only[c80,sA,sB,seval]
 refine lP (v:=.str s) (H':=H) rfl ?_ ?_
 ·show re H [.str s]=_
  simp only[re,Pt hs,cond_true]
 ·simp only[sA,sB,seval]; exact⟨tt,tt⟩
section
variable {F:Nat->Prop} {H:ae} {rb mb sb:Nat} {ps:PS} {vm vb vu vl:af} {ws:List Bs}
theorem kI{v w v':af}{n:Nat}(h:HH v w)(hw:ed w (·<n))(hp:∀P,ed v P->ed v' fun b=>P b∨n<=b):HH v' w:=by
 intro a m r b m' r' e1 e2
 have h1:ed v fun c=>c≠b.b:=fun a m r e=>h a m r b m' r' e e2
 have:=hp _ h1 a m r e1
 have:=hw b m' r' e2
 omega
theorem nP{v w:af}(h:HH v w){a:Ad}{m:Nat}{r:rR}(e:w=.slice (some a) m r):ed v (a.b≠·):=fun a' m' r' e'=>(h a' m' r' a m r e' e).symm
theorem fZ.growM(S:fZ F H rb mb ps vm vb vu){x:Mt}(hk:ps.1.ms.length<=1000):∃v' H2 H3,bE 6 64 (H.push (.cells (iD x) 0 false)) vm (p8 H 6)=some (v',H2)/\bD 1 H2 (aj rb 22 18) v'=some H3 /\
  fZ F H3 rb mb ({ ps.1 with ms:=ps.1.ms++[x] },ps.2) v' vb vu/\Fx F H H3/\∀c,c<H.next->c≠rb->ed vm (c≠·)->H3.get c=H.get c:=by
 obtain⟨v',H2,a1,G,a2,a3,a4⟩:=S.am.pushB (xs:=iD x) rfl rfl om (bytes:=64) om om
 have br:ed vm (rb≠·):=S.fm.mono fun c hc=>hc.2.1.symm
 have bm:ed vm (mb≠·):=S.fm.mono fun c hc=>hc.2.2.symm
 obtain⟨H3,m3,r3,n3,k3⟩:=bA (S.row.same (a4 rb S.rn br)) S.len (i:=18) (n:=22) om (x:=v') G.one
 have old:∀c,c<H.next->c≠rb->ed vm (c≠·)->H3.get c=H.get c:=fun c h1 h2 h3=>(k3 c h2).trans (a4 c h1 h3)
 have fx:Fx F H H3:=⟨om,fun c hc=>old c (S.fn c hc) (fun e=>S.nr (e ▸ hc)) (S.fm.mono fun d hd e=>hd.1 (e ▸ hc))⟩
 obtain⟨es,n,q1,q2⟩:=S.seen
 have keepb:ed vb fun c=>H3.get c=H.get c:=fun a m r e=>old _ (S.ab.blk' a m r e) (S.fb a m r e).2.1 (nP S.d1 e)
 have keepu:ed vu fun c=>H3.get c=H.get c:=fun a m r e=>old _ (S.au.blk' a m r e) (S.fu a m r e).2.1 (nP S.d2 e)
 refine⟨v',H2,H3,a1,m3,⟨r3,?_,S.ab.same fx.next keepb,S.au.same fx.next keepu,?_,S.fb,S.fu,kI S.d1 S.ab.blk' a3,kI S.d2 S.au.blk' a3,S.d3,PH S.rn fx.next,PH S.mn fx.next,S.ne,S.nr,S.nm,fun c hc=>PH (S.fn c hc) fx.next,es,n,by rw[old mb S.mn S.ne.symm bm]; exact q1,q2⟩,fx,old⟩
 ·have G3:=G.same (H':=H3) om ((a3 _ br).mono fun c hc=>k3 c (by have:=S.rn; omega))
  simp only[List.flatMap_append,List.flatMap_cons,List.flatMap_nil,List.append_nil,lA,Pv,Pw]
  exact G3
 ·refine (a3 _ S.fm).mono fun c hc=>?_
  rcases hc with hc | hc
  ·exact hc
  ·exact⟨fun h=>by have:=S.fn c h; omega,by have:=S.rn; omega,by have:=S.mn; omega⟩
theorem yi(S:fZ F H rb mb ps vm vb vu)(m:Mt)(h1:m.sh.length<=1000000)(h2:m.tx.length<=1000000)(hk:ps.1.ms.length<=64):aq Tryz.prog aG 79 [aj rb 22 0,.agg (iD m)] H (hX F H rb mb ps.2 (kr ps.1 m)):=by
 refine ai rfl NT rfl ?_
 obtain⟨H1,m1,r1,n1,k1⟩:=aP H (iD m) (n:=6) rfl
 have e1:=dY n1 k1
 have S1:=S.ext e1
 have ca:(af.agg (iD m)).cells=iD m:=rfl
 obtain⟨v',H2,H3,a1,a2,S3,f3,old⟩:=S1.growM (x:=m) om
 have lv:bi false 1 H1 (aj rb 22 18)=some vm:=an 22 18 S1.row S1.len rfl
 have lvP:bi false 1 (H1.push (.cells (iD m) 0 false)) (aj rb 22 18)=some vm:=an 22 18 (S1.row.same (aU S1.rn)) S1.len rfl
 have lx:=aH 6 0 6 r1 rfl (xs:=iD m) om rfl
 have bm:=qL (m:=6) (z:=[.int .u8 0,.int .i64 0,.int .i64 0,.int .i64 0,.str [],.str []]) (xs:=iD m) H1 rfl rfl
 have hae:aeq vm vm=true:=(gW.app S1.am (P:=fun _=>True) (fun _ _ _ _=>trivial)).aeq
 simp only[c79,sA,sB,seval,ca,m1]
 refine ff rfl ?_
 simp only[sR,sA,sB,seval,aI,aF,lv,lx,bm,a1,a2]
 simp only[gk,gn,fe,go,jw,and_true,true_and,List.map_cons,List.map_nil,sA,sB,seval,aF]
 refine⟨⟨_,rfl,fun _=>⟨_,lvP,hae⟩⟩,?_⟩
 have r3:Row H3 H.next (iD m):=r1.same (old H.next om (by have:=S.rn; omega) (S.am.blk'.mono fun c hc=>om))
 have lx3:=aH 6 0 6 r3 rfl (xs:=iD m) om rfl
 simp only[sA,sB,seval,lx3]
 refine (wH (m:=m)).mono ?_
 rintro _ H4 ⟨rfl,e4⟩
 have S4:=S3.ext e4
 have fx:Fx F H H4:=(du S e1).trans (f3.trans (du S3 e4))
 have l4:bi false 1 H4 (aj rb 22 18)=some v':=an 22 18 S4.row S4.len rfl
 have ln:=S4.am.len
 simp only[lA,Pv,Pw]at ln
 cases hm:gF m with
 | false=>
  simp only[sA,sB,seval]
  exact⟨fx,.inr ⟨by simp[kr,hm],rfl⟩⟩
 | true=>
  by_cases hl:ps.1.ms.length+1<=64
  ·have hl':((ps.1.ms.length+(0+1):Nat):Int)<=64:=om
   simp only[sA,sB,seval,aI,aF,l4,ln,hl']
   exact⟨fx,.inl ⟨_,v',vb,vu,by rw[kr,if_pos ⟨hm,hl⟩],tt,S4⟩⟩
  ·have hl':¬((ps.1.ms.length+(0+1):Nat):Int)<=64:=om
   simp only[sA,sB,seval,aI,aF,l4,ln,hl']
   exact⟨fx,.inr ⟨by rw[kr,if_neg (fun h=>hl h.2)],tt⟩⟩
end
open Go.Abs Go.Abs.S
section
variable {F:Nat->Prop} {H:ae} {rb mb sb:Nat} {ps:PS} {vm vb vu vl:af} {ws:List Bs}
theorem fZ.growB(S:fZ F H rb mb ps vm vb vu){x:Rd}(hk:ps.1.bs.length<=1000):∃v' H2 H3,bE 5 40 (H.push (.cells (oz x) 0 false)) vb (p8 H 5)=some (v',H2)/\bD 1 H2 (aj rb 22 19) v'=some H3 /\
  fZ F H3 rb mb ({ ps.1 with bs:=ps.1.bs++[x] },ps.2) vm v' vu/\Fx F H H3/\∀c,c<H.next->c≠rb->ed vb (c≠·)->H3.get c=H.get c:=by
 obtain⟨v',H2,a1,G,a2,a3,a4⟩:=S.ab.pushB (xs:=oz x) rfl rfl om (bytes:=40) om om
 have br:ed vb (rb≠·):=S.fb.mono fun c hc=>hc.2.1.symm
 have bm:ed vb (mb≠·):=S.fb.mono fun c hc=>hc.2.2.symm
 obtain⟨H3,m3,r3,n3,k3⟩:=bA (S.row.same (a4 rb S.rn br)) S.len (i:=19) (n:=22) om (x:=v') G.one
 have old:∀c,c<H.next->c≠rb->ed vb (c≠·)->H3.get c=H.get c:=fun c h1 h2 h3=>(k3 c h2).trans (a4 c h1 h3)
 have fx:Fx F H H3:=⟨om,fun c hc=>old c (S.fn c hc) (fun e=>S.nr (e ▸ hc)) (S.fb.mono fun d hd e=>hd.1 (e ▸ hc))⟩
 obtain⟨es,n,q1,q2⟩:=S.seen
 have keepm:ed vm fun c=>H3.get c=H.get c:=fun a m r e=>old _ (S.am.blk' a m r e) (S.fm a m r e).2.1 (nP S.d1.symm e)
 have keepu:ed vu fun c=>H3.get c=H.get c:=fun a m r e=>old _ (S.au.blk' a m r e) (S.fu a m r e).2.1 (nP S.d3 e)
 refine⟨v',H2,H3,a1,m3,⟨r3,S.am.same fx.next keepm,?_,S.au.same fx.next keepu,S.fm,?_,S.fu,(kI S.d1.symm S.am.blk' a3).symm,S.d2,kI S.d3 S.au.blk' a3,PH S.rn fx.next,PH S.mn fx.next,S.ne,S.nr,S.nm,fun c hc=>PH (S.fn c hc) fx.next,es,n,by rw[old mb S.mn S.ne.symm bm]; exact q1,q2⟩,fx,old⟩
 ·have G3:=G.same (H':=H3) om ((a3 _ br).mono fun c hc=>k3 c (by have:=S.rn; omega))
  simp only[List.flatMap_append,List.flatMap_cons,List.flatMap_nil,List.append_nil,lA,Pv,Pw]
  exact G3
 ·refine (a3 _ S.fb).mono fun c hc=>?_
  rcases hc with hc | hc
  ·exact hc
  ·exact⟨fun h=>by have:=S.fn c h; omega,by have:=S.rn; omega,by have:=S.mn; omega⟩
theorem fZ.growU(S:fZ F H rb mb ps vm vb vu){x:Us}(hk:ps.1.us.length<=1000):∃v' H2 H3,bE 5 48 (H.push (.cells (rx x) 0 false)) vu (p8 H 5)=some (v',H2)/\bD 1 H2 (aj rb 22 20) v'=some H3 /\
  fZ F H3 rb mb ({ ps.1 with us:=ps.1.us++[x] },ps.2) vm vb v'/\Fx F H H3/\∀c,c<H.next->c≠rb->ed vu (c≠·)->H3.get c=H.get c:=by
 obtain⟨v',H2,a1,G,a2,a3,a4⟩:=S.au.pushB (xs:=rx x) rfl rfl om (bytes:=48) om om
 have br:ed vu (rb≠·):=S.fu.mono fun c hc=>hc.2.1.symm
 have bm:ed vu (mb≠·):=S.fu.mono fun c hc=>hc.2.2.symm
 obtain⟨H3,m3,r3,n3,k3⟩:=bA (S.row.same (a4 rb S.rn br)) S.len (i:=20) (n:=22) om (x:=v') G.one
 have old:∀c,c<H.next->c≠rb->ed vu (c≠·)->H3.get c=H.get c:=fun c h1 h2 h3=>(k3 c h2).trans (a4 c h1 h3)
 have fx:Fx F H H3:=⟨om,fun c hc=>old c (S.fn c hc) (fun e=>S.nr (e ▸ hc)) (S.fu.mono fun d hd e=>hd.1 (e ▸ hc))⟩
 obtain⟨es,n,q1,q2⟩:=S.seen
 have keepm:ed vm fun c=>H3.get c=H.get c:=fun a m r e=>old _ (S.am.blk' a m r e) (S.fm a m r e).2.1 (nP S.d2.symm e)
 have keepb:ed vb fun c=>H3.get c=H.get c:=fun a m r e=>old _ (S.ab.blk' a m r e) (S.fb a m r e).2.1 (nP S.d3.symm e)
 refine⟨v',H2,H3,a1,m3,⟨r3,S.am.same fx.next keepm,S.ab.same fx.next keepb,?_,S.fm,S.fb,?_,S.d1,(kI S.d2.symm S.am.blk' a3).symm,(kI S.d3.symm S.ab.blk' a3).symm,PH S.rn fx.next,PH S.mn fx.next,S.ne,S.nr,S.nm,fun c hc=>PH (S.fn c hc) fx.next,es,n,by rw[old mb S.mn S.ne.symm bm]; exact q1,q2⟩,fx,old⟩
 ·have G3:=G.same (H':=H3) om ((a3 _ br).mono fun c hc=>k3 c (by have:=S.rn; omega))
  simp only[List.flatMap_append,List.flatMap_cons,List.flatMap_nil,List.append_nil,lA,Pv,Pw]
  exact G3
 ·refine (a3 _ S.fu).mono fun c hc=>?_
  rcases hc with hc | hc
  ·exact hc
  ·exact⟨fun h=>by have:=S.fn c h; omega,by have:=S.rn; omega,by have:=S.mn; omega⟩
theorem lI(k:Nat)(S:fZ F H rb mb ps vm vb vu)(W:oS rb mb H vl ws)(hk:ps.1.ms.length<=64):aq Tryz.prog aG 55 [aj rb 22 0,.int .u8 (k:Int),vl] H (hX F H rb mb ps.2 ((gw ws).bind fun v=>kr ps.1 ⟨k,v,[],[]⟩)):=by
 refine ai rfl Oc rfl ?_
 obtain⟨wb,hw,w1,w2,w3⟩:=W.wk
 obtain⟨H1,m1,r1,n1,k1⟩:=aP H [.int .u8 0,.int .i64 0,.int .i64 0,.int .i64 0,.str [],.str []] (n:=6) rfl
 obtain⟨H2,m2,r2,n2,k2⟩:=bC (n:=6) r1 rfl (xs:=iD ⟨k,⟨0,0,0⟩,[],[]⟩) rfl rfl
 have e2:bg H.next H H2:=⟨om,fun c hc=>by rw[k2 c om,k1 c om]⟩
 have bd:cj [.int .u8 0,.int .i64 0,.int .i64 0,.int .i64 0,.str [],.str []] [(0,1,.int .u8 (k:Int))]=some (.agg (iD ⟨k,⟨0,0,0⟩,[],[]⟩)):=rfl
 simp only[c55,sA,sB,seval,bd,m1,m2,aF]
 refine (pC (b:=H.next) (n:=6) (o:=1) (hw.same (e2.old wb w1)).wl (fun c hc=>by subst hc; exact⟨om,om⟩) r2 rfl om W.big om).mono ?_
 rintro v H3 ⟨f,C',r',hC',h⟩
 have e3:bg H.next H H3:=⟨by have:=f.next; omega,fun c hc=>by rw[f.old c om om,e2.old c hc]⟩
 have S3:=S.ext e3
 rcases h with⟨x,h1,rfl,rfl⟩ | ⟨h1,rfl⟩
 ·have lx:=aH 6 0 6 r' rfl (xs:=iD ⟨k,x,[],[]⟩) om rfl
  simp only[sA,sB,seval,lx]
  refine (yi S3 ⟨k,x,[],[]⟩ (by simp) (by simp) hk).mono ?_
  rintro v H4 ⟨f4,h4⟩
  simp only[sA,sB,seval]
  exact⟨(du S e3).trans f4,by rw[h1]; exact h4⟩
 ·simp only[sA,sB,seval]
  exact⟨du S e3,.inr ⟨by rw[h1]; rfl,rfl⟩⟩
theorem C6(S:fZ F H rb mb ps vm vb vu)(W:oS rb mb H vl ws)(B:Row H sb [aj rb 22 0])(hk:ps.1.ms.length<=64):aq Tryz.prog aG 54 [vl,aj sb 1 0] H (hX F H rb mb ps.2 (dj 0 ps.1 ws)):=by
 refine ai rfl Od rfl ?_
 have l0:=an 1 0 B rfl rfl
 simp only[c54,sA,sB,seval,l0]
 refine (lI 1 S W hk).mono ?_
 rintro v H' h
 simp only[sA,sB,seval]
 exact h
theorem C5(S:fZ F H rb mb ps vm vb vu)(W:oS rb mb H vl ws)(B:Row H sb [aj rb 22 0])(hk:ps.1.ms.length<=64):aq Tryz.prog aG 56 [vl,aj sb 1 0] H (hX F H rb mb ps.2 (dj 1 ps.1 ws)):=by
 refine ai rfl Ob rfl ?_
 have l0:=an 1 0 B rfl rfl
 simp only[c56,sA,sB,seval,l0]
 refine (lI 2 S W hk).mono ?_
 rintro v H' h
 simp only[sA,sB,seval]
 exact h
theorem CZ(S:fZ F H rb mb ps vm vb vu)(W:oS rb mb H vl ws)(B:Row H sb [aj rb 22 0])(hk:ps.1.ms.length<=64):aq Tryz.prog aG 57 [vl,aj sb 1 0] H (hX F H rb mb ps.2 (dj 2 ps.1 ws)):=by
 refine ai rfl Oa rfl ?_
 have l0:=an 1 0 B rfl rfl
 simp only[c57,sA,sB,seval,l0]
 refine (lI 3 S W hk).mono ?_
 rintro v H' h
 simp only[sA,sB,seval]
 exact h
theorem CY(S:fZ F H rb mb ps vm vb vu)(W:oS rb mb H vl ws)(hk:ps.1.ms.length<=64):aq Tryz.prog aG 58 [aj rb 22 0,vl] H (hX F H rb mb ps.2 (dj 3 ps.1 ws)):=by
 refine ai rfl N9 rfl ?_
 obtain⟨wb,hw,w1,w2,w3⟩:=W.wk
 have ll:=hw.wl.len
 obtain⟨H1,m1,r1,n1,k1⟩:=aP H [.int .u8 0,.int .i64 0,.int .i64 0,.int .i64 0,.str [],.str []] (n:=6) rfl
 obtain⟨H2,m2,r2,n2,k2⟩:=bC (n:=6) r1 rfl (xs:=iD ⟨4,⟨0,0,0⟩,[],[]⟩) rfl rfl
 have e2:bg H.next H H2:=⟨om,fun c hc=>by rw[k2 c om,k1 c om]⟩
 have bd:cj [.int .u8 0,.int .i64 0,.int .i64 0,.int .i64 0,.str [],.str []] [(0,1,.int .u8 4)]=some (.agg (iD ⟨4,⟨0,0,0⟩,[],[]⟩)):=rfl
 have ij:∀{K:ae} (m:Mt),bg H.next H K->m.sh.length<=1000000->m.tx.length<=1000000->aq Tryz.prog aG 79 [aj rb 22 0,.agg (iD m)] K (hX F H rb mb ps.2 (kr ps.1 m)):=fun m e h1 h2=>
  (yi (S.ext e) m h1 h2 hk).mono fun v H' h=>⟨(du S e).trans h.1,h.2⟩
 have hw2:=(hw.same (e2.old wb w1)).wl
 rcases ws with _ | ⟨a,_ | ⟨b,_ | ⟨c,r⟩⟩⟩
 ·have c1:((List.length ([]:List Bs):Nat):Int)=0:=rfl
  have lx:=aH 6 0 6 r2 rfl (xs:=iD ⟨4,⟨0,0,0⟩,[],[]⟩) om rfl
  simp only[M2,sA,sB,seval,bd,m1,m2,ll,c1,lx]
  refine (ij ⟨4,⟨0,0,0⟩,[],[]⟩ e2 (by simp) (by simp)).mono ?_
  rintro v H' h
  simp only[sA,sB,seval]
  exact h
 ·have c1:((List.length [a]:Nat):Int)=1:=rfl
  have ix:=hw2.idx (i:=0) (by simp)
  have lx:=hw2.load1 (ei (l:=[a]) (i:=0) rfl)
  simp only[Int.cast_ofNat_Int]at ix
  simp only[M2,sA,sB,seval,bd,m1,m2,ll,c1,ix,lx]
  refine (pm (by have:=W.len a (by simp); omega)).mono ?_
  rintro _ _ ⟨rfl,rfl⟩
  obtain⟨H3,m3,r3,n3,k3⟩:=bA r2 rfl (i:=4) (n:=6) om (x:=.str a) rfl
  have e3:bg H.next H H3:=⟨om,fun c hc=>by rw[k3 c om,e2.old c hc]⟩
  have lx3:=aH 6 0 6 r3 rfl (xs:=iD ⟨4,⟨0,0,0⟩,a,[]⟩) om rfl
  simp only[sA,sB,seval,aF,m3,lx3]
  refine (ij ⟨4,⟨0,0,0⟩,a,[]⟩ e3 (W.len a (by simp)) (by simp)).mono ?_
  rintro v H' h
  simp only[sA,sB,seval]
  exact h
 ·have c1:((List.length [a,b]:Nat):Int)=2:=rfl
  have ix:=hw2.idx (i:=0) (by simp)
  have lx:=hw2.load1 (ei (l:=[a,b]) (i:=0) rfl)
  have ix1:=hw2.idx (i:=1) (by simp)
  have lx1:=hw2.load1 (ei (l:=[a,b]) (i:=1) rfl)
  simp only[Int.cast_ofNat_Int]at ix ix1
  simp only[M2,sA,sB,seval,bd,m1,m2,ll,c1]
  refine ff rfl ?_
  simp only[sR,sA,sB,seval,ix,lx]
  refine (pm (by have:=W.len a (by simp); omega)).mono ?_
  rintro _ _ ⟨rfl,rfl⟩
  simp only[sR,sA,sB,seval,ix1,lx1]
  refine (pm (by have:=W.len b (by simp); omega)).mono ?_
  rintro _ _ ⟨rfl,rfl⟩
  obtain⟨H3,m3,r3,n3,k3⟩:=bA r2 rfl (i:=4) (n:=6) om (x:=.str a) rfl
  obtain⟨H4,m4,r4,n4,k4⟩:=bA r3 rfl (i:=5) (n:=6) om (x:=.str b) rfl
  have e4:bg H.next H H4:=⟨om,fun c hc=>by rw[k4 c om,k3 c om,e2.old c hc]⟩
  have lx4:=aH 6 0 6 r4 rfl (xs:=iD ⟨4,⟨0,0,0⟩,a,b⟩) om rfl
  simp only[sR,sA,sB,seval,aF,m3,m4]
  simp only[gk,gn,fe,go,jw,and_true,true_and,List.map_cons,List.map_nil,sA,sB,seval,ix1]
  refine⟨⟨_,rfl,fun _=>⟨_,lx1,by simp[aeq]⟩⟩,?_⟩
  simp only[sA,sB,seval,lx4]
  refine (ij ⟨4,⟨0,0,0⟩,a,b⟩ e4 (W.len a (by simp)) (W.len b (by simp))).mono ?_
  rintro v H' h
  simp only[sA,sB,seval]
  exact h
 ·have c1:¬((List.length (a::b::c::r):Nat):Int)=1:=by simp only[Pv]; omega
  have c2:¬((List.length (a::b::c::r):Nat):Int)=2:=by simp only[Pv]; omega
  have lx:=aH 6 0 6 r2 rfl (xs:=iD ⟨4,⟨0,0,0⟩,[],[]⟩) om rfl
  simp only[M2,sA,sB,seval,bd,m1,m2,ll,c1,c2,lx]
  refine (ij ⟨4,⟨0,0,0⟩,[],[]⟩ e2 (by simp) (by simp)).mono ?_
  rintro v H' h
  simp only[sA,sB,seval]
  exact h
end
open Go.Abs Go.Abs.S
section
variable {F:Nat->Prop} {H:ae} {rb mb sb:Nat} {ps:PS} {vm vb vu vl:af} {ws:List Bs}
theorem DB(h:ws.length≠5):kY ws=none:=by
 unfold kY
 split
 ·exact absurd rfl h
 ·rfl
theorem Ef(h:ws.length≠5):ui ws=none:=by
 unfold ui
 split
 ·exact absurd rfl h
 ·rfl
theorem MR(h:ws.length=5):∃a b c d e,ws=[a,b,c,d,e]:=by
 rcases ws with _ | ⟨a,_ | ⟨b,_ | ⟨c,_ | ⟨d,_ | ⟨e,_ | ⟨g,r⟩⟩⟩⟩⟩⟩ <;> simp at h
 exact⟨a,b,c,d,e,rfl⟩
theorem Ni{a b c d:Bs}{ns:List Int}(h:fg fX [a,b,c,d]=some ns):∃v:Vc,∃r,ns=[v.x,v.y,v.z,r]/\gw [a,b,c]=some v/\fX d=some r:=by
 simp only[fg]at h
 split at h <;> first | (simp at h; done) | skip
 rename_i x hx
 split at h <;> first | (simp at h; done) | skip
 rename_i y hy
 split at h <;> first | (simp at h; done) | skip
 rename_i z hz
 split at h <;> first | (simp at h; done) | skip
 rename_i r hr
 simp only[Option.map_some,sJ]at h
 subst h
 exact⟨⟨x,y,z⟩,r,rfl,by simp only[gw,hx,hy,hz],hr⟩
theorem Hg{a b c d e:Bs}(h:fg fX [a,b,c,d]=none):kY [a,b,c,d,e]=none:=by
 simp only[fg]at h
 simp only[kY,gw]
 cases hx:fX a with
 | none=>rfl
 | some x=>
  cases hy:fX b with
  | none=>rfl
  | some y=>
   cases hz:fX c with
   | none=>rfl
   | some z=>
    cases hr:fX d with
    | none=>rfl
    | some r=>simp[hx,hy,hz,hr]at h
set_option maxRecDepth 20000 in
theorem CX(S:fZ F H rb mb ps vm vb vu)(W:oS rb mb H vl ws)(hk:ps.1.bs.length<=256):aq Tryz.prog aG 59 [aj rb 22 0,vl] H (hX F H rb mb ps.2 (dj 4 ps.1 ws)):=by
 refine ai rfl N8 rfl ?_
 obtain⟨wb,hw,w1,w2,w3⟩:=W.wk
 have ll:=hw.wl.len
 by_cases h5:ws.length=5
 rotate_left
 ·have c1:¬(ws.length:Int)=5:=om
  simp only[O9,sA,sB,seval,ll,c1]
  exact⟨Fx.refl _ _,.inr ⟨by simp only[dj,DB h5,Option.bind_none],tt⟩⟩
 have c1:(ws.length:Int)=5:=om
 obtain⟨v4,s4,k4⟩:=hw.sub (lo:=0) (hi:=4) (lo':=none) (hi':=some (.int .i64 ((4:Nat):Int))) om om (fun k c e1 e2=>GO om)
 simp only[Int.cast_ofNat_Int]at s4
 obtain⟨H1,m1,r1,n1,k1⟩:=aP H [.int .i64 0,.int .i64 0,.int .i64 0,.int .i64 0,.int .i64 0] (n:=5) rfl
 have e1:=dY n1 k1
 simp only[O9,sA,sB,seval,ll,c1,m1,aF,s4,aI,I6]
 have f0:=mL H.next H1 (.cells [aj H.next 5 0,aj H.next 5 1,aj H.next 5 2,aj H.next 5 3] 0 false)
 have ht:=mj (H:=H1) (b:=H.next) (n:=5) (o:=0) (k:=4) [aj H.next 5 0,aj H.next 5 1,aj H.next 5 2,aj H.next 5 3] rfl
 have hw1:=hw.same (e1.old wb w1)
 refine (jp (Q:=(·=H1.next)) (((k4.same (e1.old wb w1)).same (f0.old wb om om)).wl) (fun c hc=>by subst hc; exact⟨by rw[aR]; omega,om⟩) ht (fun c hc=>⟨by rw[aR]; omega,om⟩) (r1.same (aU om)) rfl om
  (fun w hw=>W.big w (List.mem_of_mem_drop (List.mem_of_mem_take hw))) (by rw[aR]; omega) om).mono ?_
 rintro v H2 ⟨f,C',r2,hC',h⟩
 have f2:=f0.trans f
 have e2:bg H.next H H2:=⟨by have:=f2.next; omega,fun c hc=>by rw[f2.old c om om,e1.old c hc]⟩
 obtain⟨a,b,c,d,e,rfl⟩:=MR h5
 have hs4:(List.drop 0 [a,b,c,d,e]).take (4-0)=[a,b,c,d]:=rfl
 rw[hs4]at h
 rcases h with⟨rfl,_,ns,h2,rfl⟩ | ⟨rfl,h1⟩
 rotate_left
 ·simp only[sA,sB,seval]
  exact⟨du S e2,.inr ⟨by simp only[dj,Hg (h1 rfl),Option.bind_none],tt⟩⟩
 obtain⟨x,y,rfl,hv,hr⟩:=Ni h2
 have hw2:=(hw.same (e2.old wb w1)).wl
 have ix:=hw2.idx (i:=4) (by simp)
 have lx:=hw2.load1 (ei (l:=[a,b,c,d,e]) (i:=4) rfl)
 simp only[Int.cast_ofNat_Int]at ix
 simp only[sA,sB,seval,ix,lx,aF]
 refine (pX (b:=H.next) (n:=5) (o:=4) r2 rfl om (W.big e (by simp))).mono ?_
 rintro v H3 ⟨f3,C3,r3,hC3,h3⟩
 have e3:bg H.next H H3:=⟨by have:=f3.next; have:=e2.next; omega,fun c hc=>by rw[f3.old c (by have:=e2.next; omega) om,e2.old c hc]⟩
 rcases h3 with⟨z,hz,rfl,rfl⟩ | ⟨hz,rfl⟩
 rotate_left
 ·simp only[sA,sB,seval]
  exact⟨du S e3,.inr ⟨by simp only[dj,kY,hv,hr,hz,Option.bind_none],tt⟩⟩
 have hb:kY [a,b,c,d,e]=some ⟨x,y,z⟩:=by simp only[kY,hv,hr,hz]
 have S3:=S.ext e3
 obtain⟨v',H4,H5,a1,a2,S5,f5,old⟩:=S3.growB (x:=⟨x,y,z⟩) om
 have lv:bi false 1 H3 (aj rb 22 19)=some vb:=an 22 19 S3.row S3.len rfl
 have lvP:bi false 1 (H3.push (.cells (oz ⟨x,y,z⟩) 0 false)) (aj rb 22 19)=some vb:=an 22 19 (S3.row.same (aU S3.rn)) S3.len rfl
 have l5:=aH 5 0 5 r3 rfl (xs:=oz ⟨x,y,z⟩) om rfl
 have bm:=qL (m:=5) (z:=[.int .i64 0,.int .i64 0,.int .i64 0,.int .i64 0,.int .i64 0]) (xs:=oz ⟨x,y,z⟩) H3 rfl rfl
 have hae:aeq vb vb=true:=(gW.app S3.ab (P:=fun _=>True) (fun _ _ _ _=>trivial)).aeq
 simp only[sA,sB,seval]
 refine ff rfl ?_
 simp only[sR,sA,sB,seval,aI,aF,lv,l5,bm,a1,a2]
 simp only[gk,gn,fe,go,jw,and_true,true_and,List.map_cons,List.map_nil,sA,sB,seval,aF]
 refine⟨⟨_,rfl,fun _=>⟨_,lvP,hae⟩⟩,?_⟩
 have r5:Row H5 H.next (oz ⟨x,y,z⟩):=r3.same (old H.next (by have:=e3.next; have:=e2.next; have:=f2.next; have:=f3.next; omega) (by have:=S.rn; omega) (S.ab.blk'.mono fun c hc=>om))
 have lx5:=aH 5 0 5 r5 rfl (xs:=oz ⟨x,y,z⟩) om rfl
 simp only[sA,sB,seval,lx5]
 refine (wi (b:=⟨x,y,z⟩)).mono ?_
 rintro _ H6 ⟨rfl,e6⟩
 have S6:=S5.ext e6
 have fx:Fx F H H6:=(du S e3).trans (f5.trans (du S5 e6))
 have l6:bi false 1 H6 (aj rb 22 19)=some v':=an 22 19 S6.row S6.len rfl
 have ln:=S6.ab.len
 simp only[lA,Pv,Pw]at ln
 cases hm:lj ⟨x,y,z⟩ with
 | false=>
  simp only[sA,sB,seval]
  exact⟨fx,.inr ⟨by simp[dj,hb,hm],tt⟩⟩
 | true=>
  by_cases hl:ps.1.bs.length+1<=256
  ·have hl':((ps.1.bs.length+(0+1):Nat):Int)<=256:=om
   simp only[sA,sB,seval,aI,aF,l6,ln,hl']
   exact⟨fx,.inl ⟨_,vm,v',vu,by simp only[dj,hb,Option.bind_some]; rw[if_pos ⟨hm,hl⟩],tt,S6⟩⟩
  ·have hl':¬((ps.1.bs.length+(0+1):Nat):Int)<=256:=om
   simp only[sA,sB,seval,aI,aF,l6,ln,hl']
   exact⟨fx,.inr ⟨by simp only[dj,hb,Option.bind_some]; rw[if_neg (fun h=>hl h.2)],tt⟩⟩
set_option maxRecDepth 20000 in
theorem CW(S:fZ F H rb mb ps vm vb vu)(W:oS rb mb H vl ws)(hk:ps.1.us.length<=16):aq Tryz.prog aG 60 [aj rb 22 0,vl] H (hX F H rb mb ps.2 (dj 5 ps.1 ws)):=by
 refine ai rfl N7 rfl ?_
 obtain⟨wb,hw,w1,w2,w3⟩:=W.wk
 have ll:=hw.wl.len
 by_cases h5:ws.length=5
 rotate_left
 ·have c1:¬(ws.length:Int)=5:=om
  simp only[O8,sA,sB,seval,ll,c1]
  exact⟨Fx.refl _ _,.inr ⟨by simp only[dj,Ef h5,Option.bind_none],tt⟩⟩
 have c1:(ws.length:Int)=5:=om
 obtain⟨v4,s4,k4⟩:=hw.sub (lo:=1) (hi:=4) (lo':=some (.int .i64 ((1:Nat):Int))) (hi':=some (.int .i64 ((4:Nat):Int))) om om (fun k c e1 e2=>xN om om)
 simp only[Int.cast_ofNat_Int]at s4
 obtain⟨a,b,c,d,e,rfl⟩:=MR h5
 have i0:=hw.wl.idx (i:=0) (by simp)
 have l0:=hw.wl.load1 (ei (l:=[a,b,c,d,e]) (i:=0) rfl)
 simp only[Int.cast_ofNat_Int]at i0
 simp only[O8,sA,sB,seval,ll,c1,i0,l0]
 refine (pm (by have:=W.len a (by simp); omega)).mono ?_
 rintro _ _ ⟨rfl,rfl⟩
 obtain⟨H1,m1,r1,n1,k1⟩:=aP H [.str [],.int .i64 0,.int .i64 0,.int .i64 0,.int .i64 0] (n:=5) rfl
 obtain⟨H1',m1',r1',n1',k1'⟩:=bC (n:=5) r1 rfl (xs:=rx ⟨a,⟨0,0,0⟩,0⟩) rfl rfl
 have e1:bg H.next H H1':=⟨om,fun c hc=>by rw[k1' c om,k1 c om]⟩
 have bd:cj [.str [],.int .i64 0,.int .i64 0,.int .i64 0,.int .i64 0] [(0,1,.str a)]=some (.agg (rx ⟨a,⟨0,0,0⟩,0⟩)):=rfl
 simp only[sA,sB,seval,bd,m1,m1',aF,s4]
 refine (pC (b:=H.next) (n:=5) (o:=1) ((k4.same (e1.old wb w1)).wl) (fun c hc=>by subst hc; exact⟨om,om⟩) r1' rfl om (fun w hw=>W.big w (List.mem_of_mem_drop (List.mem_of_mem_take hw))) om).mono ?_
 rintro v H2 ⟨f2,C',r2,hC',h⟩
 have e2:bg H.next H H2:=⟨by have:=f2.next; omega,fun c hc=>by rw[f2.old c om om,e1.old c hc]⟩
 have hs4:(List.drop 1 [a,b,c,d,e]).take (4-1)=[b,c,d]:=rfl
 rw[hs4]at h
 rcases h with⟨x,hv,rfl,rfl⟩ | ⟨hv,rfl⟩
 rotate_left
 ·simp only[sA,sB,seval]
  exact⟨du S e2,.inr ⟨by simp only[dj,ui,hv,Option.bind_none],tt⟩⟩
 have hw2:=(hw.same (e2.old wb w1)).wl
 have ix:=hw2.idx (i:=4) (by simp)
 have lx:=hw2.load1 (ei (l:=[a,b,c,d,e]) (i:=4) rfl)
 simp only[Int.cast_ofNat_Int]at ix
 simp only[sA,sB,seval,ix,lx,aF]
 refine (pX (b:=H.next) (n:=5) (o:=4) r2 rfl om (W.big e (by simp))).mono ?_
 rintro v H3 ⟨f3,C3,r3,hC3,h3⟩
 have e3:bg H.next H H3:=⟨by have:=f3.next; have:=e2.next; omega,fun c hc=>by rw[f3.old c (by have:=e2.next; omega) om,e2.old c hc]⟩
 rcases h3 with⟨z,hz,rfl,rfl⟩ | ⟨hz,rfl⟩
 rotate_left
 ·simp only[sA,sB,seval]
  exact⟨du S e3,.inr ⟨by simp only[dj,ui,hv,hz,Option.bind_none],tt⟩⟩
 have hb:ui [a,b,c,d,e]=some ⟨a,x,z⟩:=by simp only[ui,hv,hz]
 have S3:=S.ext e3
 obtain⟨v',H4,H5,a1,a2,S5,f5,old⟩:=S3.growU (x:=⟨a,x,z⟩) om
 have lv:bi false 1 H3 (aj rb 22 20)=some vu:=an 22 20 S3.row S3.len rfl
 have lvP:bi false 1 (H3.push (.cells (rx ⟨a,x,z⟩) 0 false)) (aj rb 22 20)=some vu:=an 22 20 (S3.row.same (aU S3.rn)) S3.len rfl
 have l5:=aH 5 0 5 r3 rfl (xs:=rx ⟨a,x,z⟩) om rfl
 have bm:=qL (m:=5) (z:=[.str [],.int .i64 0,.int .i64 0,.int .i64 0,.int .i64 0]) (xs:=rx ⟨a,x,z⟩) H3 rfl rfl
 have hae:aeq vu vu=true:=(gW.app S3.au (P:=fun _=>True) (fun _ _ _ _=>trivial)).aeq
 simp only[sA,sB,seval]
 refine ff rfl ?_
 simp only[sR,sA,sB,seval,aI,aF,lv,l5,bm,a1,a2]
 simp only[gk,gn,fe,go,jw,and_true,true_and,List.map_cons,List.map_nil,sA,sB,seval,aF]
 refine⟨⟨_,rfl,fun _=>⟨_,lvP,hae⟩⟩,?_⟩
 have r5:Row H5 H.next (rx ⟨a,x,z⟩):=r3.same (old H.next (by have:=e3.next; have:=e2.next; have:=f2.next; have:=f3.next; omega) (by have:=S.rn; omega) (S.au.blk'.mono fun c hc=>om))
 have lx5:=an 5 0 r5 rfl rfl
 have ly5:=aH 5 1 3 r5 rfl (xs:=fk x) om rfl
 have fx5:Fx F H H5:=(du S e3).trans f5
 simp only[sA,sB,seval,aF,lx5]
 refine kF.mono ?_
 rintro _ _ ⟨rfl,rfl⟩
 cases hn:eS a with
 | false=>
  simp only[sA,sB,seval]
  exact⟨fx5,.inr ⟨by simp[dj,hb,jk,hn],tt⟩⟩
 | true=>
  simp only[sA,sB,seval,aF,ly5]
  refine (eW (v:=x)).mono ?_
  rintro _ H6 ⟨rfl,e6⟩
  have S6:=S5.ext e6
  have fx:Fx F H H6:=fx5.trans (du S5 e6)
  have l6:bi false 1 H6 (aj rb 22 20)=some v':=an 22 20 S6.row S6.len rfl
  have ln:=S6.au.len
  simp only[lA,Pv,Pw]at ln
  cases hm:gZ x with
  | false=>
   simp only[sA,sB,seval]
   exact⟨fx,.inr ⟨by simp[dj,hb,jk,hm],tt⟩⟩
  | true=>
   by_cases hl:ps.1.us.length+1<=16
   ·have hl':((ps.1.us.length+(0+1):Nat):Int)<=16:=om
    simp only[sA,sB,seval,aI,aF,l6,ln,hl']
    exact⟨fx,.inl ⟨_,vm,vb,v',by simp only[dj,hb,Option.bind_some]; rw[if_pos ⟨by simp only[jk,hn,hm,Bool.and_self],hl⟩],tt,S6⟩⟩
   ·have hl':¬((ps.1.us.length+(0+1):Nat):Int)<=16:=om
    simp only[sA,sB,seval,aI,aF,l6,ln,hl']
    exact⟨fx,.inr ⟨by simp only[dj,hb,Option.bind_some]; rw[if_neg (fun h=>hl h.2)],tt⟩⟩
end
open Go.Abs Go.Abs.S
def Mc(F:Nat->Prop)(H:ae)(rb mb:Nat)(o:Option PS)(v:af)(H':ae):Prop:=
 Fx F H H'/\((∃ps vm vb vu,o=some ps/\v=.bool true/\fZ F H' rb mb ps vm vb vu)∨(o=none/\v=.bool false))
section
variable {F:Nat->Prop} {H:ae} {rb mb sb:Nat} {ps:PS} {vm vb vu vl:af} {ws:List Bs}
theorem Im{seen:List Nat}{o:Option Sc}{v:af}{H':ae}(h:hX F H rb mb seen o v H'):Mc F H rb mb (o.map fun c=>(c,seen)) v H':=by
 refine⟨h.1,?_⟩
 rcases h.2 with⟨s,vm,vb,vu,rfl,rfl,S⟩ | ⟨rfl,rfl⟩
 ·exact .inl ⟨(s,seen),vm,vb,vu,rfl,rfl,S⟩
 ·exact .inr ⟨rfl,rfl⟩
def Ei:Nat->FuncId
 | 0=>40
 | 1=>42
 | 2=>43
 | 3=>44
 | 4=>46
 | 5=>48
 | 6=>49
 | 7=>50
 | _=>52
theorem HR{i:Nat}(hi:i<9)(S:fZ F H rb mb ps vm vb vu)(W:oS rb mb H vl ws)(B:Row H sb [aj rb 22 0])(hsb:sb<H.next/\sb≠rb):aq Tryz.prog aG (Ei i) [vl,aj sb 1 0] H (hX F H rb mb ps.2 (ct i ps.1 ws)):=by
 rcases i with _ | _ | _ | _ | _ | _ | _ | _ | _ | i
 ·exact Eu S W B
 ·exact Et S W B
 ·exact Es S W B
 ·exact Er S W B
 ·exact Ep S W B hsb
 ·exact Eo S W B hsb
 ·exact El S W B hsb
 ·exact Ek S W B hsb
 ·exact Ej S W B hsb
 ·omega
theorem qc{m:Nat}{es:List gr}{n:Nat}{k:Bs}{ok:Bool}{z:af}(hg:H.get m=some (.map es n)){j:Nat}{e:gr}(hf:bY .str (.str k) es 0=some (some (j,e))):mY (.mLook .str ok z) H [.map (some m),.str k]=some (mF ok e.2.1 true,H):=by
 simp only[mY,rc,hg,vy,rI,cond_true,hf]
theorem uL{m:Nat}{es:List gr}{n:Nat}{k:Bs}{ok:Bool}{z:af}(hg:H.get m=some (.map es n))(hf:bY .str (.str k) es 0=some none):mY (.mLook .str ok z) H [.map (some m),.str k]=some (mF ok z false,H):=by
 simp only[mY,rc,hg,vy,rI,cond_true,hf]
theorem HQ{m:Nat}{es:List gr}{n:Nat}{k:Bs}{v:af}(hg:H.get m=some (.map es n)){j:Nat}{e:gr}(hf:bY .str (.str k) es 0=some (some (j,e))) :
  ∃H',mY (.mf (.upd .str)) H [.map (some m),.str k,v]=some (.tuple [],H')/\H'.next=H.next/\H'.get m=some (.map (jY es j (.str k,v,e.2.2)) n)/\∀b,b≠m->H'.get b=H.get b:=
 ⟨H.set m (.map (jY es j (.str k,v,e.2.2)) n),by simp only[mY,HG,hg,LS,rI,cond_true,hf],rfl,by rw[ae.get_set,if_pos rfl],fun b hb=>by rw[ae.get_set,if_neg hb]⟩
theorem fZ.see(S:fZ F H rb mb ps vm vb vu){H':ae}(hn:H'.next=H.next)(k:∀b,b≠mb->H'.get b=H.get b){l:List Nat}(h:∃es n,H'.get mb=some (.map es n)/\rh es l):fZ F H' rb mb (ps.1,l) vm vb vu:=by
 have keep:∀{v:af},ed v (fun c=>¬F c/\c≠rb/\c≠mb)->ed v fun c=>H'.get c=H.get c:=fun h=>h.mono fun c hc=>k c hc.2.2
 exact⟨S.row.same (k rb S.ne),S.am.same om (keep S.fm),S.ab.same om (keep S.fb),S.au.same om (keep S.fu),S.fm,S.fb,S.fu,S.d1,S.d2,S.d3,by rw[hn]; exact S.rn,by rw[hn]; exact S.mn,S.ne,S.nr,S.nm,fun c hc=>by rw[hn]; exact S.fn c hc,h⟩
theorem CH{es:List gr}{l:List Nat}{i n:Nat}(h:rh es l)(hi:i<9):rh (es++[(.str (ef i),.int .i64 1,n)]) (i::l):=by
 refine⟨fun e he=>?_,fun j hj=>?_⟩
 ·rcases List.mem_append.1 he with he | he
  ·obtain⟨j,a,b,c,d⟩:=h.mem e he
   exact⟨j,a,b,by simp[c],d⟩
  ·rw[List.mem_singleton.1 he]
   exact⟨i,hi,rfl,by simp,rfl⟩
 ·rcases List.mem_cons.1 hj with rfl | hj
  ·exact⟨_,by simp; exact .inr rfl,rfl⟩
  ·obtain⟨e,a,b⟩:=h.has j hj
   exact⟨e,by simp[a],b⟩
theorem np{es:List gr}{l:List Nat}(h:rh es l):∀e∈es,∃s,e.1=.str s:=fun e he=>by obtain⟨i,_,q,_⟩:=h.mem e he; exact⟨_,q⟩
theorem Ct{i pb nb db:Nat}(hi:i<9)(S:fZ F H rb mb ps vm vb vu)(W:oS rb mb H vl ws)(B:Row H sb [aj rb 22 0])(P:Row H pb [aj rb 22 0])(Nm:Row H nb [.str (ef i)])(D:Row H db [.func (.func (Ei i)) [] [aj sb 1 0]])
  (fs:F sb) (fp:F pb) (fn:F nb) (fd:F db):aq Tryz.prog aG 53 [vl,aj pb 1 0,aj nb 1 0,aj db 1 0] H (Mc F H rb mb (if i∈ps.2 then none else (ct i ps.1 ws).map fun c=>(c,i::ps.2))):=by
 refine ai rfl Oe rfl ?_
 have ne:∀{c},F c->c≠mb:=fun h e=>S.nm (e ▸ h)
 have nr:∀{c},F c->c≠rb:=fun h e=>S.nr (e ▸ h)
 have l0:=an 1 0 P rfl rfl
 have l1:=an 1 0 Nm rfl rfl
 have l2:bi false 1 H (aj rb 22 21)=some (.map (some mb)):=an 22 21 S.row S.len rfl
 obtain⟨es,n,hg,hs⟩:=S.seen
 rcases kG (ef i) es 0 (np hs) with⟨j,e,h1,h2,h3,h4⟩ | ⟨h1,h2⟩
 ·obtain⟨i',a1,a2,a3,a4⟩:=hs.mem e h1
  have:i'=i:=Eg a1 hi (by rw[h2]at a2; simpa using a2.symm)
  subst this
  rw[if_pos a3]
  have e1:=qc (ok:=false) (z:=.int .i64 0) hg h3
  obtain⟨H1,m1,n1,g1,k1⟩:=HQ (v:=.int .i64 2) hg h3
  have e2:=qc (ok:=false) (z:=.int .i64 0) g1 (by rw[Nat.zero_add]; exact h4 (.int .i64 2) e.2.2)
  have w:IntKind.i64.wrap 2=2:=by decide
  have r0:=an 1 0 (P.same (k1 _ (ne fp))) rfl rfl
  have r1:=an 1 0 (Nm.same (k1 _ (ne fn))) rfl rfl
  have r2:bi false 1 H1 (aj rb 22 21)=some (.map (some mb)):=an 22 21 (S.row.same (k1 _ S.ne)) S.len rfl
  simp only[mF,cond_false,a4]at e1 e2
  simp only[Pa,sA,sB,seval,l0,aI,aF,l2,l1,e1,w,m1,r0,r1,r2,e2]
  exact⟨⟨om,fun c hc=>k1 c (ne hc)⟩,.inr ⟨tt,tt⟩⟩
 ·have hni:i∉ps.2:=fun hm=>by
   obtain⟨e,q1,q2⟩:=hs.has i hm
   exact h1 e q1 q2
  rw[if_neg hni]
  have e1:=uL (ok:=false) (z:=.int .i64 0) hg h2
  obtain⟨H1,m1,n1,g1,k1⟩:=dh (v:=.int .i64 1) hg h2
  have w:IntKind.i64.wrap 1=1:=by decide
  have hs1:=CH (n:=n) hs hi
  have S1:=S.see n1 k1 ⟨_,_,g1,hs1⟩
  have hf:∃e,bY .str (.str (ef i)) (es++[(.str (ef i),.int .i64 1,n)]) 0=some (some e)/\e.2.2.1=.int .i64 1:=by
   rcases kG (ef i) _ 0 (np hs1) with⟨j,e,q1,q2,q3,q4⟩ | ⟨q1,q2⟩
   ·obtain⟨_,_,_,_,a4⟩:=hs1.mem e q1
    exact⟨_,q3,a4⟩
   ·exact absurd rfl (q1 _ (by simp; exact .inr rfl))
  obtain⟨⟨j,e⟩,f1,f2⟩:=hf
  have e2:=qc (ok:=false) (z:=.int .i64 0) g1 f1
  have r0:=an 1 0 (P.same (k1 _ (ne fp))) rfl rfl
  have r1:=an 1 0 (Nm.same (k1 _ (ne fn))) rfl rfl
  have r2:bi false 1 H1 (aj rb 22 21)=some (.map (some mb)):=an 22 21 S1.row S1.len rfl
  have rd:=an 1 0 (D.same (k1 _ (ne fd))) rfl rfl
  simp only[mF,cond_false]at e1 e2
  simp only at f2
  rw[f2]at e2
  obtain⟨wb,hw,w1,w2,w3⟩:=W.wk
  have W1:oS rb mb H1 vl ws:=⟨⟨wb,hw.same (k1 wb w3),om,w2,w3⟩,W.len⟩
  have hg8:Ei i<1024:=by
   rcases i with _ | _ | _ | _ | _ | _ | _ | _ | _ | i <;> first | decide | omega
  simp only[Pa,sA,sB,seval,l0,aI,aF,l2,l1,e1,w,m1,r0,r1,r2,e2,rd,hg8]
  refine (HR hi S1 W1 (B.same (k1 _ (ne fs))) ⟨by rw[n1]; exact S.fn _ fs,nr fs⟩).mono ?_
  rintro v H2 ⟨f2,h⟩
  simp only[sA,sB,seval]
  refine⟨(⟨om,fun c hc=>k1 c (ne hc)⟩:Fx F H H1).trans f2,?_⟩
  rcases h with⟨s,vm,vb,vu,h,rfl,S2⟩ | ⟨h,rfl⟩
  ·exact .inl ⟨(s,i::ps.2),vm,vb,vu,by rw[h]; rfl,rfl,S2⟩
  ·exact .inr ⟨by rw[h]; rfl,rfl⟩
end
def FQ(a rp:af):Nat->af
 | 0=>.func (.func 54) [] [rp]
 | 1=>.func (.func 56) [] [rp]
 | 2=>.func (.func 57) [] [rp]
 | 3=>.func (.func 58) [a] []
 | 4=>.func (.func 59) [a] []
 | _=>.func (.func 60) [a] []
theorem Hf(H:ae)(a:Ad)(k:Bs):(∃i,i<9/\di.idxOf k=i/\k=ef i/\∃n,bY .str (.str k) (oR H a) 0=some (some (n,(.str k,Dt (H.next+3) 53 (ny H) i,i)))) ∨
  (∃j,j<6/\¬di.idxOf k<9/\dA.idxOf k=j/\∃n m,bY .str (.str k) (oR H a) 0=some (some (n,(.str k,FQ (.ptr (some a)) (ny H) j,m)))) ∨
  (¬di.idxOf k<9/\¬dA.idxOf k<6/\bY .str (.str k) (oR H a) 0=some none):=by
 have he:oR H a=(di.zipIdx.map fun p=>((.str p.1,Dt (H.next+3) 53 (ny H) p.2,p.2):gr))++(dA.zipIdx.map fun p=>((.str p.1,FQ (.ptr (some a)) (ny H) p.2,p.2+9):gr)):=rfl
 have hd:∀s t:Bs,s≠t->ry .str (.str s) (.str t)=some false:=fun s t h=>by simp[ry,h]
 have hs:∀s:Bs,ry .str (.str s) (.str s)=some true:=fun s=>by simp[ry]
 by_cases hu:k∈di
 ·have:∀x∈di,(∃i,i<9/\di.idxOf x=i/\x=ef i/\∃n,bY .str (.str x) (oR H a) 0=some (some (n,(.str x,Dt (H.next+3) 53 (ny H) i,i)))):=by
   simp only[di,List.forall_mem_cons]
   refine⟨⟨0,om,by decide,rfl,0,rfl⟩,⟨1,om,by decide,rfl,1,rfl⟩,⟨2,om,by decide,rfl,2,rfl⟩,⟨3,om,by decide,rfl,3,rfl⟩,⟨4,om,by decide,rfl,4,rfl⟩,⟨5,om,by decide,rfl,5,rfl⟩,⟨6,om,by decide,rfl,6,rfl⟩,⟨7,om,by decide,rfl,7,rfl⟩,⟨8,om,by decide,rfl,8,rfl⟩,by simp⟩
  exact .inl (this k hu)
 by_cases hl:k∈dA
 ·have:∀x∈dA,(∃j,j<6/\¬di.idxOf x<9/\dA.idxOf x=j/\∃n m,bY .str (.str x) (oR H a) 0=some (some (n,(.str x,FQ (.ptr (some a)) (ny H) j,m)))):=by
   simp only[dA,List.forall_mem_cons]
   refine⟨⟨0,om,by decide,by decide,9,9,rfl⟩,⟨1,om,by decide,by decide,10,10,rfl⟩,⟨2,om,by decide,by decide,11,11,rfl⟩,⟨3,om,by decide,by decide,12,12,rfl⟩,⟨4,om,by decide,by decide,13,13,rfl⟩,⟨5,om,by decide,by decide,14,14,rfl⟩,by simp⟩
  exact .inr (.inl (this k hl))
 ·refine .inr (.inr ⟨?_,?_,?_⟩)
  ·have h1:di.length=9:=rfl
   rw[<- h1]; exact fun h=>hu (List.idxOf_lt_length_iff.1 h)
  ·have h1:dA.length=6:=rfl
   rw[<- h1]; exact fun h=>hl (List.idxOf_lt_length_iff.1 h)
  ·have key:∀(es:List gr) (n:Nat),(∀e∈es,∃s,e.1=.str s/\s≠k)->bY .str (.str k) es n=some none:=by
    intro es
    induction es with
    | nil=>intro n _; rfl
    | cons e r ih=>
     intro n h
     obtain⟨s,h1,h2⟩:=h e (by simp)
     simp only[bY,h1,hd k s (Ne.symm h2),ih (n+1) fun e he=>h e (by simp[he])]
   refine key _ _ fun e he=>?_
   rw[‹oR H a=_›]at he
   rcases List.mem_append.1 he with h | h
   ·obtain⟨p,hp,rfl⟩:=List.mem_map.1 h
    exact⟨p.1,rfl,fun e=>hu (e ▸ (List.fst_mem_of_mem_zipIdx hp))⟩
   ·obtain⟨p,hp,rfl⟩:=List.mem_map.1 h
    exact⟨p.1,rfl,fun e=>hl (e ▸ (List.fst_mem_of_mem_zipIdx hp))⟩
open Go.Abs Go.Abs.S
structure jD(H G:ae)(rb:Nat):Prop where
 map:H.get (G.next+2)=some (.map (oR G ⟨rb,22,0⟩) 15)
 rp:Row H G.next [aj rb 22 0]
 sp:Row H (G.next+1) [aj rb 22 0]
 nm:∀i,i<9->Row H (G.next+3+2*i) [.str (ef i)]
 db:∀i,i<9->Row H (G.next+3+2*i+1) [.func (.func (Ei i)) [] [aj (G.next+1) 1 0]]
theorem jD.same{H H' G:ae}{rb:Nat}(h:jD H G rb)(k:∀c,G.next<=c->c<G.next+21->H'.get c=H.get c):jD H' G rb:=
 ⟨(k _ om om).trans h.map,h.rp.same (k _ om om),h.sp.same (k _ om om),fun i hi=>(h.nm i hi).same (k _ om om),fun i hi=>(h.db i hi).same (k _ om om)⟩
theorem JS(sp:af):∀i,i<9->(vD sp)[i]?=some (ef i,.func (.func (Ei i)) [] [sp]):=by
 intro i hi
 rcases i with _ | _ | _ | _ | _ | _ | _ | _ | _ | i
 all_goals first | rfl | omega
theorem zE{G:ae}{rb:Nat}:∃H',nH G [aj rb 22 0]=some (.map (some (G.next+2)),H')/\jD H' G rb/\H'.next=G.next+21/\∀c,c<G.next->H'.get c=G.get c:=by
 have hpn:(iR G ⟨rb,22,0⟩).next=G.next+3:=rfl
 refine⟨_,rfl,⟨?_,?_,?_,fun i hi=>?_,fun i hi=>?_⟩,?_,fun c hc=>?_⟩
 ·rw[ae.get_set,if_pos rfl]
 ·refine⟨0,?_,Nat.zero_le _⟩
  rw[ae.get_set,if_neg om,eJ _ _ (.inl (by rw[hpn]; omega))]
  unfold iR
  rw[ae.get_push,if_neg (by show G.next≠G.next+1+1; omega),ae.get_push,if_neg (by show G.next≠G.next+1; omega),ae.get_push,if_pos rfl]
  rfl
 ·refine⟨1,?_,Nat.le_refl _⟩
  rw[ae.get_set,if_neg om,eJ _ _ (.inl (by rw[hpn]; omega))]
  unfold iR
  rw[ae.get_push,if_neg (by show G.next+1≠G.next+1+1; omega),ae.get_push,if_pos (by rfl)]
  rfl
 ·have:=(mi (vD (lS G)) (iR G ⟨rb,22,0⟩) (JS (lS G) i hi)).1
  rw[hpn]at this
  exact⟨1,by rw[ae.get_set,if_neg om]; exact this,Nat.le_refl _⟩
 ·have:=(mi (vD (lS G)) (iR G ⟨rb,22,0⟩) (JS (lS G) i hi)).2
  rw[hpn]at this
  exact⟨1,by rw[ae.get_set,if_neg om]; exact this,Nat.le_refl _⟩
 ·show (iQ (vD (lS G)) (iR G ⟨rb,22,0⟩)).next=_
  rw[lw,hpn]; rfl
 ·rw[ae.get_set,if_neg om,eJ _ _ (.inl (by rw[hpn]; omega))]
  unfold iR
  rw[ae.get_push,if_neg (by show c≠G.next+1+1; omega),ae.get_push,if_neg (by show c≠G.next+1; omega),ae.get_push,if_neg om]
section
variable {F:Nat->Prop} {H G:ae} {rb mb:Nat} {ps:PS} {vm vb vu vl:af} {l:List Bs}
theorem jx{f:FuncId}{a b args:List af}{K:af->ae->Prop}(hf:Nat.blt f bO=true)(h:aq Tryz.prog aG f (a++args++b) H K):nQ (aq Tryz.prog aG) (.func (.func f) a b) args H K:=⟨f,a,b,rfl,hf,h⟩
theorem IX(k:Bs)(S:fZ F H rb mb ps vm vb vu)(I:Cr ps)(L:jD H G rb)(hF:∀c,G.next<=c->c<G.next+21->F c)(W:oS rb mb H vl l) :
  (∃n v m,bY .str (.str k) (oR G ⟨rb,22,0⟩) 0=some (some (n,(.str k,v,m)))/\∀K:af->ae->Prop,(∀v' H',Mc F H rb mb (tE ps (k::l)) v' H'->K v' H')->nQ (aq Tryz.prog aG) v [vl] H K) ∨
  (bY .str (.str k) (oR G ⟨rb,22,0⟩) 0=some none/\tE ps (k::l)=none):=by
 rcases Hf G ⟨rb,22,0⟩ k with⟨i,hi,hx,rfl,n,hf⟩ | ⟨j,hj,hx,hy,n,m,hf⟩ | ⟨hx,hy,hf⟩
 ·refine .inl ⟨n,_,i,hf,fun K hK=>?_⟩
  have hd:tE ps (ef i::l)=if i∈ps.2 then none else (ct i ps.1 l).map fun c=>(c,i::ps.2):=by
   simp only[tE,hx,if_pos hi]
  refine jx dD ?_
  refine (Ct (sb:=G.next+1) (pb:=G.next) (nb:=G.next+3+2*i) (db:=G.next+3+2*i+1) hi S W L.sp L.rp (L.nm i hi) (L.db i hi) (hF _ om om) (hF _ om om) (hF _ om om) (hF _ om om)).mono fun v' H' h=>hK v' H' (by rw[hd]; exact h)
 ·have hd:tE ps (k::l)=(dj j ps.1 l).map fun c=>(c,ps.2):=by
   simp only[tE,if_neg hx,hy,if_pos hj]
  refine .inl ⟨n,_,m,hf,fun K hK=>?_⟩
  have ij:∀{o:Option Sc} {v':af} {H':ae},o=dj j ps.1 l->hX F H rb mb ps.2 o v' H'->K v' H':=fun e h=>hK _ _ (by rw[hd,<- e]; exact Im h)
  rcases j with _ | _ | _ | _ | _ | _ | j
  ·exact jx dD ((C6 S W L.rp I.msl).mono fun v' H' h=>ij rfl h)
  ·exact jx dD ((C5 S W L.rp I.msl).mono fun v' H' h=>ij rfl h)
  ·exact jx dD ((CZ S W L.rp I.msl).mono fun v' H' h=>ij rfl h)
  ·exact jx dD ((CY S W I.msl).mono fun v' H' h=>ij rfl h)
  ·exact jx dD ((CX S W I.bsl).mono fun v' H' h=>ij rfl h)
  ·exact jx dD ((CW S W I.usl).mono fun v' H' h=>ij rfl h)
  ·omega
 ·exact .inr ⟨hf,by simp only[tE,if_neg hx,if_neg hy]⟩
end
open Go.Abs Go.Abs.S
def zS:Sc:=⟨0,0,0,0,0,⟨0,0,0⟩,⟨0,0,0⟩,⟨0,0,0⟩,0,⟨0,0,0⟩,[],[],[]⟩
abbrev ob:List af:=dH zS cz cz cz
def yo(o:Except Ns Sc)(H:ae)(v:af)(H':ae):Prop:=bg H.next H H'/\match o with
 | .ok s=>∃vm vb vu,v=.tuple [.agg (dH s vm vb vu),.agg (fL 0 0)]/\fV (fun c=>H.next<=c/\c<H'.next) H' s vm vb vu
 | .error e=>v=.tuple [.agg ob,.agg (fL e.1 e.2)]
theorem yT{H:ae}:aq Tryz.prog aG 19 [] H fun v H'=>v=.agg (dH bU cz cz cz)/\bg H.next H H':=by
 refine ai rfl OJ rfl ?_
 obtain⟨H1,m1,r1,n1,k1⟩:=aP H ob (n:=21) rfl
 obtain⟨H2,m2,r2,n2,k2⟩:=bC (n:=21) r1 rfl (xs:=dH bU cz cz cz) rfl rfl
 have e2:bg H.next H H2:=⟨om,fun c hc=>by rw[k2 c om,k1 c om]⟩
 have b1:cj [.int .i64 0,.int .i64 0,.int .i64 0] [(2,1,.int .i64 (-17179869184))]=some (.agg (fk ⟨0,0,-17179869184⟩)):=rfl
 have b2:cj [.int .i64 0,.int .i64 0,.int .i64 0] [(1,1,.int .i64 4294967296)]=some (.agg (fk ⟨0,4294967296,0⟩)):=rfl
 have b3:cj ob [(2,1,.int .i64 1),(3,1,.int .i64 2),(5,3,.agg (fk ⟨0,0,-17179869184⟩)),(11,3,.agg (fk ⟨0,4294967296,0⟩)),(14,1,.int .i64 4294967296)]=some (.agg (dH bU cz cz cz)):=rfl
 have z21:[af.int .i64 0,.int .i64 0,.int .i64 0,.int .i64 0,.int .u64 0,.int .i64 0,.int .i64 0,.int .i64 0,.int .i64 0,.int .i64 0,.int .i64 0,.int .i64 0,.int .i64 0,.int .i64 0,.int .i64 0,.int .i64 0,.int .i64 0,.int .i64 0,.slice none 0 (.known 0),.slice none 0 (.known 0),.slice none 0 (.known 0)]=ob:=rfl
 have l2:=dW (n:=21) r2 rfl
 simp only[LA,sA,sB,seval,z21,m1,b1,b2,b3,m2]
 refine Li _ _ _ _ l2 ?_
 exact⟨rfl,e2⟩
theorem mT:cj ob []=some (.agg ob):=rfl
theorem mM{T T':bN}{H:ae}{K:af->ae->Prop}(h:ij [.cell true 21 2,.cell true 2 3] K .ret T H)(e2:T' 2=T 2)(e3:T' 3=T 3):ij [.cell true 21 2,.cell true 2 3] K .ret T' H:=by
 simp only[ij,nf,e2,e3]at h ⊢; exact h
theorem HX{l:List Bs}{i:Nat}{s:Bs}(h:l[i]?=some s):(bX l)[i]?=some (.str s):=ei h
theorem uU:∀(s cur:Bs) (M:Nat),cur.length+s.length<=M->∀w∈fl cur s,w.length<=M
 | [],cur,M,h,w,hw=>by
  simp only[fl]at hw
  split at hw
  ·simp at hw
  ·rw[List.mem_singleton.1 hw]; simpa using h
 | c::s,cur,M,h,w,hw=>by
  rw[fl]at hw
  simp only[Pv]at h
  split at hw
  ·split at hw
   ·exact uU s [] M (by simp; omega) w hw
   ·rcases List.mem_cons.1 hw with rfl | hw
    ·omega
    ·exact uU s [] M (by simp; omega) w hw
  ·exact uU s (cur++[c]) M (by simp; omega) w hw
theorem yG:∀(s cur:Bs) (M:Nat),cur.length+s.length<=M->∀w∈sp cur s,w.length<=M
 | [],cur,M,h,w,hw=>by
  simp only[sp]at hw
  rw[List.mem_singleton.1 hw]; simpa using h
 | c::s,cur,M,h,w,hw=>by
  rw[sp]at hw
  simp only[Pv]at h
  split at hw
  ·rcases List.mem_cons.1 hw with rfl | hw
   ·omega
   ·exact yG s [] M (by simp; omega) w hw
  ·exact yG s (cur++[c]) M (by simp; omega) w hw
set_option maxHeartbeats 1000000 in
set_option maxRecDepth 20000 in
theorem cY(t:Bs){H:ae}:aq Tryz.prog aG 7 [.str t] H (yo (bj t) H):=by
 refine ai rfl za7 rfl ?_
 obtain⟨H1,m1,r1,n1,k1⟩:=aP H ob (n:=21) rfl
 obtain⟨H2,m2,r2,n2,k2⟩:=aP H1 (fL 0 0) (n:=2) rfl
 have q1:Row H2 H.next ob:=r1.same (k2 _ om)
 rw[n1]at r2 m2
 have e2:bg H.next H H2:=⟨om,fun c hc=>by rw[k2 c om,k1 c om]⟩
 have fault:∀{T:bN} {K:ae} {e l:Nat},bg H.next H K->Row K H.next ob->Row K (H.next+1) (fL 0 0)->T 2=aj H.next 21 0->T 3=aj (H.next+1) 2 0->H.next+1<K.next->bj t=.error (e,l) ->
   ∃K1 K2,bD 21 K (aj H.next 21 0) (.agg ob)=some K1/\bD 2 K1 (aj (H.next+1) 2 0) (.agg (fL e l))=some K2/\ij [.cell true 21 2,.cell true 2 3] (yo (bj t) H) .ret T K2:=by
  intro T K e l x q a g2 g3 hn hp
  obtain⟨K1,a1,b1,c1,d1⟩:=bC (n:=21) q rfl (xs:=ob) rfl rfl
  obtain⟨K2,a2,b2,c2,d2⟩:=bC (n:=2) (a.same (d1 _ om)) rfl (xs:=fL e l) rfl rfl
  refine⟨K1,K2,a1,a2,Gn _ _ _ _ _ _ _ (by rw[g2]; exact dW (b1.same (d2 _ om)) rfl) (by rw[g3]; exact dW b2 rfl) ⟨⟨by have:=x.next; omega,fun c hc=>by rw[d2 c om,d1 c om,x.old c hc]⟩,?_⟩⟩
  rw[hp]
 have z21:[af.int .i64 0,.int .i64 0,.int .i64 0,.int .i64 0,.int .u64 0,.int .i64 0,.int .i64 0,.int .i64 0,.int .i64 0,.int .i64 0,.int .i64 0,.int .i64 0,.int .i64 0,.int .i64 0,.int .i64 0,.int .i64 0,.int .i64 0,.int .i64 0,.slice none 0 (.known 0),.slice none 0 (.known 0),.slice none 0 (.known 0)]=ob:=rfl
 have z2:[af.int .i64 0,.int .i64 0]=fL 0 0:=rfl
 simp only[c7,sA,sB,seval,z21,z2,m1,m2]
 by_cases hlen:16384<t.length
 ·have hl':(16384:Int)<(t.length:Int):=om
  have bf:cj (fL 0 0) [(0,1,.int .i64 3)]=some (.agg (fL 3 0)):=rfl
  have hp:bj t=.error (3,0):=by rw[bj,if_pos hlen]
  obtain⟨K1,K2,a1,a2,a3⟩:=fault (T:=up (up (up (up (up (up (up (rO [.str t]) 2 (aj H.next 21 0)) 3 (aj (H.next+1) 2 0)) 11 (.str t)) 12 (.int .i64 (t.length:Int))) 13 (.bool true)) 14 (.agg ob)) 15 (.agg (fL 3 0))) e2 q1 r2 (by simp only[sA,sB,seval]) (by simp only[sA,sB,seval]) om hp
  simp only[sA,sB,seval,hl',mT,bf,a1,a2]
  exact a3
 have hl':¬(16384:Int)<(t.length:Int):=om
 simp only[sA,sB,seval,hl']
 refine yT.mono ?_
 rintro _ H3 ⟨rfl,x3⟩
 have mm:mY .mkMap H3 []=some (.map (some H3.next),H3.push (.map [] 0)):=rfl
 obtain⟨H4,h4⟩:∃K,K=H3.push (.map [] 0):=⟨_,rfl⟩
 have n4:H4.next=H3.next+1:=by rw[h4]; rfl
 have g4:H4.get H3.next=some (.map [] 0):=by rw[h4,ae.get_push,if_pos rfl]
 have k4:∀c,c≠H3.next->H4.get c=H3.get c:=fun c hc=>by rw[h4,ae.get_push,if_neg hc]
 rw[<- h4]at mm
 obtain⟨H5,m5,r5,n5,k5⟩:=aP H4 (dH bU cz cz cz++[.map (some H3.next)]) (n:=22) rfl
 have b22:cj [af.int .i64 0,.int .i64 0,.int .i64 0,.int .i64 0,.int .u64 0,.int .i64 0,.int .i64 0,.int .i64 0,.int .i64 0,.int .i64 0,.int .i64 0,.int .i64 0,.int .i64 0,.int .i64 0,.int .i64 0,.int .i64 0,.int .i64 0,.int .i64 0,.slice none 0 (.known 0),.slice none 0 (.known 0),.slice none 0 (.known 0),.map none] [(0,21,.agg (dH bU cz cz cz)),(21,1,.map (some H3.next))]=some (.agg (dH bU cz cz cz++[.map (some H3.next)])):=rfl
 have ca:(af.agg (dH bU cz cz cz++[.map (some H3.next)])).cells=dH bU cz cz cz++[.map (some H3.next)]:=rfl
 simp only[sA,sB,seval,mm,b22,ca,m5]
 obtain⟨H6,l6,L6,n6,k6⟩:=zE (G:=H5) (rb:=H4.next)
 refine lP (v:=.map (some (H5.next+2))) (H':=H6) rfl (show nH H5 [aj H4.next 22 0]=_ from l6) ?_
 simp only[sA,sB,seval]
 refine (yE (s:=t) om).mono ?_
 rintro _ H7 ⟨⟨b7,rfl,r7,n7,n7'⟩,x7⟩
 obtain⟨Ls,hLs⟩:∃Ls,Ls=sp [] t:=⟨_,rfl⟩
 have x3n:=x3.next
 have x7n:=x7.next
 rw[<- hLs]at r7 ⊢
 have hLl:Ls.length<=16385:=by rw[hLs,pP]; have:=List.count_le_length (a:=(10:UInt8)) (l:=t); omega
 obtain⟨F,hF⟩:∃F:Nat->Prop,F=fun c=>c<H7.next/\c≠H4.next/\c≠H3.next:=⟨_,rfl⟩
 have Fof:∀{c},c<H7.next->c≠H4.next->c≠H3.next->F c:=fun a b c=>by rw[hF]; exact⟨a,b,c⟩
 have Fno:∀{c},¬F c->c≠H4.next->c≠H3.next->H7.next<=c:=fun h a b=>Nat.le_of_not_lt fun hc=>h (Fof hc a b)
 have old7:∀c,c<H.next->H7.get c=H.get c:=fun c hc=>by rw[x7.old c om,k6 c om,k5 c om,k4 c om,x3.old c om,e2.old c hc]
 have p1:Row H7 H.next ob:=q1.same (by rw[x7.old _ om,k6 _ om,k5 _ om,k4 _ om,x3.old _ om])
 have p2:Row H7 (H.next+1) (fL 0 0):=r2.same (by rw[x7.old _ om,k6 _ om,k5 _ om,k4 _ om,x3.old _ om])
 have L7:jD H7 H5 H4.next:=L6.same fun c h1 h2=>x7.old c om
 have S7:fZ F H7 H4.next H3.next (bU,[]) cz cz cz:=by
  refine⟨r5.same (by rw[x7.old _ om,k6 _ om]),.nil _ _ _,.nil _ _ _,.nil _ _ _,po _,po _,po _,u6 _,u6 _,u6 _,om,om,om,by rw[hF]; simp,by rw[hF]; simp,fun c hc=>by rw[hF]at hc; exact hc.1,[],0,?_,⟨by simp,by simp⟩⟩
  rw[x7.old H3.next om,k6 H3.next om,k5 H3.next om]; exact g4
 have lnL:gd false (kB b7 Ls.length (.known Ls.length))=some (.int .i64 (Ls.length:Int)):=rfl
 have back:∀{K:ae},Fx F H7 K->bg H.next H K/\Row K H.next ob/\Row K (H.next+1) (fL 0 0)/\jD K H5 H4.next/\Row K b7 (bX Ls):=fun {K} f=>by
  refine⟨⟨by have:=f.next; omega,fun c hc=>by rw[f.old c (Fof om om om),old7 c hc]⟩,p1.same (f.old _ (Fof om om om)),p2.same (f.old _ (Fof om om om)),L7.same fun c h1 h2=>f.old _ (Fof om om om),r7.same (f.old _ (Fof om om om))⟩
 have pgo:∀n,oG (bU,[]) 1 Ls=.error n->bj t=.error (130,n):=fun n h=>by rw[bj,if_neg hlen,<- hLs,h]
 simp only[sA,sB,seval,lnL]
 refine fH (fun (T:bN) K=>∃ps vm vb vu,oG (bU,[]) 1 Ls=.ok ps/\Cr ps/\fZ F K H4.next H3.next ps vm vb vu/\Fx F H7 K/\T 2=aj H.next 21 0/\T 3=aj (H.next+1) 2 0/\T 4=aj H4.next 22 0) (bP _ _) ?_ ?_
 ·refine bM (fun m (T:bN) K=>∃(i:Nat) (ps:PS) (vm vb vu:af),m=Ls.length-i/\i<=Ls.length/\oG (bU,[]) 1 Ls=oG ps (1+i) (Ls.drop i)/\Cr ps/\fZ F K H4.next H3.next ps vm vb vu/\Fx F H7 K/\T 2=aj H.next 21 0/\T 3=aj (H.next+1) 2 0/\T 4=aj H4.next 22 0/\T 5=.map (some (H5.next+2))/\T 23=kB b7 Ls.length (.known Ls.length)/\T 24=.int .i64 (Ls.length:Int)/\T 25=.int .i64 (i:Int)) Ls.length
   ⟨0,(bU,[]),cz,cz,cz,om,om,rfl,MK,S7,Fx.refl _ _,by simp only[sA,sB,seval],by simp only[sA,sB,seval],by simp only[sA,sB,seval],by simp only[sA,sB,seval],by simp only[sA,sB,seval],by simp only[sA,sB,seval],by simp only[sA,sB,seval]⟩ ?_
  rintro m T K ⟨i,ps,vm,vb,vu,rfl,hi,hgo,I,S,f,g2,g3,g4',g5,g23,g24,g25⟩
  obtain⟨y1,y2,y3,y4,y5⟩:=back f
  have fn:=f.next
  by_cases hlt:i<Ls.length
  rotate_left
  ·have hlt':¬(i:Int)<(Ls.length:Int):=om
   simp only[sA,sB,seval,g24,g25,hlt']
   rw[List.drop_of_length_le om]at hgo
   exact⟨ps,vm,vb,vu,hgo,I,S,f,tt,tt,tt⟩
  have hlt':(i:Int)<(Ls.length:Int):=om
  obtain⟨ln,hln⟩:=aM hlt
  have hlnl:ln.length<=16384:=yG t [] 16384 (by simp; omega) ln (by rw[<- hLs]; exact Pz hln)
  have w1:=cE i om
  rw[iY hln,oG]at hgo
  have y5l:(bX Ls).length=Ls.length:=eh _
  simp only[sA,sB,seval,g23,g24,g25,hlt',l9 .i64 hlt,iN y5 y5l (HX hln)]
  refine (wJ om).mono ?_
  rintro _ K1 ⟨⟨wb,rfl,rw_,wn,wn'⟩,xw⟩
  obtain⟨ws,hws⟩:∃ws,ws=gv ln:=⟨_,rfl⟩
  rw[<- hws]at rw_ hgo ⊢
  have hwl:∀w∈ws,w.length<=1000000:=fun w hw=>by
   have h2:(ln.takeWhile nE).length<=ln.length:=(List.takeWhile_prefix nE).length_le
   have:=uU (ln.takeWhile nE) [] 16384 (by simp; omega) w (by rw[hws]at hw; exact hw)
   omega
  have lnW:gd false (kB wb ws.length (.known ws.length))=some (.int .i64 (ws.length:Int)):=rfl
  have S1:=S.ext xw
  have f1:Fx F H7 K1:=f.trans (du S xw)
  rcases ws with _ | ⟨k,l⟩
  ·have c0:((List.length ([]:List Bs):Nat):Int)=0:=rfl
   simp only[tE]at hgo
   simp only[sA,sB,seval,lnW,c0,g25,w1]
   exact⟨_,om,i+1,ps,vm,vb,vu,rfl,om,by rw[hgo,show 1+i+1=1+(i+1) by omega],I,S1,f1,g2,g3,g4',g5,tt,tt,tt⟩
  have c0:¬((List.length (k::l):Nat):Int)=0:=by simp only[Pv]; omega
  have wk:WK wb K1 (kB wb (k::l).length (.known (k::l).length)) (k::l):=WK.row rw_ rfl
  have rl:(bX (k::l)).length=(k::l).length:=eh _
  have i0:gP 1 (kB wb (k::l).length (.known (k::l).length)) (.int .i64 0)=some (aj wb (k::l).length 0):=l9 .i64 (i:=0) (by simp)
  have l0:bi false 1 K1 (aj wb (k::l).length 0)=some (.str k):=iN rw_ rl rfl
  obtain⟨vl,sl,wl⟩:=wk.sub (lo:=1) (hi:=(k::l).length) (lo':=some (.int .i64 ((1:Nat):Int))) (hi':=none) (by simp) rL (fun a c e1 e2=>by subst e1; exact LM (by simp))
  simp only[Int.cast_ofNat_Int]at sl
  have hdl:(List.drop 1 (k::l)).take ((k::l).length-1)=l:=by simp
  rw[hdl]at wl
  have W1:oS H4.next H3.next K1 vl l:=⟨⟨wb,wl,wn',by have:=S.rn; omega,by have:=S.mn; omega⟩,fun w hw=>hwl w (by simp[hw])⟩
  obtain⟨z1,z2',z3,z4,z5⟩:=back f1
  have f1n:=f1.next
  have stop:tE ps (k::l)=none->∀{T':bN} {K2:ae},Fx F H7 K2->T' 2=aj H.next 21 0->T' 3=aj (H.next+1) 2 0->∃Ka Kb,bD 21 K2 (aj H.next 21 0) (.agg ob)=some Ka/\bD 2 Ka (aj (H.next+1) 2 0) (.agg (fL 130 (i+1)))=some Kb/\ij [.cell true 21 2,.cell true 2 3] (yo (bj t) H) .ret T' Kb:=by
   intro hd T' K2 f2 h2 h3
   obtain⟨u1,u2,u3,u4,u5⟩:=back f2
   refine fault u1 u2 u3 h2 h3 (by have:=f2.next; omega) ?_
   have:=pgo (1+i) (by rw[hgo,hd])
   rw[this,Nat.add_comm]
  have bf:cj (fL 0 0) [(0,1,.int .i64 130),(1,1,.int .i64 ((i+1:Nat):Int))]=some (.agg (fL 130 (i+1))):=rfl
  rcases IX k S1 I z4 (fun c h1 h2=>Fof om om om) W1 with⟨n,v,m',hf,hcall⟩ | ⟨hf,hd⟩
  ·have lk:=qc (ok:=true) (z:=.nilFunc) z4.map hf
   simp only[mF,cond_true]at lk
   simp only[sA,sB,seval,lnW,c0,g5,i0,l0,lk,bK,bJ,sl]
   refine hcall _ ?_
   rintro v' K2 ⟨f2,h⟩
   have f2':=f1.trans f2
   rcases h with⟨ps',vm',vb',vu',hd,rfl,S2⟩ | ⟨hd,rfl⟩
   ·rw[hd]at hgo
    simp only[sA,sB,seval,g25,w1]
    exact⟨_,om,i+1,ps',vm',vb',vu',rfl,om,by rw[hgo,show 1+i+1=1+(i+1) by omega],F8 I hd,S2,f2',g2,g3,g4',g5,g23,g24,tt⟩
   ·obtain⟨Ka,Kb,a1,a2,a3⟩:=stop hd (T':=T) f2' g2 g3
    simp only[sA,sB,seval,mT,w1,bf,g2,g3,a1,a2,z21,z2]
    exact mM a3 (by simp only[sA,sB,seval]) (by simp only[sA,sB,seval])
  ·have lk:=uL (ok:=true) (z:=.nilFunc) z4.map hf
   simp only[mF,cond_true]at lk
   obtain⟨Ka,Kb,a1,a2,a3⟩:=stop hd (T':=T) f1 g2 g3
   simp only[sA,sB,seval,lnW,c0,g5,i0,l0,lk,bK,bJ,mT,w1,bf,g2,g3,a1,a2]
   exact mM a3 (by simp only[sA,sB,seval]) (by simp only[sA,sB,seval])
 ·rintro T K ⟨ps,vm,vb,vu,hgo,I,S,f,g2,g3,g4'⟩
  obtain⟨y1,y2,y3,y4,y5⟩:=back f
  have fn:=f.next
  have hpe:bj t=uX ps:=by rw[bj,if_neg hlen,<- hLs,hgo]
  have lm:bi false 1 K (aj H4.next 22 21)=some (.map (some H3.next)):=an 22 21 S.row S.len rfl
  obtain⟨es,n,hg,hs⟩:=S.seen
  have e0:ef 0=[115,105,122,101]:=rfl
  have hbf:cj (fL 0 0) [(0,1,.int .i64 130)]=some (.agg (fL 130 0)):=rfl
  rcases kG (ef 0) es 0 (np hs) with⟨j,e,h1,h2,h3,_⟩ | ⟨h1,h2⟩
  rotate_left
  ·have hno:0∉ps.2:=fun hm=>by
    obtain⟨e,a,b⟩:=hs.has 0 hm
    exact h1 e a b
   have lk:=uL (ok:=false) (z:=.int .i64 0) hg h2
   simp only[mF,cond_false,e0]at lk
   have hp:bj t=.error (130,0):=by rw[hpe,uX,if_neg (fun h=>hno h.1)]
   obtain⟨Ka,Kb,a1,a2,a3⟩:=fault (T:=T) y1 y2 y3 g2 g3 om hp
   simp only[sA,sB,seval,g4',aI,aF,lm,lk,mT,hbf,g2,g3,a1,a2]
   exact mM a3 (by simp only[sA,sB,seval]) (by simp only[sA,sB,seval])
  ·obtain⟨i',a1,a2,a3,a4⟩:=hs.mem e h1
   have hi0:i'=0:=Eg a1 om (by rw[h2]at a2; simpa using a2.symm)
   subst hi0
   have lk:=qc (ok:=false) (z:=.int .i64 0) hg h3
   simp only[mF,cond_false,e0,a4]at lk
   have ls:bi true 21 K (aj H4.next 22 0)=some (.agg (dH ps.1 vm vb vu)):=aH 22 0 21 S.row S.len om rfl
   have In:fV (·<K.next) K ps.1 vm vb vu:=⟨gW.app S.am S.am.blk',gW.app S.ab S.ab.blk',gW.app S.au S.au.blk'⟩
   simp only[sA,sB,seval,g4',aI,aF,lm,lk,ls]
   refine (ti In (by have:=I.bsl; omega) (by have:=I.usl; omega)).mono ?_
   rintro _ K1 ⟨rfl,xk⟩
   have S1:=S.ext xk
   have f1:Fx F H7 K1:=f.trans (du S xk)
   obtain⟨u1,u2,u3,u4,u5⟩:=back f1
   have f1n:=f1.next
   cases ha:rP ps.1 with
   | false=>
    have hp:bj t=.error (130,0):=by rw[hpe,uX,if_neg (by rw[ha]; simp)]
    obtain⟨Ka,Kb,a1,a2,a3⟩:=fault (T:=T) u1 u2 u3 g2 g3 om hp
    simp only[sA,sB,seval,mT,hbf,g2,g3,a1,a2]
    exact mM a3 (by simp only[sA,sB,seval]) (by simp only[sA,sB,seval])
   | true=>
    have hp:bj t=.ok ps.1:=by rw[hpe,uX,if_pos ⟨a3,ha⟩]
    have ls1:bi true 21 K1 (aj H4.next 22 0)=some (.agg (dH ps.1 vm vb vu)):=aH 22 0 21 S1.row S1.len om rfl
    have o1:(dH ps.1 vm vb vu).all af.one=true:=by
     simp only[dH,List.all_cons,List.all_nil,S1.am.one,S1.ab.one,S1.au.one,Bool.and_true]; rfl
    obtain⟨K2,b1,c1,d1,o2⟩:=bC (n:=21) u2 rfl (xs:=dH ps.1 vm vb vu) rfl o1
    obtain⟨K3,b2,c2,d2,o3⟩:=bC (n:=2) (u3.same (o2 _ om)) rfl (xs:=fL 0 0) rfl rfl
    have bz:cj (fL 0 0) []=some (.agg (fL 0 0)):=rfl
    simp only[sA,sB,seval,g4',aI,aF,ls1,bz,g2,g3,b1,b2]
    refine Gn _ _ _ _ _ _ _ (v:=.agg (dH ps.1 vm vb vu)) (v':=.agg (fL 0 0)) (by simp only[sA,sB,seval,g2]; exact dW (c1.same (o3 _ om)) rfl) (by simp only[sA,sB,seval,g3]; exact dW c2 rfl) ⟨⟨om,fun c hc=>by rw[o3 c om,o2 c om,u1.old c hc]⟩,?_⟩
    rw[hp]
    have far:∀{v:af},ed v (fun c=>¬F c/\c≠H4.next/\c≠H3.next)->ed v fun c=>H7.next<=c:=fun h=>h.mono fun c hc=>Fno hc.1 hc.2.1 hc.2.2
    have mv:∀{m k:Nat} {v:af} {L:List af},dI m 0 K1 v L k->ed v (fun c=>¬F c/\c≠H4.next/\c≠H3.next)->gW (fun c=>H.next<=c/\c<K3.next) K3 m v k L:=fun {m k v L} h hb=>by
     have h1:gW (fun c=>H7.next<=c/\c<K1.next) K1 m v k L:=gW.app h ((far hb).and h.blk')
     exact h1.mono fun c hc=>⟨⟨om,om⟩,by rw[o3 c om,o2 c om]⟩
    exact⟨vm,vb,vu,rfl,mv S1.am S1.fm,mv S1.ab S1.fb,mv S1.au S1.fu⟩
open Go.Abs Go.Abs.S
theorem FA:Hr aG:=⟨rfl,rfl,rfl,rfl,rfl,rfl,rfl,rfl⟩
theorem AV{b k:Nat}(h:1+k<=24):iG 24 1 (aj b 24 0) (some (.int .i64 1)) (some (.int .i64 ((1+k:Nat):Int))) none=some (oP b 1 k):=by
 have e:jh 24 24 (some (.int .i64 1)) (some (.int .i64 ((1+k:Nat):Int))) none=some (1,1+k,none):=xN (lo:=1) om h
 simp only[iG,aj,e,Option.getD_none,show Nat.beq 24 1=false from rfl,cond_false,oP,Nat.zero_add,Nat.mul_one,Nat.add_sub_cancel_left]
theorem LL{H:ae}{b k:Nat}{l:List af}{s:Bs}(hr:Row H b l)(hl:l.length=24)(hk:1+k<=24)(hs:(l.drop 1).take k=dm s):DL H (oP b 1 k)=some (.str s):=by
 have:=yQ hr hl (i:=1) (k:=k) hk
 simp only[DL,oP,this,hs,gp]
theorem xq{u k:Nat}(q1:10 ^ k<=u)(q2:u<10 ^ (k+1))(l:List Nat)(hl:k+1<=l.length):(gY (put (k+1) l u)).take (k+1)=dm (bV (bR u))/\(bV (bR u)).length=k+1:=by
 have hlen:(bV (bR u)).length=k+1:=by rw[il,<- nD k u q1 q2,Ft]
 refine⟨?_,hlen⟩
 rw[pT _ _ _ hl,nD k u q1 q2]
 have e:gY ((bR u).map (48+·))=dm (bV (bR u)):=by
  rw[<- nD k u q1 q2]; exact wI (yW _ _)
 have e2:gY ((bR u).map (48+·)++l.drop (k+1))=dm (bV (bR u))++gY (l.drop (k+1)):=by rw[<- e]; simp[gY]
 have e3:k+1=(dm (bV (bR u))).length:=by rw[gL,hlen]
 rw[e2,e3,List.take_left]
set_option maxRecDepth 20000 in
theorem gt{n:Nat}(hn:n<=1000000){H:ae}(h0:0<H.next)(G:nd H 0 iC):aq Tryz.prog aG 14 [.int .i64 (n:Int)] H fun v H'=>v=.str (bV (bR n))/\bg H.next H H':=by
 refine ai rfl OO rfl ?_
 simp only[LE,sA,sB,seval]
 refine ai rfl Ox rfl ?_
 simp only[c37,sA,sB,seval]
 refine ai rfl N1 rfl ?_
 have c0:(0:Int)<=(n:Int):=om
 by_cases c1:n<100
 ·have c1':(n:Int)<100:=om
  simp only[O6,sA,sB,seval,c0,c1']
  refine (li rfl c1).mono ?_
  rintro v _ ⟨rfl,rfl⟩
  simp only[sA,sB,seval]
  exact⟨tt,bg.refl _ _⟩
 have c1':¬(n:Int)<100:=om
 have c2:¬(n:Int)<0:=om
 obtain⟨H1,m1,r1,n1,k1⟩:=aP H (gY (List.replicate 24 0)) (n:=24) rfl
 have hz:gY (List.replicate 24 0)=[.int .u8 0,.int .u8 0,.int .u8 0,.int .u8 0,.int .u8 0,.int .u8 0,.int .u8 0,.int .u8 0,.int .u8 0,.int .u8 0,.int .u8 0,.int .u8 0,.int .u8 0,.int .u8 0,.int .u8 0,.int .u8 0,.int .u8 0,.int .u8 0,.int .u8 0,.int .u8 0,.int .u8 0,.int .u8 0,.int .u8 0,.int .u8 0]:=rfl
 rw[hz]at m1
 have w1:IntKind.u64.wrap (n:Int)=(n:Int):=jH om om
 have G1:nd H1 0 iC:=by unfold nd; rw[k1 0 om]; exact G
 simp only[O6,sA,sB,seval,c0,c1',c2,m1,w1]
 refine (kd rfl rfl rfl rfl (u:=n) om om G1).mono ?_
 rintro v _ ⟨⟨k,rfl,q1,q2,q3⟩,rfl⟩
 have q3:k<7:=Nat.lt_of_not_le fun h=>by have:=Nat.pow_le_pow_right (n:=10) om h; omega
 have w2:IntKind.i64.wrap (1+((k+1:Nat):Int))=((1+(k+1):Nat):Int):=by rw[aV om om]; omega
 simp only[sA,sB,seval,w2,AV (show 1+(k+1)<=24 by omega)]
 have r1':Row _ H.next (gY ([0]++List.replicate 23 0)):=r1
 refine (tp (p:=[0]) (l:=List.replicate 23 0) rfl r1' (by simp) (by simp; omega) q2 om).mono ?_
 rintro v H2 ⟨r2,n2,k2⟩
 obtain⟨p1,p2⟩:=xq q1 q2 (List.replicate 23 0) (by simp; omega)
 have hbs:=LL (k:=k+1) (s:=bV (bR n)) r2 (by rw[gh,lA,pa]; simp) om (by
  have:(gY ([0]++put (k+1) (List.replicate 23 0) n)).drop 1=gY (put (k+1) (List.replicate 23 0) n):=rfl
  rw[this,p1])
 simp only[sA,sB,seval,c2,w2,AV (show 1+(k+1)<=24 by omega),hbs]
 exact⟨tt,⟨om,fun c hc=>by rw[k2 c om,k1 c om]⟩⟩
set_option maxRecDepth 20000 in
theorem Cz{n:Nat}(hn:n<18446744073709551616){H:ae}(h0:0<H.next)(G:nd H 0 iC):aq Tryz.prog aG 15 [.int .u64 (n:Int),.int .i64 10] H fun v H'=>v=.str (bV (bR n))/\bg H.next H H':=by
 refine ai rfl ON rfl ?_
 simp only[LD,sA,sB,seval]
 refine ai rfl Ow rfl ?_
 by_cases c1:n<100
 ·have c1':(n:Int)<100:=om
  have w1:IntKind.i64.wrap (n:Int)=(n:Int):=aV om om
  simp only[Pf,sA,sB,seval,c1',w1]
  refine (li rfl c1).mono ?_
  rintro v _ ⟨rfl,rfl⟩
  simp only[sA,sB,seval]
  exact⟨tt,bg.refl _ _⟩
 have c1':¬(n:Int)<100:=om
 obtain⟨H1,m1,r1,n1,k1⟩:=aP H (gY (List.replicate 24 0)) (n:=24) rfl
 have hz:gY (List.replicate 24 0)=[.int .u8 0,.int .u8 0,.int .u8 0,.int .u8 0,.int .u8 0,.int .u8 0,.int .u8 0,.int .u8 0,.int .u8 0,.int .u8 0,.int .u8 0,.int .u8 0,.int .u8 0,.int .u8 0,.int .u8 0,.int .u8 0,.int .u8 0,.int .u8 0,.int .u8 0,.int .u8 0,.int .u8 0,.int .u8 0,.int .u8 0,.int .u8 0]:=rfl
 rw[hz]at m1
 have G1:nd H1 0 iC:=by unfold nd; rw[k1 0 om]; exact G
 simp only[Pf,sA,sB,seval,c1',m1]
 refine (kd rfl rfl rfl rfl (u:=n) om hn G1).mono ?_
 rintro v _ ⟨⟨k,rfl,q1,q2,q3⟩,rfl⟩
 simp only[sA,sB,seval,oY (show k+1<=24 by omega) om]
 refine (wY rfl r1 (by simp) (show k+1<=24 by omega) q2 hn).mono ?_
 rintro v H2 ⟨r2,n2,k2⟩
 obtain⟨p1,p2⟩:=xq q1 q2 (List.replicate 24 0) (by simp; omega)
 have hB:ug H2 H.next 24 (bV (bR n)):=⟨_,r2,by rw[gh,pa]; simp,by rw[p2]; exact p1⟩
 have hbs:=Aq hB om
 rw[p2]at hbs
 simp only[sA,sB,seval,oY (show k+1<=24 by omega) om,hbs]
 exact⟨tt,⟨om,fun c hc=>by rw[k2 c om,k1 c om]⟩⟩
theorem da{n:Nat}(k:Nat)(h:n<10 ^ (k+1)):(bV (bR n)).length<=k+1:=by rw[il]; exact qv k n h
theorem cS{n:Int}(h1:-9223372036854775808<=n)(h2:n<=9223372036854775807):(al n).length<=60:=by
 have a:=da (n:=n.natAbs / 4294967296) 10 om
 have b:(fo (n.natAbs % 4294967296)).length<=33:=by
  unfold fo
  split
  ·simp
  ·rw[Pv,il]; have:=Dk 32 (n.natAbs % 4294967296); omega
 rw[al,lA,lA]
 split <;> simp <;> omega
def De(v:Vc):Prop:=(-9223372036854775808<=v.x/\v.x<=9223372036854775807)/\(-9223372036854775808<=v.y/\v.y<=9223372036854775807)/\(-9223372036854775808<=v.z/\v.z<=9223372036854775807)
theorem eg{v:Vc}(h:De v):(dk v).length<=182:=by
 have a:=cS h.1.1 h.1.2
 have b:=cS h.2.1.1 h.2.1.2
 have c:=cS h.2.2.1 h.2.2.2
 simp only[dk,lA,Pv]; omega
set_option maxRecDepth 20000 in
theorem dP{v:Vc}(hv:De v){H:ae}(h0:0<H.next)(G:nd H 0 iC):aq Tryz.prog aG 16 [.agg (fk v)] H fun r H'=>r=.str (dk v)/\bg H.next H H':=by
 refine ai rfl OM rfl ?_
 obtain⟨H1,m1,r1,n1,k1⟩:=aP H (fk v) (n:=3) rfl
 have e1:=dY n1 k1
 have ca:(af.agg (fk v)).cells=fk v:=rfl
 have G1:=G.ext h0 e1
 have l0:=an 3 0 r1 rfl rfl
 have l1:=an 3 1 r1 rfl rfl
 have l2:=an 3 2 r1 rfl rfl
 have a:=cS hv.1.1 hv.1.2
 have b:=cS hv.2.1.1 hv.2.1.2
 have c:=cS hv.2.2.1 hv.2.2.2
 simp only[LC,sA,sB,seval,ca,m1]
 refine ff rfl ?_
 simp only[sR,sA,sB,seval,aF,l0]
 refine (iM FA rfl hv.1.1 hv.1.2 om G1).mono ?_
 rintro _ H2 ⟨rfl,x2⟩
 have l1':=an 3 1 (r1.up x2 om) rfl rfl
 have l2':=an 3 2 (r1.up x2 om) rfl rfl
 have s1:=lZ (x:=al v.x) (y:=[32]) (by simp; omega)
 simp only[sR,sA,sB,seval,aF,s1,l1']
 refine (iM FA rfl hv.2.1.1 hv.2.1.2 (by have:=x2.next; omega) (G1.ext om x2)).mono ?_
 rintro _ H3 ⟨rfl,x3⟩
 have x3':=x2.trans (x3.less x2.next)
 have l2'':=an 3 2 (r1.up x3' om) rfl rfl
 have s2:=lZ (x:=al v.x++[32]) (y:=al v.y) (by simp; omega)
 have s3:=lZ (x:=(al v.x++[32])++al v.y) (y:=[32]) (by simp; omega)
 simp only[sR,sA,sB,seval,aF,s2,s3,l2'']
 refine (iM FA rfl hv.2.2.1 hv.2.2.2 (by have:=x3'.next; omega) (G1.ext om x3')).mono ?_
 rintro _ H4 ⟨rfl,x4⟩
 have x4':=x3'.trans (x4.less x3'.next)
 have s4:=lZ (x:=((al v.x++[32])++al v.y)++[32]) (y:=al v.z) (by simp; omega)
 simp only[sR,sA,sB,seval,aF,s4]
 simp only[gk,gn,fe,go,jw,and_true,true_and,List.map_cons,List.map_nil,sA,sB,seval,aF]
 refine⟨⟨⟨_,rfl,fun _=>⟨_,l1,ir _ _⟩⟩,⟨_,rfl,fun _=>⟨_,l2,ir _ _⟩⟩,⟨_,rfl,fun _=>⟨_,l2',ir _ _⟩⟩⟩,?_,e1.trans (x4'.less om)⟩
 simp[dk]
theorem wO:∀l:List Bs,l≠[]->Lib.join l [32]=bZ l
 | [],h=>absurd rfl h
 | [a],_=>by rw[Lib.join_one]; rfl
 | a::b::l,_=>by
  have ih:=wO (b::l) (by simp)
  rw[Lib.join_cons]at ih ⊢
  show a++Lib.joinTail [32] (b::l)=a++32::bZ (b::l)
  rw[<- ih]
  simp[Lib.joinTail]
theorem Da{P:Nat->Prop}{v:af}{ws:List Bs}{H:ae}(h:Wl P H v ws)(h2:2<=ws.length)(hn:ws.length<=100)(hl:(bZ ws).length<=1000000):aq Tryz.prog aG 36 [v,.str [32]] H fun r H'=>r=.str (bZ ws)/\H=H':=by
 rcases h with⟨_,h0,_⟩ | ⟨a,r,rfl,_,hr⟩
 ·omega
 have hne:ws≠[]:=fun e=>by rw[e]at h2; simp at h2
 rw[Nat.one_mul]at hr
 have hs:∀l:List Bs,lf (bX l)=some l:=fun l=>by
  induction l with
  | nil=>rfl
  | cons x l ih=>
   have:bX (x::l)=.str x::bX l:=rfl
   rw[this]; simp only[lf,ih]
 refine lP (v:=.str (bZ ws)) (H':=H) rfl ?_ ⟨rfl,rfl⟩
 show yl H [.slice (some a) ws.length r,.str [32]]=_
 simp only[yl,hr,hs,wO ws hne,Pt h2,Pt (show ws.length<=140737488355328 by omega),Pt (show (bZ ws).length<=140737488355328 by omega),Bool.and_self,cond_true]
end Go.Proofs.Wo
