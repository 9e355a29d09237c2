/- Part of a proof (T82 T83 T84 T85 TX0 TC4 T86 T87 T88 T89); no condition. -/
import Derived.Test.YtmfjeemdgdaelaaGreatProg
import Derived.KernelRfl
import Derived.Test.YtmfjeemdgdaelaaGreatP6
import Derived.Test.YtmfjeemdgdaelaaGreatP11
import Derived.Test.YtmfjeemdgdaelaaGreatP12
set_option linter.unusedSimpArgs false
set_option linter.unusedVariables false
set_option linter.unnecessarySimpa false
namespace Go.Proofs.Tb
open Go.Abs Go.Abs.S
theorem added1_spec{H:AHeap}(a b c:AVal):ACalls Tryz.prog natT 91 [a,b,c] H fun v H'=>v=.int .i64 0∧H=H':=by
 refine acalls_ofN rfl za91 rfl ?_
 simp only[c91,sA,sB,seval]
 exact⟨tt,tt⟩
theorem added_spec{H:AHeap}:ACalls Tryz.prog natT 70 [.int .u8 0] H fun v H'=>v=.func (.func 91) [] []∧H=H':=by
 refine acalls_ofN rfl za70 rfl ?_
 simp only[c70,sA,sB,seval]
 exact⟨tt,tt⟩
theorem fn_nil:aPf (.eqv false .func) [.func (.func 91) [] [],.nilFunc]=some (.bool false):=_root_.id rfl
theorem sl_nnil(b c o k:Nat)(r:Room):aPf (.eqv true .slice) [.slice (some ⟨b,c,o⟩) k r,.slice none 0 (.known 0)]=some (.bool true):=_root_.id rfl
theorem sl_nil:aPf (.eqv true .slice) [.slice none 0 (.known 0),.slice none 0 (.known 0)]=some (.bool false):=_root_.id rfl
theorem Mk.idx{H:AHeap}{b cap:Nat}{s:AVal}{L:List AVal}(h:Mk H b cap s L){i:Nat}{x:AVal}(hx:L[i]?=some x):aIdxA 1 s (.int .i64 (i:Int))=some (cellR b cap i)∧oLoad false 1 H (cellR b cap i)=some x:=by
 have hl:=(List.getElem?_eq_some_iff.1 hx).1
 have:=h.look (lo:=0) (k:=L.length) hl (x:=x) (by rw[Nat.zero_add]; exact hx)
 rw[Nat.zero_add,Nat.sub_zero]at this
 obtain⟨low,C,rfl,_⟩:=h
 exact this
def rawF(rs:List Bs):Bs:=rs.flatMap fun r=>0::r
def Ahd(b cap long:Nat)(Lb:Bs)(v:AVal):Prop:=v=nilS∨∃lo,v=.slice (some ⟨b,cap,lo⟩) long (.known (cap-lo))∧lo+long≤Lb.length
theorem undo_spec{n pb w h cols b cap:Nat}{H:AHeap}{dv s raw:AVal}{Lb rest:Bs}{rs:List Bs}(R:Row H pb (pC w h 4 true dv))(M:Mk H b cap s (byts Lb))(O:Op n H raw (byts (rawF rs++rest)))(hn:n≤b)(hpb:pb≠b)(hpn:pb<H.next)(hc:1≤cols)(hc2:cols≤20)(hr:∀r∈rs,r.length=cols*4)(hcap:Lb.length+rs.flatten.length≤cap)(hcap2:cap≤100000)(hrs:rs.length≤1000) :
  ACalls Tryz.prog natT 53 [cellR pb 5 0,s,raw,.int .i64 (cols:Int),.int .i64 (rs.length:Int)] H fun x H'=>∃s' raw',x=.tuple [s',raw',.int .i64 0]∧Mk H' b cap s' (byts (Lb++rs.flatten))∧Op n H' raw' (byts rest)∧H.next≤H'.next∧∀c,c<H.next→c≠b→H'.get c=H.get c:=by
 refine acalls_ofN rfl za53 rfl ?_
 have l2:oLoad false 1 H (cellR pb 5 2)=some (.int .i64 4):=row_load R rfl rfl
 have w4:IntKind.i64.wrap ((cols:Int)*4)=((cols*4:Nat):Int):=w64
 obtain⟨long,hlong⟩:∃l,l=cols*4:=⟨_,rfl⟩
 rw[← hlong]at w4
 have w5:IntKind.i64.wrap (1+(long:Int))=((1+long:Nat):Int):=w64
 have fn:=fn_nil
 have hr':∀r∈rs,r.length=long:=fun r hr'=>by rw[hr r hr',hlong]
 simp only[c53,sA,sB,seval,nil_cell,fldA,fld0,l2,w4]
 refine aw_loop (fun m (T:Env) H'=>∃j s' raw' ah,m=rs.length-j∧j≤rs.length∧T 0=cellR pb 5 0∧T 1=s'∧T 2=raw'∧T 13=.int .i64 (long:Int)∧T 14=ah∧T 28=.int .i64 (rs.length:Int)∧T 29=.int .i64 (j:Int)∧Mk H' b cap s' (byts (Lb++(rs.take j).flatten))∧Op n H' raw' (byts (rawF (rs.drop j)++rest))∧Ahd b cap long (Lb++(rs.take j).flatten) ah∧H.next≤H'.next∧∀c,c<H.next→c≠b→H'.get c=H.get c) rs.length
  ⟨0,s,raw,nilS,rfl,Nat.zero_le _,by simp only[sA,sB,seval],by simp only[sA,sB,seval],by simp only[sA,sB,seval],by simp only[sA,sB,seval],by simp only[sA,sB,seval]; try rfl,by simp only[sA,sB,seval],by simp only[sA,sB,seval]; try rfl,by simpa using M,by simpa using O,.inl rfl,Nat.le_refl _,fun _ _ _=>rfl⟩ ?_
 rintro m T H1 ⟨j,s1,raw1,ah,rfl,hj,t0,t1,t2,t13,t14,t28,t29,M1,O1,hah,n1,f1⟩
 by_cases hlt:j<rs.length
 case neg=>
  obtain rfl:j=rs.length:=om
  have hlt':¬(rs.length:Int)<(rs.length:Int):=om
  rw[List.take_length]at M1
  rw[List.drop_length]at O1
  simp only[sA,sB,seval,t1,t2,t28,t29,hlt']
  exact⟨s1,raw1,tt,M1,O1,n1,f1⟩
 have hlt':(j:Int)<(rs.length:Int):=om
 obtain⟨r,hrj⟩:∃r,rs[j]?=some r:=⟨_,List.getElem?_eq_getElem hlt⟩
 have hrl:=hr' r (List.mem_of_getElem? hrj)
 have ed:rawF (rs.drop j)=0::r++rawF (rs.drop (j+1)):=by
  rw[List.drop_eq_getElem_cons hlt,(List.getElem?_eq_some_iff.1 hrj).2]; rfl
 have et:(rs.take (j+1)).flatten=(rs.take j).flatten++r:=by rw[List.take_add_one,hrj]; simp
 have hlb:(Lb++(rs.take j).flatten).length+long≤cap:=by
  have e:rs.flatten=(rs.take (j+1)).flatten++(rs.drop (j+1)).flatten:=by rw[← List.flatten_append,List.take_append_drop]
  rw[e,et]at hcap
  simp only[lA]at hcap ⊢; omega
 rw[ed,List.append_assoc]at O1
 obtain⟨B,hB⟩:∃B,B=Lb++(rs.take j).flatten:=⟨_,rfl⟩
 have hBt:Lb++(rs.take (j+1)).flatten=B++r:=by rw[et,hB,List.append_assoc]
 rw[← hB]at M1 hah hlb
 have i0':aIdxA 1 raw1 (.int .i64 0)=some (cellP raw1 0):=O1.cel.idx .i64 (i:=0) (by simp[byts])
 have ld0:oLoad false 1 H1 (cellP raw1 0)=some (.int .u8 0):=O1.cel.load (i:=0) rfl
 have lB:=M1.len
 rw[byts_len]at lB
 obtain⟨rv,ms,Or,-⟩:=O1.sub (lo:=1) (hi:=1+long) om (by simp only[byts_len,List.length_cons,lA,List.cons_append]; omega)
 have er:((byts (0::r++(rawF (rs.drop (j+1))++rest))).drop 1).take (1+long-1)=byts r:=by
  rw[byts_drop,byts_take]
  have:(0::r++(rawF (rs.drop (j+1))++rest):Bs).drop 1=r++(rawF (rs.drop (j+1))++rest):=rfl
  rw[this,List.take_left' om]
 rw[er]at Or
 obtain⟨raw2,ms2,Or2,-⟩:=O1.from_ (lo:=1+long) (by simp only[byts_len,List.length_cons,lA,List.cons_append]; omega)
 have er2:(byts (0::r++(rawF (rs.drop (j+1))++rest)):List AVal).drop (1+long)=byts (rawF (rs.drop (j+1))++rest):=by
  rw[byts_drop,List.drop_left' (by rw[List.length_cons]; omega)]
 rw[er2]at Or2
 have ms':aSl 1 raw1 (some (.int .i64 1)) (some (.int .i64 ((1+long:Nat):Int))) none=some rv:=ms
 have lr:=Or.len
 rw[byts_len,hrl]at lr
 simp only[sA,sB,seval,t0,t1,t2,t13,t14,t28,t29,hlt',i0',ld0]
 refine added_spec.mono ?_
 rintro _ _ ⟨rfl,rfl⟩
 simp only[sA,sB,seval,t0,t1,t2,t13,t14,t28,t29,fn,lB,w5,ms',lr]
 refine aw_loop (fun m (T':Env) H'=>∃i s2,m=long-i∧i≤long∧T' 0=cellR pb 5 0∧T' 1=s2∧T' 2=raw1∧T' 13=.int .i64 (long:Int)∧T' 14=ah∧T' 15=.func (.func 91) [] []∧T' 16=.int .i64 (B.length:Int)∧T' 28=.int .i64 (rs.length:Int)∧T' 29=.int .i64 (j:Int)∧T' 42=rv∧T' 43=.int .i64 (long:Int)∧T' 44=.int .i64 (i:Int)∧Mk H' b cap s2 (byts (B++r.take i))∧H1.next≤H'.next∧∀c,c<H1.next→c≠b→H'.get c=H1.get c) long
  ⟨0,s1,rfl,Nat.zero_le _,by simp only[sA,sB,seval,t0],by simp only[sA,sB,seval,t1],by simp only[sA,sB,seval,t2],by simp only[sA,sB,seval,t13],by simp only[sA,sB,seval,t14],by simp only[sA,sB,seval],by simp only[sA,sB,seval],by simp only[sA,sB,seval,t28],by simp only[sA,sB,seval,t29],by simp only[sA,sB,seval],by simp only[sA,sB,seval],by simp only[sA,sB,seval]; try rfl,by simpa using M1,Nat.le_refl _,fun _ _ _=>rfl⟩ ?_
 rintro m T2 H2 ⟨i,s2,rfl,hi,u0,u1,u2,u13,u14,u15,u16,u28,u29,u42,u43,u44,M2,n2,f2⟩
 have hbn:b<H1.next:=by obtain⟨_,_,_,_,_,_,_,_,q⟩:=M1; exact q
 by_cases hil:i<long
 case neg=>
  obtain rfl:long=i:=om
  have hil':¬(long:Int)<(long:Int):=om
  have er3:r.take long=r:=List.take_of_length_le om
  rw[er3]at M2
  have mf:=M2.from_ (lo:=B.length) (by rw[byts_len,lA]; omega) (.inr trivial)
  have c3:Nat.beq cap B.length=false:=by
   cases hq:Nat.beq cap B.length with
   | false=>rfl
   | true=>have:=Nat.eq_of_beq_eq_true hq; omega
  rw[c3,cond_false,byts_len,lA,hrl,Nat.add_sub_cancel_left]at mf
  simp only[sA,sB,seval,u0,u1,u2,u13,u14,u15,u16,u28,u29,u42,u43,u44,hil',mf,w5,ms2]
  have wj:IntKind.i64.wrap ((j:Int)+1)=((j+1:Nat):Int):=w64
  simp only[wj]
  exact⟨rs.length-(j+1),om,j+1,s2,raw2,_,rfl,om,tt,tt,tt,tt,rfl,tt,tt,by rw[hBt]; exact M2,Or2.same rL (Or2.blk.mono fun c hc=>f2 c (by have:=O1.blk; omega) om),.inr ⟨B.length,rfl,by rw[hBt,lA]; omega⟩,om,fun c hc hne=>by rw[f2 c om hne,f1 c hc hne]⟩
 have hil':(i:Int)<(long:Int):=om
 obtain⟨x,hx⟩:∃x,r[i]?=some x:=⟨_,List.getElem?_eq_getElem om⟩
 have Or2':Op n H2 rv (byts r):=Or.same rL (Or.blk.mono fun c hc=>f2 c (by have:=Or.blk; omega) om)
 have ix:=Or2'.cel.idx .i64 (i:=i) (by rw[byts_len]; omega)
 have lx:=Or2'.cel.load (byts_get hx)
 have R2:Row H2 pb (pC w h 4 true dv):=R.same (by rw[f2 pb om hpb,f1 pb hpn hpb])
 have l2':oLoad false 1 H2 (cellR pb 5 2)=some (.int .i64 4):=row_load R2 rfl rfl
 have e3:r.take (i+1)=r.take i++[x]:=take_snoc hx
 have hbl:(byts (B++r.take i)).length=B.length+i:=by rw[byts_len,lA,List.length_take]; omega
 obtain⟨s3,H3,a3,m3,k3,o3⟩:=M2.push (x:=.int .u8 (x.toNat:Int)) (by rw[hbl]; omega) rfl (bytes:=1) om om
 have bd:=build1 (.int .u8 0) H2 (x:=.int .u8 (x.toNat:Int)) rfl
 have w0:IntKind.u8.wrap 0=0:=rfl
 have wx:IntKind.u8.wrap ((x.toNat:Int)+0)=(x.toNat:Int):=by have:=x.toNat_lt; rw[IntKind.wrap_u8]; omega
 have wi:IntKind.i64.wrap ((i:Int)+1)=((i+1:Nat):Int):=w64
 have gb:∀k,k<B.length+i→∃y,(byts (B++r.take i))[k]?=some (.int .u8 y):=fun k hk=>⟨_,byts_get (List.getElem?_eq_getElem (by rw[← byts_len,hbl]; exact hk))⟩
 have fin_:∃i' s4,long-(i+1)=long-i'∧i'≤long∧s3=s4∧AVal.int .i64 ((i+1:Nat):Int)=.int .i64 (i':Int)∧Mk H3 b cap s4 (byts (B++r.take i'))∧H1.next≤H3.next∧∀c,c<H1.next→c≠b→H3.get c=H1.get c:=by
  refine⟨i+1,s3,rfl,om,rfl,rfl,?_,om,fun c hc hne=>by rw[o3 c om hne,f2 c hc hne]⟩
  rw[e3,← List.append_assoc,byts_append]; exact m3
 obtain⟨i',s4,z1,z2,z3,z4,z5,z6,z7⟩:=fin_
 have wb:IntKind.i64.wrap ((B.length:Int)+(i:Int))=((B.length+i:Nat):Int):=w64
 rcases Nat.lt_or_ge i 4 with hi4 | hi4 <;> rcases hah with hah | hah
 ·subst hah
  have hg:¬(4:Int)≤(i:Int):=om
  have sn:=sl_nil
  have u14':T2 14=.slice none 0 (.known 0):=u14
  simp only[sA,sB,seval,u0,u1,u2,u13,u14',u15,u16,u28,u29,u42,u43,u44,hil',ix,lx,nil_cell,fldA,fld0,l2',conv_in,hg,sn,callvP_func _ _ _ _ _ (show 91<1024 by decide)]
  refine (added1_spec _ _ _).mono ?_
  rintro _ _ ⟨rfl,rfl⟩
  simp only[sA,sB,seval,u0,u1,u2,u13,u14',u15,u16,u28,u29,u42,u43,u44,conv_in,w0,wx,bd,a3,wi]
  exact⟨long-(i+1),om,i',s4,z1,z2,tt,z3,tt,tt,rfl,tt,tt,tt,tt,tt,tt,z4,z5,z6,z7⟩
 ·obtain⟨lo,rfl,hlo⟩:=hah
  have hg:¬(4:Int)≤(i:Int):=om
  have sn:=sl_nnil b cap lo long (.known (cap-lo))
  obtain⟨y2,hy2⟩:=gb (lo+i) om
  obtain⟨ib,lb⟩:=M2.look (lo:=lo) (k:=long) hil hy2
  simp only[sA,sB,seval,u0,u1,u2,u13,u14,u15,u16,u28,u29,u42,u43,u44,hil',ix,lx,nil_cell,fldA,fld0,l2',conv_in,hg,sn,ib,lb,callvP_func _ _ _ _ _ (show 91<1024 by decide)]
  refine (added1_spec _ _ _).mono ?_
  rintro _ _ ⟨rfl,rfl⟩
  simp only[sA,sB,seval,u0,u1,u2,u13,u14,u15,u16,u28,u29,u42,u43,u44,conv_in,w0,wx,bd,a3,wi]
  exact⟨long-(i+1),om,i',s4,z1,z2,tt,z3,tt,tt,tt,tt,tt,tt,tt,tt,tt,z4,z5,z6,z7⟩
 ·subst hah
  have hg:(4:Int)≤(i:Int):=om
  have wc:IntKind.i64.wrap (((B.length+i:Nat):Int)-4)=((B.length+i-4:Nat):Int):=w64
  obtain⟨y,hy⟩:=gb (B.length+i-4) om
  obtain⟨ia,la⟩:=M2.idx hy
  have sn:=sl_nil
  have u14':T2 14=.slice none 0 (.known 0):=u14
  simp only[sA,sB,seval,u0,u1,u2,u13,u14',u15,u16,u28,u29,u42,u43,u44,hil',ix,lx,nil_cell,fldA,fld0,l2',conv_in,hg,wb,wc,ia,la,sn,callvP_func _ _ _ _ _ (show 91<1024 by decide)]
  refine (added1_spec _ _ _).mono ?_
  rintro _ _ ⟨rfl,rfl⟩
  simp only[sA,sB,seval,u0,u1,u2,u13,u14',u15,u16,u28,u29,u42,u43,u44,conv_in,w0,wx,bd,a3,wi]
  exact⟨long-(i+1),om,i',s4,z1,z2,tt,z3,tt,tt,rfl,tt,tt,tt,tt,tt,tt,z4,z5,z6,z7⟩
 ·obtain⟨lo,rfl,hlo⟩:=hah
  have hg:(4:Int)≤(i:Int):=om
  have wc:IntKind.i64.wrap (((B.length+i:Nat):Int)-4)=((B.length+i-4:Nat):Int):=w64
  obtain⟨y,hy⟩:=gb (B.length+i-4) om
  obtain⟨ia,la⟩:=M2.idx hy
  have sn:=sl_nnil b cap lo long (.known (cap-lo))
  obtain⟨y2,hy2⟩:=gb (lo+i) om
  obtain⟨ib,lb⟩:=M2.look (lo:=lo) (k:=long) hil hy2
  have wd:IntKind.i64.wrap ((i:Int)-4)=((i-4:Nat):Int):=w64
  obtain⟨y3,hy3⟩:=gb (lo+(i-4)) om
  obtain⟨ic,lc⟩:=M2.look (lo:=lo) (k:=long) (i:=i-4) om hy3
  simp only[sA,sB,seval,u0,u1,u2,u13,u14,u15,u16,u28,u29,u42,u43,u44,hil',ix,lx,nil_cell,fldA,fld0,l2',conv_in,hg,wb,wc,ia,la,sn,ib,lb,wd,ic,lc,callvP_func _ _ _ _ _ (show 91<1024 by decide)]
  refine (added1_spec _ _ _).mono ?_
  rintro _ _ ⟨rfl,rfl⟩
  simp only[sA,sB,seval,u0,u1,u2,u13,u14,u15,u16,u28,u29,u42,u43,u44,conv_in,w0,wx,bd,a3,wi]
  exact⟨long-(i+1),om,i',s4,z1,z2,tt,z3,tt,tt,tt,tt,tt,tt,tt,tt,tt,z4,z5,z6,z7⟩
theorem argE_5(a b c d e f:AVal)(r:List AVal):argE (a::b::c::d::e::f::r) 5=f:=_root_.id rfl
def sumE(l:List (Nat×Nat)):Nat:=(l.map fun e=>e.2*(1+e.1*4)).sum
theorem sumE_snoc{E:List (Nat×Nat)}{k:Nat}{e:Nat×Nat}(h:E[k]?=some e):sumE (E.take (k+1))=sumE (E.take k)+e.2*(1+e.1*4):=by
 unfold sumE
 rw[take_map h,List.sum_append]; simp
theorem sumE_take(E:List (Nat×Nat))(k:Nat):sumE (E.take k)≤sumE E:=by
 unfold sumE
 conv=>rhs; rw[← List.take_append_drop k E]
 rw[List.map_append,List.sum_append]
 exact Nat.le_add_right _ _
def longI(lb pb w h:Nat)(dv:AVal)(E:List (Nat×Nat))(k:Nat)(O:Nat→Prop)(H:AHeap):Prop:=
 Row H lb [.int .i64 (sumE (E.take k):Int)]∧Row H pb (pC w h 4 true dv)∧lb<H.next∧lb≠pb∧∀c,O c↔c=lb
theorem long_clo{lb pb w h:Nat}{dv:AVal}{E:List (Nat×Nat)}(hE:sumE E≤100000)(hE2:∀e∈E,e.1≤1000∧e.2≤1000):CloE 25 [cellR lb 1 0,cellR pb 5 0] pb E (longI lb pb w h dv E):=by
 refine⟨?_,?_,?_,?_⟩
 ·rintro k O H ⟨r,rp,hl,hne,ho⟩ c hc
  rw[(ho c).1 hc]; exact hl
 ·rintro k O H ⟨r,rp,hl,hne,ho⟩ hc
  exact hne ((ho _).1 hc).symm
 ·rintro k O H H' ⟨r,rp,hl,hne,ho⟩ hn ep ek
  exact⟨r.same (ek _ ((ho _).2 rfl)),rp.same ep,om,hne,ho⟩
 ·rintro k ⟨cols,rows⟩ O H he ⟨r,rp,hl,hne,ho⟩
  obtain⟨b1,b2⟩:=hE2 _ (List.mem_of_getElem? he)
  simp only at b1 b2
  have hs:=sumE_snoc he
  have hle:=sumE_take E (k+1)
  simp only at hs
  have hm:rows*(1+cols*4)≤1000*4001:=Nat.mul_le_mul om om
  refine acalls_ofN rfl za25 rfl ?_
  have ll:oLoad false 1 H (cellR lb 1 0)=some (.int .i64 (sumE (E.take k):Int)):=row_load r rfl rfl
  have l2:oLoad false 1 H (cellR pb 5 2)=some (.int .i64 4):=row_load rp rfl rfl
  have w1:IntKind.i64.wrap ((cols:Int)*4)=((cols*4:Nat):Int):=w64
  have w2:IntKind.i64.wrap (1+((cols*4:Nat):Int))=((1+cols*4:Nat):Int):=w64
  have w3:IntKind.i64.wrap ((rows:Int)*((1+cols*4:Nat):Int))=((rows*(1+cols*4):Nat):Int):=by rw[← Int.natCast_mul,wrap64 om om]
  have w4:IntKind.i64.wrap ((sumE (E.take k):Int)+((rows*(1+cols*4):Nat):Int))=(sumE (E.take (k+1)):Int):=by rw[hs,IntKind.wrap_i64]; omega
  obtain⟨H1,m1,r1,k1,q1⟩:=row_st r (n:=1) rfl (i:=0) om (x:=.int .i64 (sumE (E.take (k+1)):Int)) rfl (l':=[.int .i64 (sumE (E.take (k+1)):Int)]) rfl
  simp only[List.cons_append,List.nil_append,c25,sA,sB,seval,fldA,fld0,ll,l2,w1,w2,w3,w4,m1]
  exact⟨[],rfl,O,⟨r1,rp.same (q1 _ hne.symm),om,hne,ho⟩,om,fun c hc hO=>q1 c fun q=>hO ((ho c).2 q),fun c hc=>.inl hc⟩
theorem split_rows:∀(E:List (Nat×Nat)) (rs:List Bs),rs.map List.length=(E.flatMap fun e=>List.replicate e.2 (e.1*4))→∃RS:List (List Bs),RS.flatten=rs∧RS.length=E.length∧∀(k:Nat) (e:Nat×Nat),E[k]?=some e→∃R:List Bs,RS[k]?=some R∧R.length=e.2∧∀r∈R,r.length=e.1*4
 | [],rs,h=>by
  have:rs=[]:=by simpa using h
  exact⟨[],this.symm,rfl,fun k e he=>by simp at he⟩
 | e::E,rs,h=>by
  rw[List.flatMap_cons]at h
  have hl:e.2≤rs.length:=by
   have:=congrArg List.length h
   simp only[List.length_map,lA,List.length_replicate]at this; omega
  have ht:(rs.take e.2).map List.length=List.replicate e.2 (e.1*4):=by
   rw[List.map_take,h,List.take_left' (by simp)]
  have hd:(rs.drop e.2).map List.length=E.flatMap fun e=>List.replicate e.2 (e.1*4):=by
   rw[List.map_drop,h,List.drop_left' (by simp)]
  obtain⟨RS,h1,h2,h3⟩:=split_rows E _ hd
  refine⟨rs.take e.2::RS,by rw[List.flatten_cons,h1,List.take_append_drop],by simp[h2],fun k x hx=>?_⟩
  cases k with
  | zero=>
   simp only[List.getElem?_cons_zero,sJ]at hx
   subst hx
   refine⟨_,rfl,by rw[List.length_take]; omega,fun r hr=>?_⟩
   have:=List.mem_map_of_mem (f:=List.length) hr
   rw[ht]at this
   exact List.eq_of_mem_replicate this
  | succ k=>exact h3 k x (by simpa using hx)
theorem rawF_append(a b:List Bs):rawF (a++b)=rawF a++rawF b:=by simp[rawF]
def pixI(H0:AHeap)(fb pc bc rc bb pb cap w h n:Nat)(dv:AVal)(RS:List (List Bs))(k:Nat)(O:Nat→Prop)(H:AHeap):Prop:=
 ∃s raw,Row H fb [.int .i64 0]∧Row H pc [cellR pb 5 0]∧Row H bc [s]∧Row H rc [raw]∧Mk H bb cap s (byts (RS.take k).flatten.flatten)∧Op n H raw (byts (rawF (RS.drop k).flatten))∧Row H pb (pC w h 4 true dv)∧pb<n∧n≤fb∧n≤pc∧n≤bc∧n≤rc∧n≤bb∧fb<H.next∧pc<H.next∧bc<H.next∧rc<H.next∧(∀c,c<n→H.get c=H0.get c)∧(fb≠pc∧fb≠bc∧fb≠rc∧fb≠bb∧pc≠bc∧pc≠rc∧pc≠bb∧bc≠rc∧bc≠bb∧rc≠bb)∧∀c,O c↔(c=fb∨c=pc∨c=bc∨c=rc∨c=bb∨(c<n∧c≠pb))
theorem pix_clo{H0:AHeap}{fb pc bc rc bb pb cap w h n:Nat}{dv:AVal}{RS:List (List Bs)}{E:List (Nat×Nat)}(hE:∀(k:Nat) (e:Nat×Nat),E[k]?=some e→∃R:List Bs,RS[k]?=some R∧R.length=e.2∧∀r∈R,r.length=e.1*4)(hE2:∀e∈E,1≤e.1∧e.1≤20∧e.2≤1000)(hcap:RS.flatten.flatten.length≤cap)(hcap2:cap≤100000):CloE 52 [cellR fb 1 0,cellR pc 1 0,cellR bc 1 0,cellR rc 1 0] pb E (pixI H0 fb pc bc rc bb pb cap w h n dv RS):=by
 refine⟨?_,?_,?_,?_⟩
 ·rintro k O H ⟨s,raw,r1,r2,r3,r4,M,Or,rp,hp,n1,n2,n3,n4,n5,l1,l2,l3,l4,fo,ne,ho⟩ c hc
  have hb:bb<H.next:=by obtain⟨_,_,_,_,_,_,_,_,q⟩:=M; exact q
  rcases (ho c).1 hc with q | q | q | q | q | q <;> omega
 ·rintro k O H ⟨s,raw,r1,r2,r3,r4,M,Or,rp,hp,n1,n2,n3,n4,n5,l1,l2,l3,l4,fo,ne,ho⟩ hc
  rcases (ho pb).1 hc with q | q | q | q | q | q <;> omega
 ·rintro k O H H' ⟨s,raw,r1,r2,r3,r4,M,Or,rp,hp,n1,n2,n3,n4,n5,l1,l2,l3,l4,fo,ne,ho⟩ hn ep ek
  refine⟨s,raw,r1.same (ek _ ((ho _).2 (by simp))),r2.same (ek _ ((ho _).2 (by simp))),r3.same (ek _ ((ho _).2 (by simp))),r4.same (ek _ ((ho _).2 (by simp))),M.same hn (ek _ ((ho _).2 (by simp))),Or.same rL (Or.blk.mono fun c hc=>?_),rp.same ep,hp,n1,n2,n3,n4,n5,om,om,om,om,fun c hc=>?_,ne,ho⟩
  all_goals by_cases hcp:c=pb
  ·rw[hcp]; exact ep
  ·exact ek _ ((ho c).2 om)
  ·rw[hcp,ep]; exact fo pb hp
  ·rw[ek _ ((ho c).2 om)]; exact fo c hc
 ·rintro k ⟨cols,rows⟩ O H he ⟨s,raw,r1,r2,r3,r4,M,Or,rp,hp,n1,n2,n3,n4,n5,l1,l2,l3,l4,fo,ne,ho⟩
  obtain⟨R,hR,hRl,hRr⟩:=hE k _ he
  obtain⟨b1,b2,b3⟩:=hE2 _ (List.mem_of_getElem? he)
  simp only at b1 b2 b3 hRl hRr
  have hlt:=(List.getElem?_eq_some_iff.1 hR).1
  have ed:(RS.drop k).flatten=R++(RS.drop (k+1)).flatten:=by
   rw[List.drop_eq_getElem_cons hlt,(List.getElem?_eq_some_iff.1 hR).2]; rfl
  have et:(RS.take (k+1)).flatten.flatten=(RS.take k).flatten.flatten++R.flatten:=by
   rw[List.take_add_one,hR]; simp
  have hc1:(RS.take k).flatten.flatten.length+R.flatten.length≤cap:=by
   have e:RS.flatten.flatten=(RS.take (k+1)).flatten.flatten++(RS.drop (k+1)).flatten.flatten:=by
    rw[← List.flatten_append,← List.flatten_append,List.take_append_drop]
   rw[e,et,lA,lA]at hcap; omega
  rw[ed,rawF_append]at Or
  refine acalls_ofN rfl za52 rfl ?_
  have x1:oLoad false 1 H (cellR fb 1 0)=some (.int .i64 0):=row_load r1 rfl rfl
  have x2:oLoad false 1 H (cellR pc 1 0)=some (cellR pb 5 0):=row_load r2 rfl rfl
  have x3:oLoad false 1 H (cellR bc 1 0)=some s:=row_load r3 rfl rfl
  have x4:oLoad false 1 H (cellR rc 1 0)=some raw:=row_load r4 rfl rfl
  have us:=undo_spec rp M Or n5 om om b1 b2 hRr hc1 hcap2 om
  rw[hRl]at us
  simp only[List.cons_append,List.nil_append,c52,sA,sB,seval,argE_5,x1,x2,x3,x4]
  refine us.mono ?_
  rintro _ H1 ⟨s',raw',rfl,M1,O1,k1,f1⟩
  obtain⟨H2,m2,q2,k2,o2⟩:=row_st (r3.same (f1 bc l3 om)) (n:=1) rfl (i:=0) om (x:=s') M1.one (l':=[s']) rfl
  obtain⟨H3,m3,q3,k3,o3⟩:=row_st (r4.same (by rw[o2 rc om,f1 rc l4 om])) (n:=1) rfl (i:=0) om (x:=raw') (cel_one O1.cel) (l':=[raw']) rfl
  obtain⟨H4,m4,q4,k4,o4⟩:=row_st (r1.same (by rw[o3 fb om,o2 fb om,f1 fb l1 om])) (n:=1) rfl (i:=0) om (x:=.int .i64 0) rfl (l':=[.int .i64 0]) rfl
  have fr:∀c,c<H.next→c≠bb→c≠bc→c≠rc→c≠fb→H4.get c=H.get c:=fun c hc h1 h2 h3 h4=>by rw[o4 c h4,o3 c h3,o2 c h2,f1 c hc h1]
  have fr2:∀c,c≠bc→c≠rc→c≠fb→H4.get c=H1.get c:=fun c h2 h3 h4=>by rw[o4 c h4,o3 c h3,o2 c h2]
  simp only[sA,sB,seval,argE_5,ext_0,ext_1,ext_2,m2,m3,m4]
  refine⟨[],rfl,O,⟨s',raw',q4,r2.same (fr pc l2 om om om om),q2.same (by rw[o4 bc om,o3 bc om]),q3.same (by rw[o4 rc om]),by rw[et]; exact M1.same om (fr2 bb om om om),O1.same rL (O1.blk.mono fun c hc=>fr2 c om om om),rp.same (fr pb om om om om om),hp,n1,n2,n3,n4,n5,om,om,om,om,fun c hc=>by rw[fr c om om om om om]; exact fo c hc,ne,ho⟩,om,fun c hc hO=>?_,fun c hc=>.inl hc⟩
  have hno:=fun q=>hO ((ho c).2 q)
  exact fr c hc (fun q=>hno (by simp[q])) (fun q=>hno (by simp[q])) (fun q=>hno (by simp[q])) (fun q=>hno (by simp[q]))
def put4(P:Bs)(n:Nat)(p:Bs):Bs:=P.take (4*n)++(p++P.drop (4*n+4))
theorem put4_len{P p:Bs}{n:Nat}(h:4*n+4≤P.length)(hp:p.length=4):(put4 P n p).length=P.length:=by
 simp only[put4,lA,List.length_take,List.length_drop,hp]; omega
theorem put4_set{P p:Bs}{n:Nat}(x:UInt8):put4 (P.set (4*n+3) x) n p=put4 P n p:=by
 unfold put4
 rw[List.take_set_of_le om,List.drop_set_of_lt om]
def placeK(ord:List Nat)(D:Bs)(N:Nat):Nat→Bs
 | 0=>List.replicate N 0
 | k+1=>put4 (placeK ord D N k) (ord.getD k 0) ((D.drop (4*k)).take 4)
theorem placeK_len{ord:List Nat}{D:Bs}{N:Nat}(ho:∀n∈ord,4*n+4≤N):∀k,k≤ord.length→4*k≤D.length→(placeK ord D N k).length=N
 | 0,_,_=>by simp[placeK]
 | k+1,h1,h2=>by
  have ih:=placeK_len (D:=D) ho k om om
  have hm:ord.getD k 0∈ord:=by
   rw[List.getD_eq_getElem?_getD,List.getElem?_eq_getElem (show k<ord.length by omega)]
   exact List.getElem_mem _
  have:=ho _ hm
  have e:=put4_len (P:=placeK ord D N k) (n:=ord.getD k 0) (p:=(D.drop (4*k)).take 4) om (by rw[List.length_take,List.length_drop]; omega)
  unfold placeK
  rw[e,ih]
theorem cpy4{H:AHeap}{b N lo k:Nat}{L xs:List AVal}{r1 r2:Room}{ad:Ad}(R:Row H b L)(hL:L.length=N)(hlo:lo+4≤N)(hk:4≤k)(hx:rdCells H ad 4=some xs)(hxl:xs.length=4)(ho:xs.all AVal.one=true) :
  ∃H',aCpy 1 H [.slice (some ⟨b,N,lo⟩) k r1,.slice (some ad) 4 r2]=some (.int .i64 4,H')∧Row H' b (L.take lo++(xs++L.drop (lo+4)))∧H'.next=H.next∧∀c,c≠b→H'.get c=H.get c:=by
 obtain⟨low,g,hl⟩:=R
 have hm:Nat.min 4 k=4:=Nat.min_eq_left hk
 have hw:wrCells H ⟨b,N,lo⟩ xs=some (H.set b (.cells (L.take lo++(xs++L.drop (lo+4))) N false)):=by
  unfold wrCells
  simp only[g,hL,hxl,Nat.ble_eq_true_of_le (show low≤N by omega),Nat.beq_refl,Nat.ble_eq_true_of_le hlo,ho,Bool.and_self,cond_true]
 refine⟨H.set b (.cells (L.take lo++(xs++L.drop (lo+4))) N false),?_,⟨N,by rw[AHeap.get_set,if_pos rfl],by simp only[lA,List.length_take,List.length_drop,hxl]; omega⟩,by rw[set_next],fun c hc=>by rw[AHeap.get_set,if_neg hc]⟩
 simp only[aCpy,hm,show Nat.beq 4 0=false from rfl,cond_false,Nat.mul_one,hx,hw]
 rfl
theorem sl_known{b N lo hi:Nat}(h1:lo<hi)(h2:hi≤N):aSl 1 (slR b N (.known N)) (some (.int .i64 (lo:Int))) (some (.int .i64 (hi:Int))) none=some (.slice (some ⟨b,N,lo⟩) (hi-lo) (.known (N-lo))):=by
 have c1:Nat.beq N lo=false:=by
  cases hq:Nat.beq N lo with
  | false=>rfl
  | true=>have:=Nat.eq_of_beq_eq_true hq; omega
 simp only[aSl,slR,bnd_lh (Nat.le_of_lt h1) h2,Option.getD_none,c1,cond_false,Nat.zero_add,Nat.mul_one]
theorem Mk.sub{H:AHeap}{b cap:Nat}{s:AVal}{L:List AVal}(h:Mk H b cap s L){lo hi:Nat}(h1:lo<hi)(h2:hi≤L.length):aSl 1 s (some (.int .i64 (lo:Int))) (some (.int .i64 (hi:Int))) none=some (.slice (some ⟨b,cap,lo⟩) (hi-lo) (.known (cap-lo)))∧rdCells H ⟨b,cap,lo⟩ (hi-lo)=some ((L.drop lo).take (hi-lo)):=by
 obtain⟨low,C,rfl,g,h3,h4,h5,h6,h7⟩:=h
 have c1:Nat.beq cap lo=false:=by
  cases hq:Nat.beq cap lo with
  | false=>rfl
  | true=>have:=Nat.eq_of_beq_eq_true hq; omega
 constructor
 ·simp only[aSl,bnd_lh (Nat.le_of_lt h1) (show hi≤cap by omega),Option.getD_none,c1,cond_false,Nat.zero_add,Nat.mul_one]
 ·subst h4
  rw[rd_row (H:=H) (b:=b) ⟨low,g,h3⟩ rfl (i:=lo) (k:=hi-lo) om,← h5]
  rw[List.drop_take,List.take_take,Nat.min_eq_left om]
theorem byts_put{P p:Bs}{n:Nat}:byts (put4 P n p)=(byts P).take (4*n)++(byts p++(byts P).drop (4*n+4)):=by
 simp only[put4,byts_append,byts_take,byts_drop]
theorem orderL_lt{w h:Nat}(OK:OkP w h){k:Nat}(hk:k<w*h):∃n,(orderL w h)[k]?=some n∧n<w*h∧(orderL w h).getD k 0=n:=by
 have hl:k<(orderL w h).length:=by rw[OK.len]; exact hk
 refine⟨(orderL w h)[k],List.getElem?_eq_getElem hl,OK.lt _ (List.getElem_mem _),?_⟩
 rw[List.getD_eq_getElem?_getD,List.getElem?_eq_getElem hl]; rfl
theorem each_mem{w h:Nat}(hw:1≤w)(hw2:w≤20)(hh:1≤h)(hh2:h≤20):∀e∈eachL w h,1≤e.1∧e.1≤20∧e.2≤1000:=by
 intro e he
 unfold eachL at he
 obtain⟨p,hp,hq⟩:=List.mem_filterMap.1 he
 split at hq
 ·rename_i hc
  simp only[sJ]at hq
  subst hq
  have hp':p∈[(0,0,8,8),(4,0,8,8),(0,4,4,8),(2,0,4,4),(0,2,2,4),(1,0,2,2),(0,1,1,2)]:=hp
  simp only[List.mem_cons,List.not_mem_nil,or_false]at hp'
  simp only[colsP,rowsN]at hc ⊢
  rcases hp' with rfl | rfl | rfl | rfl | rfl | rfl | rfl <;> simp only at hc ⊢ <;> omega
 ·simp at hq
theorem sumE_many(E:List (Nat×Nat)):sumE E=((E.flatMap fun e=>List.replicate e.2 e.1).map fun m=>1+m*4).sum:=by
 unfold sumE
 induction E with
 | nil=>rfl
 | cons e E ih=>
  rw[List.map_cons,List.sum_cons,ih,List.flatMap_cons,List.map_append,List.sum_append,List.map_replicate,List.sum_replicate_nat]
theorem sum_le{l:List Nat}{b:Nat}(h:∀x∈l,x≤b):l.sum≤l.length*b:=by
 induction l with
 | nil=>simp
 | cons x l ih=>
  have h1:=h x (by simp)
  have h2:=ih fun y hy=>h y (by simp[hy])
  rw[List.sum_cons,List.length_cons,Nat.add_mul,Nat.one_mul]; omega
theorem sumE_le{w h:Nat}(OK:OkP w h):sumE (eachL w h)≤60*81:=by
 rw[sumE_many,← OK.same]
 refine Nat.le_trans (sum_le (b:=81) fun x hx=>?_) (Nat.mul_le_mul_right _ (by rw[List.length_map]; exact OK.few))
 obtain⟨m,hm,rfl⟩:=List.mem_map.1 hx
 have:=OK.many m hm
 omega
theorem rawF_len(rs:List Bs):(rawF rs).length=((rs.map List.length).map (1+·)).sum:=by
 induction rs with
 | nil=>rfl
 | cons r rs ih=>
  simp only[rawF,List.flatMap_cons,lA,List.length_cons,List.map_cons,List.sum_cons]at ih ⊢
  omega
theorem raw_sum{w h:Nat}(OK:OkP w h){rs:List Bs}(hrs:rs.map List.length=(manyL w h).map (·*4)):(rawF rs).length=sumE (eachL w h):=by
 rw[rawF_len,hrs,sumE_many,← OK.same,List.map_map]; rfl
theorem pixels_spec{n pb w h:Nat}{H:AHeap}{dv raw:AVal}{rs:List Bs}(hw:1≤w)(hw2:w≤20)(hh:1≤h)(hh2:h≤20)(R:Row H pb (pC w h 4 true dv))(hpb:pb<H.next)(O:Op n H raw (byts (rawF rs)))(hn:n≤H.next)(hrs:rs.map List.length=(manyL w h).map (·*4))(hrl:rs.flatten.length=4*(w*h)) :
  ACalls Tryz.prog natT 27 [cellR pb 5 0,raw] H fun x H'=>∃b,x=.tuple [slR b (4*(w*h)) (.known (4*(w*h))),.int .i64 0]∧Row H' b (byts (placeK (orderL w h) rs.flatten (4*(w*h)) (w*h)))∧H.next≤b∧b<H'.next∧Ext H.next H H':=by
 have OK:=okP hw hw2 hh hh2
 have hwh:w*h≤20*20:=Nat.mul_le_mul hw2 hh2
 have hwh0:1≤w*h:=Nat.mul_le_mul hw hh
 refine acalls_ofN rfl za27 rfl ?_
 obtain⟨H1,m1,r1,k1,q1⟩:=row_newL H [cellR pb 5 0] (n:=1) rfl
 obtain⟨H2,m2,r2,k2,q2⟩:=row_newL H1 [raw] (n:=1) rfl
 have E2:Ext H.next H H2:=⟨om,fun c hc=>by rw[q2 c om,q1 c om]⟩
 have w1:IntKind.i64.wrap ((w:Int)*(h:Int))=((w*h:Nat):Int):=by rw[← Int.natCast_mul,wrap64 om om]
 have w2:IntKind.i64.wrap (((w*h:Nat):Int)*4)=((w*h*4:Nat):Int):=w64
 have R2:=R.same (E2.old pb hpb)
 have c2:oLoad false 1 H2 (cellR H.next 1 0)=some (cellR pb 5 0):=row_load (r1.same (q2 _ om)) rfl rfl
 obtain⟨H3,hH3⟩:∃H3,H3=H2.push (.cells [nilS] 0 false):=⟨_,rfl⟩
 have n3:H3.next=H2.next+1:=by rw[hH3,push_next]
 have q3:∀c,c<H2.next→H3.get c=H2.get c:=fun c hc=>by rw[hH3]; exact get_push_lt hc
 have g3:H3.get H2.next=some (.cells [nilS] 0 false):=by rw[hH3,AHeap.get_push,if_pos rfl]
 have R3:=R2.same (q3 pb om)
 have c3:oLoad false 1 H3 (cellR H.next 1 0)=some (cellR pb 5 0):=row_load ((r1.same (q2 _ om)).same (q3 _ om)) rfl rfl
 have x0:oLoad false 1 H3 (cellR pb 5 0)=some (.int .i64 (w:Int)):=row_load R3 rfl rfl
 have x1:oLoad false 1 H3 (cellR pb 5 1)=some (.int .i64 (h:Int)):=row_load R3 rfl rfl
 have x2:oLoad false 1 H3 (cellR pb 5 2)=some (.int .i64 4):=row_load R3 rfl rfl
 obtain⟨s4,H4,a4,M4,k4,q4⟩:=Mk.make (z:=.int .u8 0) (bytes:=1) (cap:=w*h*4) H3 om om
 have g4:H4.get H2.next=some (.cells [nilS] 0 false):=(q4 _ om).trans g3
 have cl4:aClaim H4 H2.next [nilS] none=some (cellR H2.next 1 0):=claim_ok g4 rfl
 have cl3:aClaim H3 H2.next [nilS] none=some (cellR H2.next 1 0):=claim_ok g3 rfl
 obtain⟨H5,m5,r5,k5,q5⟩:=row_st (H:=H4) (b:=H2.next) (l:=[nilS]) ⟨0,g4,Nat.zero_le _⟩ (n:=1) rfl (i:=0) om (x:=s4) M4.one (l':=[s4]) rfl
 have hn':H2.next=H1.next+1:=k2
 simp only[nilS]at hH3 cl4 cl3
 simp only[c27,sA,sB,seval,cells_one (cel_one O.cel),cells_one (show (cellR pb 5 0).one=true from rfl),m1,m2]
 refine aw_drawN ?_
 simp only[claims,newOf,reserves,← hH3]
 simp only[sA,sB,seval,sR,tr_claim,c3,nil_cell,fldA,fld0,x0,x1,x2,w1,w2,a4,cl4,m5]
 simp only[ck_nil',ck_cons,ckP_load,ckP_claim,ckP_nil,ck_end,and_true,true_and,List.map_cons,List.map_nil,sA,sB,seval]
 refine⟨⟨_,rfl,fun _=>⟨_,cl3,aeq_cellR _ _ _⟩⟩,?_⟩
 obtain⟨H6,m6,r6,k6,q6⟩:=row_newL H5 [.int .i64 0] (n:=1) rfl
 obtain⟨H7,m7,r7,k7,q7⟩:=row_st r6 (n:=1) rfl (i:=0) om (x:=.int .i64 0) rfl (l':=[.int .i64 0]) rfl
 obtain⟨RS,hRS,hRl,hRe⟩:=split_rows (eachL w h) rs (by
  rw[hrs,OK.same,List.map_flatMap]
  simp only[List.map_replicate])
 have e57:∀c,c<H5.next→H7.get c=H5.get c:=fun c hc=>by rw[q7 c om,q6 c om]
 have e27:∀c,c<H2.next→H7.get c=H2.get c:=fun c hc=>by rw[e57 c om,q5 c om,q4 c om,q3 c om]
 have rp7:Row H7 pb (pC w h 4 true dv):=R2.same (e27 pb om)
 have rpc:Row H7 H.next [cellR pb 5 0]:=r1.same (by rw[e27 _ om,q2 _ om])
 have lpc:oLoad false 1 H7 (cellR H.next 1 0)=some (cellR pb 5 0):=row_load rpc rfl rfl
 have hI:pixI H7 H5.next H.next H2.next H1.next H3.next pb (w*h*4) w h H.next dv RS 0 (fun c=>c=H5.next∨c=H.next∨c=H2.next∨c=H1.next∨c=H3.next∨(c<H.next∧c≠pb)) H7:=by
  refine⟨s4,raw,r7,rpc,r5.same (e57 _ om),r2.same (e27 _ om),M4.same om (by rw[e57 _ om,q5 _ om]),?_,rp7,hpb,om,om,om,om,om,om,om,om,om,fun _ _=>rfl,om,fun c=>Iff.rfl⟩
  rw[List.drop_zero,hRS]
  exact (O.more hn).same rL (O.blk.mono fun c hc=>by rw[e27 c om,E2.old c om])
 have CL:=pix_clo (H0:=H7) (fb:=H5.next) (pc:=H.next) (bc:=H2.next) (rc:=H1.next) (bb:=H3.next) (pb:=pb) (cap:=w*h*4) (w:=w) (h:=h) (n:=H.next) (dv:=dv) (RS:=RS) (E:=eachL w h) hRe (fun e he=>each_mem hw hw2 hh hh2 e he) (by rw[hRS,hrl]; omega) om
 simp only[sA,sB,seval,m6,m7,lpc]
 refine (each_spec CL dD hw hw2 hh hh2 hI rp7 om).mono ?_
 rintro _ H8 ⟨O8,⟨s8,raw8,z1,z2,z3,z4,M8,O8r,rp8,-,y1,y2,y3,y4,y5,x5,x6,x7,x8,f8,ne8,-⟩,n8,-,-⟩
 rw[← hRl,List.take_length,hRS]at M8
 have e08:∀c,c<H.next→H8.get c=H.get c:=fun c hc=>by rw[f8 c hc,e27 c om,E2.old c hc]
 have h8:∀c,c<H8.next→¬(H8.next≤c):=fun c hc=>om
 have lf8:oLoad false 1 H8 (cellR H5.next 1 0)=some (.int .i64 0):=row_load z1 rfl rfl
 have lc8:oLoad false 1 H8 (cellR H.next 1 0)=some (cellR pb 5 0):=row_load z2 rfl rfl
 have ll8:oLoad false 1 H8 (cellR pb 5 3)=some (.bool true):=row_load rp8 rfl rfl
 have lw8:oLoad false 1 H8 (cellR pb 5 0)=some (.int .i64 (w:Int)):=row_load rp8 rfl rfl
 have lh8:oLoad false 1 H8 (cellR pb 5 1)=some (.int .i64 (h:Int)):=row_load rp8 rfl rfl
 simp only[sA,sB,seval,lf8,lc8,nil_cell,fldA,fld0,ll8,lw8,lh8]
 refine (order_spec hw hw2 hh hh2 H8).mono ?_
 rintro ov H9 ⟨co,-,E9⟩
 have e9n:=E9.next
 have w4:IntKind.i64.wrap (4*(w:Int))=((4*w:Nat):Int):=w64
 have hm4:4*w*h=4*(w*h):=Nat.mul_assoc 4 w h
 have w5:IntKind.i64.wrap (((4*w:Nat):Int)*(h:Int))=((4*(w*h):Nat):Int):=by rw[← Int.natCast_mul,hm4,wrap64 om om]
 obtain⟨N,hN⟩:∃N,N=4*(w*h):=⟨_,rfl⟩
 rw[← hN]at w5 hrl ⊢
 have mk:=row_make (H:=H9) (z:=.int .u8 0) (bytes:=1) (k:=N) om om
 obtain⟨Ha,hHa⟩:∃Ha,Ha=H9.push (.cells (List.replicate N (.int .u8 0)) 0 false):=⟨_,rfl⟩
 rw[← hHa]at mk
 have na:Ha.next=H9.next+1:=by rw[hHa,push_next]
 have qa:∀c,c<H9.next→Ha.get c=H9.get c:=fun c hc=>by rw[hHa]; exact get_push_lt hc
 have ra:Row Ha H9.next (byts (placeK (orderL w h) rs.flatten N 0)):=by
  have e:byts (placeK (orderL w h) rs.flatten N 0)=List.replicate N (.int .u8 0):=by simp[placeK,byts]
  rw[e,hHa]; exact row_push _ _
 have lc9:oLoad false 1 H9 (cellR H.next 1 0)=some (cellR pb 5 0):=row_load (z2.same (E9.old _ om)) rfl rfl
 have lw9:oLoad false 1 H9 (cellR pb 5 0)=some (.int .i64 (w:Int)):=row_load (rp8.same (E9.old _ om)) rfl rfl
 have lh9:oLoad false 1 H9 (cellR pb 5 1)=some (.int .i64 (h:Int)):=row_load (rp8.same (E9.old _ om)) rfl rfl
 have lca:oLoad false 1 Ha (cellR H.next 1 0)=some (cellR pb 5 0):=row_load ((z2.same (E9.old _ om)).same (qa _ om)) rfl rfl
 have lwa:oLoad false 1 Ha (cellR pb 5 0)=some (.int .i64 (w:Int)):=row_load ((rp8.same (E9.old _ om)).same (qa _ om)) rfl rfl
 have lha:oLoad false 1 Ha (cellR pb 5 1)=some (.int .i64 (h:Int)):=row_load ((rp8.same (E9.old _ om)).same (qa _ om)) rfl rfl
 simp only[sA,sB,seval,lc9,nil_cell,fldA,fld0,lw9,lh9,w4,w5,mk,lca,lwa,lha,w1]
 refine aw_loop (fun m (T:Env) H'=>∃i,m=w*h-i∧i≤w*h∧T 2=cellR H.next 1 0∧T 6=cellR H2.next 1 0∧T 8=ov∧T 9=slR H9.next N (.known N)∧T 65=.int .i64 ((w*h:Nat):Int)∧T 66=.int .i64 (i:Int)∧Row H' H9.next (byts (placeK (orderL w h) rs.flatten N i))∧H'.next=Ha.next∧∀c,c<H9.next→H'.get c=H9.get c) (w*h)
  ⟨0,rfl,Nat.zero_le _,by simp only[sA,sB,seval],by simp only[sA,sB,seval],by simp only[sA,sB,seval],by simp only[sA,sB,seval],by simp only[sA,sB,seval],by simp only[sA,sB,seval]; try rfl,ra,rfl,qa⟩ ?_
 rintro m T Hb ⟨i,rfl,hi,t2,t6,t8,t9,t65,t66,rb,nb,fb⟩
 by_cases hlt:i<w*h
 case neg=>
  obtain rfl:i=w*h:=om
  have hlt':¬((w*h:Nat):Int)<((w*h:Nat):Int):=om
  simp only[sA,sB,seval,t9,t65,t66,hlt']
  exact⟨H9.next,tt,rb,om,om,⟨om,fun c hc=>by rw[fb c om,E9.old c om,e08 c hc]⟩⟩
 have hlt':(i:Int)<((w*h:Nat):Int):=om
 obtain⟨n',ho1,ho2,ho3⟩:=orderL_lt OK hlt
 have cob:Cel H9.next Hb ov (nats (orderL w h)):=cel_same co rL ((cel_blk co).mono fun c hc=>fb c hc)
 have io:=cob.idx .i64 (i:=i) (by rw[nats_len,OK.len]; exact hlt)
 have lo:=cob.load (nats_at ho1)
 have lcb:oLoad false 1 Hb (cellR H.next 1 0)=some (cellR pb 5 0):=row_load ((z2.same (E9.old _ om)).same (fb _ om)) rfl rfl
 have llb:oLoad false 1 Hb (cellR pb 5 3)=some (.bool true):=row_load ((rp8.same (E9.old _ om)).same (fb _ om)) rfl rfl
 have v1:IntKind.i64.wrap (4*(n':Int))=((4*n':Nat):Int):=w64
 have v2:IntKind.i64.wrap (((4*n':Nat):Int)+3)=((4*n'+3:Nat):Int):=w64
 have v3:IntKind.i64.wrap (((4*n':Nat):Int)+4)=((4*n'+4:Nat):Int):=w64
 have v4:IntKind.i64.wrap ((i:Int)*4)=((i*4:Nat):Int):=w64
 have v5:IntKind.i64.wrap ((i:Int)+1)=((i+1:Nat):Int):=w64
 have v6:IntKind.i64.wrap (((i+1:Nat):Int)*4)=(((i+1)*4:Nat):Int):=w64
 have lenP:(placeK (orderL w h) rs.flatten N i).length=N:=placeK_len (fun n hn=>by have:=OK.lt n hn; omega) i (by rw[OK.len]; omega) om
 obtain⟨P,hP⟩:∃P,P=placeK (orderL w h) rs.flatten N i:=⟨_,rfl⟩
 rw[← hP]at rb lenP
 have ix:aIdxA 1 (slR H9.next N (.known N)) (.int .i64 ((4*n'+3:Nat):Int))=some (cellR H9.next N (4*n'+3)):=row_idx .i64 om
 obtain⟨Hc,mc,rc,kc,qc⟩:=row_st rb (n:=N) (by rw[byts_len,lenP]) (i:=4*n'+3) om (x:=.int .u8 255) rfl (l':=byts (P.set (4*n'+3) 255)) (by simp[byts,List.map_set])
 have lcc:oLoad false 1 Hc (cellR H.next 1 0)=some (cellR pb 5 0):=row_load (((z2.same (E9.old _ om)).same (fb _ om)).same (qc _ om)) rfl rfl
 have l2c:oLoad false 1 Hc (cellR pb 5 2)=some (.int .i64 4):=row_load (((rp8.same (E9.old _ om)).same (fb _ om)).same (qc _ om)) rfl rfl
 have lbc:oLoad false 1 Hc (cellR H2.next 1 0)=some s8:=row_load (((z3.same (E9.old _ om)).same (fb _ om)).same (qc _ om)) rfl rfl
 have hbb:H3.next<H8.next:=by obtain⟨_,_,_,_,_,_,_,_,q⟩:=M8; exact q
 have M9:=M8.same (H':=Hc) om (by rw[qc _ om,fb _ om,E9.old _ hbb])
 have sk:=sl_known (b:=H9.next) (N:=N) (lo:=4*n') (hi:=4*n'+4) om om
 obtain⟨sm,sr⟩:=M9.sub (lo:=i*4) (hi:=(i+1)*4) om (by rw[byts_len,hrl]; omega)
 rw[show 4*n'+4-4*n'=4 by omega]at sk
 rw[show (i+1)*4-i*4=4 by omega]at sm sr
 have esub:((byts rs.flatten).drop (i*4)).take 4=byts ((rs.flatten.drop (4*i)).take 4):=by rw[Nat.mul_comm,byts_drop,byts_take]
 rw[esub]at sr
 have lsub:((rs.flatten.drop (4*i)).take 4).length=4:=by rw[List.length_take,List.length_drop,hrl]; omega
 obtain⟨Hd,md,rd,kd,qd⟩:=cpy4 (r1:=.known (N-4*n')) (r2:=.known (w*h*4-i*4)) (k:=4) rc (by rw[byts_len,List.length_set,lenP]) (lo:=4*n') om rL sr (by rw[byts_len,lsub]) (byts_one _)
 have ep:placeK (orderL w h) rs.flatten N (i+1)=put4 (P.set (4*n'+3) 255) n' ((rs.flatten.drop (4*i)).take 4):=by
  rw[put4_set,hP,← ho3]; rfl
 rw[← byts_put,← ep]at rd
 have hc:∀H l,aHf (.cpy 1) H l=aCpy 1 H l:=fun _ _=>rfl
 simp only[sA,sB,seval,t2,t6,t8,t9,t65,t66,hlt',lcb,nil_cell,fldA,fld0,llb,io,lo,v1,v2,ix,mc,v3,sk,lbc,lcc,l2c,v4,v5,v6,sm,hc,md]
 exact⟨w*h-(i+1),om,i+1,rfl,om,tt,tt,tt,tt,tt,tt,rd,om,fun c hc=>by rw[qd c om,qc c om,fb c hc]⟩
theorem open_told{H:AHeap}{v:AVal}{b d:Bs}{G q:Nat}(hT:Told b d G q)(hb:b.length≤10000)(hd:d.length≤100000){k:Nat}(hv:AppN 1 0 H v (byts (120::1::(d++four8 (adler 1 b)))) k)(hk:k=(d++four8 (adler 1 b)).length+2) :
  ACalls Tryz.prog natT 26 [v,.int .i64 (b.length:Int)] H fun w H'=>Ext H.next H H'∧∃out,w=.tuple [out,.int .i64 0]∧AppN 1 0 H' out (byts b) b.length:=by
 have S1:At (bitsB (d++four8 (adler 1 b))) 0 (bitsB d):=by rw[bitsB_append]; exact at_self _ _
 have hq1:=hT.q1
 have hq2:=hT.q2
 have hq:(q+7) / 8=d.length:=om
 have hf4:=four8_len (adler 1 b)
 refine (open_ok (hv.cel1 hv.blk') (app_hs hv hk) rL (by rw[lA,hf4]; omega) om (hT.most om S1) (by rw[lA]; omega) om (tl:=four8 (adler 1 b)) (by rw[hq,List.drop_left])).mono ?_
 rintro w H1 ⟨E,⟨-,out,rfl,c⟩ | ⟨h,-⟩⟩
 ·exact⟨E,out,rfl,c⟩
 ·exact absurd (open0 b) h
theorem hasprefix_spec{H:AHeap}:ACalls Tryz.prog natT 22 [.str sigB,.str sigB] H fun v H'=>v=.bool true∧H=H':=by
 have e1:aLenK true (.str sigB)=some (.int .i64 8):=_root_.id rfl
 have e2:aSlStr (.str sigB) none (some (.int .i64 8))=some (.str sigB):=_root_.id rfl
 have e3:aBin .eql (.str sigB) (.str sigB)=some (.bool true):=_root_.id rfl
 have k:ACalls Tryz.prog natT 46 [.str sigB,.str sigB] H fun v H'=>v=.bool true∧H=H':=by
  refine acalls_ofN rfl za46 rfl ?_
  simp only[c46,sA,sB,seval,e1,e2,e3]
  exact⟨tt,tt⟩
 refine acalls_ofN rfl za22 rfl ?_
 simp only[c22,sA,sB,seval]
 refine k.mono ?_
 rintro _ _ ⟨rfl,rfl⟩
 simp only[sA,sB,seval]
 exact⟨tt,tt⟩
theorem fin_c3t{T:Env}{H:AHeap}(i j:Nat)(K:AVal→AHeap→Prop){v:AVal}(h:oLoad true 3 H (T i)=some v)(hk:K (.tuple [v,T j]) H):fin [.cell true 3 i,.t j] K .ret T H:=by
 simp only[fin,wRes,h,OptP_some]; exact hk
theorem decode_spec{H:AHeap}{v:AVal}{w h:Nat}{ts rs:List Bs}{d:Bs}{G q k:Nat}(hw:1≤w)(hw2:w≤20)(hh:1≤h)(hh2:h≤20)(A:AppN 1 0 H v (byts (headF w h++(idatsF ts++chunkF kIEND []))) k)(hT:Told (rawF rs) d G q)(hd:d.length≤100000)(hts:ts.flatten=120::1::(d++four8 (adler 1 (rawF rs))))(hrs:rs.map List.length=(manyL w h).map (·*4))(hrl:rs.flatten.length=4*(w*h)) :
  ACalls Tryz.prog natT 8 [v] H fun x H'=>∃b,x=.tuple [.agg [.int .i64 (w:Int),.int .i64 (h:Int),slR b (4*(w*h)) (.known (4*(w*h)))],.int .i64 0]∧Row H' b (byts (placeK (orderL w h) rs.flatten (4*(w*h)) (w*h)))∧H.next≤b∧b<H'.next∧Ext H.next H H':=by
 have OK:=okP hw hw2 hh hh2
 refine acalls_ofN rfl za8 rfl ?_
 have O:=AppN.op (n:=H.next) A A.blk'
 have hl8:8≤(headF w h++(idatsF ts++chunkF kIEND [])).length:=by rw[lA]; have:(headF w h).length=33:=rfl; omega
 obtain⟨L,hL⟩:∃L,L=headF w h++(idatsF ts++chunkF kIEND []):=⟨_,rfl⟩
 have eL:L=sigB++(chunkF kIHDR (headB w h)++(idatsF ts++chunkF kIEND [])):=by rw[hL,headF,List.append_assoc]
 rw[← hL]at O hl8
 obtain⟨s8,m8,o8,-⟩:=O.upto (hi:=8) (by rw[byts_len]; exact hl8)
 have e8:(byts L).take 8=byts sigB:=by rw[byts_take,eL,List.take_left' (show sigB.length=8 from rfl)]
 rw[e8]at o8
 obtain⟨sr,mr,or_,-⟩:=O.from_ (lo:=8) (by rw[byts_len]; exact hl8)
 have er:(byts L).drop 8=byts (chunkF kIHDR (headB w h)++(idatsF ts++chunkF kIEND [])):=by rw[byts_drop,eL,List.drop_left' (show sigB.length=8 from rfl)]
 rw[er]at or_
 have m8':aSl 1 v none (some (.int .i64 8)) none=some s8:=m8
 have mr':aSl 1 v (some (.int .i64 8)) none none=some sr:=mr
 have ll:=O.len
 rw[byts_len]at ll
 obtain⟨H1,m1,r1,k1,q1⟩:=row_newL H [.int .i64 0,.int .i64 0,nilS] (n:=3) rfl
 have E1:Ext H.next H H1:=⟨om,fun c hc=>q1 c om⟩
 have b8:=bs_cel (o8.ext E1).cel
 have mn:(if (8:Int)<(L.length:Int) then (8:Int) else (L.length:Int))=8:=by split <;> omega
 simp only[nilS]at m1
 simp only[c8,sA,sB,seval,m1,ll,mn,m8',b8]
 refine hasprefix_spec.mono ?_
 rintro _ _ ⟨rfl,rfl⟩
 obtain⟨H2,m2,r2,k2,q2⟩:=row_newL H1 (pC 0 0 0 false nilS) (n:=5) rfl
 have m2':oNew H1 [.int .i64 0,.int .i64 0,.int .i64 0,.bool false,.slice none 0 (.known 0)]=(cellR H1.next 5 0,H2):=m2
 have E2:Ext H.next H H2:=⟨om,fun c hc=>by rw[q2 c om,E1.old c hc]⟩
 simp only[sA,sB,seval,m2',mr']
 have htl:ts.flatten.length≤500000:=by rw[hts]; simp only[List.length_cons,lA,four8_len]; omega
 refine (chunks_spec r2 (or_.ext E2) om om hw hw2 hh hh2 htl).mono ?_
 rintro _ H3 ⟨dv,rfl,r3,A3,b3,n3,f3⟩
 have E3:Ext H.next H H3:=⟨om,fun c hc=>by rw[f3 c om om,E2.old c hc]⟩
 obtain⟨H4,m4,r4,k4,q4⟩:=row_newL H3 [.int .i64 0] (n:=1) rfl
 obtain⟨H5,m5,r5,k5,q5⟩:=row_st r4 (n:=1) rfl (i:=0) om (x:=.int .i64 0) rfl (l':=[.int .i64 0]) rfl
 have e35:∀c,c<H3.next→H5.get c=H3.get c:=fun c hc=>by rw[q5 c om,q4 c om]
 have rp5:Row H5 H1.next (pC w h 4 true dv):=r3.same (e35 _ om)
 simp only[sA,sB,seval,m4,m5]
 have hsl:=sumE_le OK
 refine (each_spec (long_clo (lb:=H3.next) (pb:=H1.next) (w:=w) (h:=h) (dv:=dv) (E:=eachL w h) om (fun e he=>by have:=each_mem hw hw2 hh hh2 e he; omega)) dD hw hw2 hh hh2 (O:=fun c=>c=H3.next) ⟨r5,rp5,om,om,fun c=>Iff.rfl⟩ rp5 om).mono ?_
 rintro _ H6 ⟨O6,⟨z1,z2,z3,z4,z5⟩,n6,f6,-⟩
 rw[List.take_length,← raw_sum OK hrs]at z1
 have hrl2:(rawF rs).length≤5000:=by rw[raw_sum OK hrs]; omega
 have f6':∀c,c<H3.next→H6.get c=H3.get c:=fun c hc=>by rw[f6 c om om,e35 c hc]
 have A6:AppN 1 0 H6 dv (byts (120::1::(d++four8 (adler 1 (rawF rs))))) (ts.flatten).length:=by
  rw[← hts]
  exact A3.same om (A3.blk'.mono fun c hc=>f6' c hc)
 have l4:oLoad false 1 H6 (cellR H1.next 5 4)=some dv:=row_load z2 rfl rfl
 have ll6:oLoad false 1 H6 (cellR H3.next 1 0)=some (.int .i64 ((rawF rs).length:Int)):=row_load z1 rfl rfl
 simp only[sA,sB,seval,fldA,fld0,l4,ll6]
 refine (open_told hT om hd A6 (by rw[hts]; simp only[List.length_cons])).mono ?_
 rintro _ H7 ⟨E7,out,rfl,A7⟩
 have e7n:=E7.next
 have lo7:=A7.len
 have ll7:oLoad false 1 H7 (cellR H3.next 1 0)=some (.int .i64 ((rawF rs).length:Int)):=row_load (z1.same (E7.old _ z3)) rfl rfl
 have hnl:¬((rawF rs).length:Int)<((rawF rs).length:Int):=om
 have rp7:Row H7 H1.next (pC w h 4 true dv):=z2.same (E7.old _ om)
 simp only[sA,sB,seval,ext_0,ext_1,lo7,ll7,hnl]
 refine (pixels_spec hw hw2 hh hh2 rp7 om (AppN.op (n:=H7.next) A7 A7.blk') rL hrs hrl).mono ?_
 rintro _ H8 ⟨b,rfl,R8,hb8,hb8',E8⟩
 have e8n:=E8.next
 have rp8:Row H8 H1.next (pC w h 4 true dv):=rp7.same (E8.old _ om)
 have lw8:oLoad false 1 H8 (cellR H1.next 5 0)=some (.int .i64 (w:Int)):=row_load rp8 rfl rfl
 have lh8:oLoad false 1 H8 (cellR H1.next 5 1)=some (.int .i64 (h:Int)):=row_load rp8 rfl rfl
 have r8:Row H8 H.next [.int .i64 0,.int .i64 0,nilS]:=r1.same (by rw[E8.old _ om,E7.old _ om,f6' _ om,f3 _ om om,q2 _ om])
 obtain⟨N,hN⟩:∃N,N=4*(w*h):=⟨_,rfl⟩
 rw[← hN]at R8 ⊢
 have bd:aBuild [.int .i64 0,.int .i64 0,.slice none 0 (.known 0)] [(0,1,.int .i64 (w:Int)),(1,1,.int .i64 (h:Int)),(2,1,slR b N (.known N))]=some (.agg [.int .i64 (w:Int),.int .i64 (h:Int),slR b N (.known N)]):=_root_.id rfl
 obtain⟨H9,m9,r9,k9,q9⟩:=row_storeN r8 (n:=3) rfl (xs:=[.int .i64 (w:Int),.int .i64 (h:Int),slR b N (.known N)]) rfl rfl
 simp only[sA,sB,seval,ext_0,ext_1,fldA,fld0,lw8,lh8,bd,m9]
 refine fin_c3t _ _ _ (by simp only[sA,sB,seval]; exact row_loadN r9 (n:=3) rfl) ?_
 simp only[sA,sB,seval]
 refine⟨b,tt,R8.same (q9 b om),om,om,⟨om,fun c hc=>?_⟩⟩
 rw[q9 c om,E8.old c om,E7.old c om,f6' c om,E3.old c hc]
end Go.Proofs.Tb
namespace Go.Proofs.Tx
open Go.Abs Go.Abs.S
theorem and32{x:Nat}(h:x<18446744073709551616):aBin .and (.int .u64 (x:Int)) (.int .u64 4294967295)=some (.int .u64 ((x % 4294967296:Nat):Int)):=by
 have:=bin_andU64 (a:=x) (b:=4294967295) om om
 rw[show x &&& 4294967295=x % 4294967296 from Nat.and_two_pow_sub_one_eq_mod x 32]at this
 exact this
theorem shr32(x:Nat):aBin .shr (.int .u64 (x:Int)) (.int .u64 32)=some (.int .u64 ((x / 4294967296:Nat):Int)):=
 shrN .u64 .u64 x (b:=32) dD
theorem shl32{x:Nat}(h:x<4294967296):aBin .shl (.int .u64 (x:Int)) (.int .u64 32)=some (.int .u64 ((x*4294967296:Nat):Int)):=by
 rw[show (AVal.int .u64 32)=.int .u64 ((32:Nat):Int) from rfl,bin_shl]
 congr 2
 rw[show min 32 IntKind.u64.bits=32 from rfl,IntKind.wrap_u64]; omega
theorem shl32w(x:Nat):aBin .shl (.int .u64 (x:Int)) (.int .u64 32)=some (.int .u64 ((x*4294967296 % 18446744073709551616:Nat):Int)):=by
 rw[show (AVal.int .u64 32)=.int .u64 ((32:Nat):Int) from rfl,bin_shl]
 refine congrArg (fun z=>some (AVal.int .u64 z)) ?_
 rw[show min 32 IntKind.u64.bits=32 from rfl,IntKind.wrap_u64]; omega
theorem ishl32{x:Int}(h1:-2147483648≤x)(h2:x≤2147483647):aBin .shl (.int .i64 x) (.int .u64 32)=some (.int .i64 (x*4294967296)):=by
 rw[show (AVal.int .u64 32)=.int .u64 ((32:Nat):Int) from rfl,bin_shl]
 congr 2
 rw[show min 32 IntKind.i64.bits=32 from rfl,IntKind.wrap_i64]; omega
theorem ishr32(x:Int):aBin .shr (.int .i64 x) (.int .u64 32)=some (.int .i64 (x / 4294967296)):=by
 rw[show (AVal.int .u64 32)=.int .u64 ((32:Nat):Int) from rfl,bin_shr]
 congr 2
 rw[show min 32 IntKind.i64.bits=32 from rfl,Int.fdiv_eq_ediv_of_nonneg _ dD]
 rfl
theorem uw{a:Nat}(h:a<18446744073709551616):IntKind.u64.wrap (a:Int)=(a:Int):=wrapU64' (Int.natCast_nonneg _) om
theorem wmul{a b:Nat}(h:a*b<18446744073709551616):IntKind.u64.wrap ((a:Int)*(b:Int))=((a*b:Nat):Int):=by
 rw[show (a:Int)*b=((a*b:Nat):Int) by simp]; exact uw h
theorem wmulw(a b:Nat):IntKind.u64.wrap ((a:Int)*(b:Int))=((a*b % 18446744073709551616:Nat):Int):=by
 rw[show (a:Int)*b=((a*b:Nat):Int) by simp,IntKind.wrap_u64]
 generalize a*b=c; omega
theorem wadd{a b:Nat}(h:a+b<18446744073709551616):IntKind.u64.wrap ((a:Int)+(b:Int))=((a+b:Nat):Int):=by
 rw[show (a:Int)+b=((a+b:Nat):Int) by simp]; exact uw h
theorem wsub{a b:Nat}(h:b≤a)(ha:a<18446744073709551616):IntKind.u64.wrap ((a:Int)-(b:Int))=((a-b:Nat):Int):=by
 rw[show (a:Int)-b=((a-b:Nat):Int) by omega]; exact uw om
theorem orU64{a b:Nat}(ha:a<18446744073709551616)(hb:b<18446744073709551616):aBin .or (.int .u64 (a:Int)) (.int .u64 (b:Int))=some (.int .u64 ((a ||| b:Nat):Int)):=by
 have e:(BitVec.ofInt IntKind.u64.bits (a:Int) ||| BitVec.ofInt IntKind.u64.bits (b:Int)).toNat=a ||| b:=by
  rw[BitVec.toNat_or,ofInt_nat,ofInt_nat]
  have h1:a % 2 ^ IntKind.u64.bits=a:=Nat.mod_eq_of_lt (by simp only[IntKind.bits]; omega)
  have h2:b % 2 ^ IntKind.u64.bits=b:=Nat.mod_eq_of_lt (by simp only[IntKind.bits]; omega)
  rw[h1,h2]
 simp only[aBin,isShift,cond_false,if_true,aIntF_eq,aInt,e]
 have h3:a ||| b<2 ^ 64:=Nat.or_lt_two_pow om om
 rw[uw om]
theorem lt32_mul{a b:Nat}(ha:a<4294967296)(hb:b<4294967296):a*b≤18446744065119617025:=
 Nat.mul_le_mul (show a≤4294967295 by omega) (show b≤4294967295 by omega)
theorem halves(x y:Nat):∃ac ad bc bd:Nat,ac=(x / 4294967296)*(y / 4294967296)∧ad=(x / 4294967296)*(y % 4294967296)∧bc=(x % 4294967296)*(y / 4294967296)∧bd=(x % 4294967296)*(y % 4294967296) ∧
  x*y=ac*18446744073709551616+(ad+bc)*4294967296+bd:=by
 refine⟨_,_,_,_,rfl,rfl,rfl,rfl,?_⟩
 have hx:x=(x / 4294967296)*4294967296+x % 4294967296:=om
 have hy:y=(y / 4294967296)*4294967296+y % 4294967296:=om
 generalize x / 4294967296=a at *
 generalize x % 4294967296=b at *
 generalize y / 4294967296=c at *
 generalize y % 4294967296=d at *
 subst hx hy
 simp only[Nat.add_mul,Nat.mul_add]
 have e1:a*4294967296*(c*4294967296)=a*c*18446744073709551616:=by
  rw[Nat.mul_mul_mul_comm]
 have e2:a*4294967296*d=a*d*4294967296:=by rw[Nat.mul_right_comm]
 have e3:b*(c*4294967296)=b*c*4294967296:=by rw[Nat.mul_assoc]
 rw[e1,e2,e3]; omega
end Go.Proofs.Tx
namespace Go.Proofs.Tb
open Go.Abs Go.Abs.S
noncomputable section
def c31:AFn:=⟨16,zq [zo 4 (.mv (zi 0))] (zq [zf 5 2 1,zl 6 5,zl 7 2,zm 8 0,zb 9 .add 7 8,zd 10 6 9,zl 11 10,zv 12 .i64 11,zx 13 33 [.t 12],zx 14 33 [zi 255],zx 15 32 [.t 13,.t 14],zm 4 15] .ret),[.t 4]⟩
theorem za31:cN Tryz.prog 31=some c31:=by kernel_rfl
def c32:AFn:=⟨46,zq [zo 4 (.mv (zi 0))] (zr [zm 11 1,zk 12 .eql 11 0] 12 (.seq (.block 0 (zq [zm 14 0,zk 15 .gtr 14 0,zm 13 15] (.cond (.t 13) (zq [zo 4 (.mv (zi 9223372036854775807))] .ret) (zq [zm 17 0,zk 18 .lss 17 0,zm 16 18] (.cond (.t 16) (zq [zo 4 (.mv (.c (.int .i64 (.negSucc 9223372036854775807))))] .ret) .skip))))) (zq [zo 4 (.mv (zi 0))] .ret)) .skip (zq [zm 19 0,zm 20 1,zx 21 57 [.t 19,.t 20],zm 5 21] (zq [zm 22 0,zx 23 58 [.t 22],zm 24 1,zx 25 58 [.t 24],zm 6 23,zm 7 25] (zq [zm 26 6,zo 27 (.bin .shr (.t 26) (.c (.int .u64 (.ofNat 32)))),zm 8 27] (zq [zm 29 8,zm 30 7,zb 31 .rem 29 30,zm 32 6,zo 33 (.bin .shl (.t 32) (.c (.int .u64 (.ofNat 32)))),zm 34 7,zx 35 59 [.t 31,.t 33,.t 34],zm 28 35,ze 36 0 28,ze 37 1 28,zm 9 36,zm 10 37] (zq [zm 38 5,zm 39 8,zm 40 7,zb 41 .quo 39 40,zm 42 9,zm 43 10,zo 44 (.bin .neq (.t 43) (.c (.int .u64 (.ofNat 0)))),zo 45 (.callv (.t 38) [.t 41,.t 42,.t 44]),zm 4 45] .ret)))))),[.t 4]⟩
theorem za32:cN Tryz.prog 32=some c32:=by kernel_rfl
def c59:AFn:=⟨135,zq [zo 6 (.mv (.c (.int .u64 (.ofNat 0)))),zo 7 (.mv (.c (.int .u64 (.ofNat 0))))] (zr [zm 19 2,zo 20 (.bin .eql (.t 19) (.c (.int .u64 (.ofNat 0))))] 20 (.reg [zo 21 (.hf (.gLd 0 false 1) []),zp .bad]) .skip (zr [zm 22 2,zm 23 0,zb 24 .leq 22 23] 24 (.reg [zo 25 (.hf (.gLd 1 false 1) []),zp .bad]) .skip (zr [zm 26 0,zo 27 (.bin .eql (.t 26) (.c (.int .u64 (.ofNat 0))))] 27 (zq [zm 28 1,zm 29 2,zb 30 .quo 28 29,zm 31 1,zm 32 2,zb 33 .rem 31 32,zm 6 30,zm 7 33] .ret) .skip (zq [zm 34 2,zx 35 74 [.t 34],zv 36 .u64 35,zm 8 36] (zq [zm 37 2,zm 38 8,zb 39 .shl 37 38,zm 2 39] (zq [zm 40 2,zo 41 (.bin .shr (.t 40) (.c (.int .u64 (.ofNat 32)))),zm 9 41] (zq [zm 42 2,zo 43 (.bin .and (.t 42) (.c (.int .u64 (.ofNat 4294967295)))),zm 10 43] (zq [zm 44 0,zm 45 8,zb 46 .shl 44 45,zm 47 1,zm 48 8,zo 49 (.bin .sub (.c (.int .u64 (.ofNat 64))) (.t 48)),zb 50 .shr 47 49,zb 51 .or 46 50,zm 11 51] (zq [zm 52 1,zm 53 8,zb 54 .shl 52 53,zm 12 54] (zq [zm 55 12,zo 56 (.bin .shr (.t 55) (.c (.int .u64 (.ofNat 32)))),zm 13 56] (zq [zm 57 12,zo 58 (.bin .and (.t 57) (.c (.int .u64 (.ofNat 4294967295)))),zm 14 58] (zq [zm 59 11,zm 60 9,zb 61 .quo 59 60,zm 15 61] (zq [zm 62 11,zm 63 15,zm 64 9,zb 65 .mul 63 64,zb 66 .sub 62 65,zm 16 66] (.seq (.block 0 (.loop (zr [zm 67 15,zo 68 (.bin .geq (.t 67) (.c (.int .u64 (.ofNat 4294967296)))),zm 69 68,zg 70 (.mv (.t 15)) 69 false,zg 71 (.mv (.t 10)) 69 false,zg 72 (.bin .mul (.t 70) (.t 71)) 69 false,zg 73 (.mv (.t 16)) 69 false,zg 74 (.bin .mul (.c (.int .u64 (.ofNat 4294967296))) (.t 73)) 69 false,zg 75 (.mv (.t 13)) 69 false,zg 76 (.bin .add (.t 74) (.t 75)) 69 false,zg 77 (.bin .gtr (.t 72) (.t 76)) 69 false,zo 78 (.pick (.t 69) (.c (.bool true)) (.t 77))] 78 .skip (.exit 0) (.block 1 (zq [zm 79 15,zo 80 (.bin .sub (.t 79) (.c (.int .u64 (.ofNat 1)))),zm 15 80] (zq [zm 81 16,zm 82 9,zb 83 .add 81 82,zm 16 83] (zq [zm 84 16,zo 85 (.bin .geq (.t 84) (.c (.int .u64 (.ofNat 4294967296))))] (.cond (.t 85) (.exit 0) .skip)))))))) (zq [zm 86 11,zo 87 (.bin .mul (.t 86) (.c (.int .u64 (.ofNat 4294967296)))),zm 88 13,zb 89 .add 87 88,zm 90 15,zm 91 2,zb 92 .mul 90 91,zb 93 .sub 89 92,zm 17 93] (zq [zm 94 17,zm 95 9,zb 96 .quo 94 95,zm 18 96] (zq [zm 97 17,zm 98 18,zm 99 9,zb 100 .mul 98 99,zb 101 .sub 97 100,zm 16 101] (.seq (.block 2 (.loop (zr [zm 102 18,zo 103 (.bin .geq (.t 102) (.c (.int .u64 (.ofNat 4294967296)))),zm 104 103,zg 105 (.mv (.t 18)) 104 false,zg 106 (.mv (.t 10)) 104 false,zg 107 (.bin .mul (.t 105) (.t 106)) 104 false,zg 108 (.mv (.t 16)) 104 false,zg 109 (.bin .mul (.c (.int .u64 (.ofNat 4294967296))) (.t 108)) 104 false,zg 110 (.mv (.t 14)) 104 false,zg 111 (.bin .add (.t 109) (.t 110)) 104 false,zg 112 (.bin .gtr (.t 107) (.t 111)) 104 false,zo 113 (.pick (.t 104) (.c (.bool true)) (.t 112))] 113 .skip (.exit 2) (.block 3 (zq [zm 114 18,zo 115 (.bin .sub (.t 114) (.c (.int .u64 (.ofNat 1)))),zm 18 115] (zq [zm 116 16,zm 117 9,zb 118 .add 116 117,zm 16 118] (zq [zm 119 16,zo 120 (.bin .geq (.t 119) (.c (.int .u64 (.ofNat 4294967296))))] (.cond (.t 120) (.exit 2) .skip)))))))) (zq [zm 121 15,zo 122 (.bin .mul (.t 121) (.c (.int .u64 (.ofNat 4294967296)))),zm 123 18,zb 124 .add 122 123,zm 125 17,zo 126 (.bin .mul (.t 125) (.c (.int .u64 (.ofNat 4294967296)))),zm 127 14,zb 128 .add 126 127,zm 129 18,zm 130 2,zb 131 .mul 129 130,zb 132 .sub 128 131,zm 133 8,zb 134 .shr 132 133,zm 6 124,zm 7 134] .ret))))))))))))))))))),[.t 6,.t 7]⟩
theorem za59:cN Tryz.prog 59=some c59:=by kernel_rfl
end
end Go.Proofs.Tb
namespace Go.Proofs.Tx
open Go.Abs Go.Abs.S
open Go.Proofs.Tb hiding nats
theorem aw_loop1{C:CS}(hC:CMono C){c:ACode}{Q:Post}{T:Env}{H:AHeap}(h:wp C c (inSeq Q fun _ _=>False) T H):wp C (.loop c) Q T H:=by
 refine aw_loop (fun _ T' H'=>T'=T∧H'=H) 0 ⟨rfl,rfl⟩ ?_
 rintro m T' H' ⟨rfl,rfl⟩
 exact wp_mono' hC c (fun e T H hq=>inSeq_mono (fun _ _ _ h=>h) (fun _ _ h=>h.elim) e T H hq) h
theorem floor_spec(x:Int){H:AHeap}:ACalls Tryz.prog natT 55 [.int .i64 x] H fun v H'=>v=.int .i64 (x / 4294967296)∧H=H':=by
 refine acalls_ofN rfl za55 rfl ?_
 simp only[c55,sA,sB,seval,ishr32]
 exact⟨by trivial,by trivial⟩
theorem of_spec{x:Int}(h1:-2147483648≤x)(h2:x≤2147483647){H:AHeap}:ACalls Tryz.prog natT 33 [.int .i64 x] H fun v H'=>v=.int .i64 (x*4294967296)∧H=H':=by
 refine acalls_ofN rfl za33 rfl ?_
 have g1:¬2147483647<x:=om
 have g2:¬x < -2147483648:=om
 simp only[c33,sA,sB,seval,g1,g2,ishl32 h1 h2]
 exact⟨by trivial,by trivial⟩
theorem sub_spec{a b:Int}(h1:b≤a)(h2:a≤b+4294967295)(h3:-9223372036854775808≤b)(h4:a≤9223372036854775807){H:AHeap}:ACalls Tryz.prog natT 54 [.int .i64 a,.int .i64 b] H fun v H'=>v=.int .i64 (a-b)∧H=H':=by
 refine acalls_ofN rfl za54 rfl ?_
 have e3:IntKind.i64.wrap (a-b)=a-b:=wrap64 om om
 by_cases hb:b<0
 ·have e1:IntKind.i64.wrap (9223372036854775807+b)=9223372036854775807+b:=wrap64 om om
  have g1:¬9223372036854775807+b<a:=om
  have g2:¬0<b:=om
  simp only[c54,sA,sB,seval,hb,e1,g1,g2,e3]
  exact⟨by trivial,by trivial⟩
 ·by_cases hb':0<b
  ·have e1:IntKind.i64.wrap (-9223372036854775808+b)=-9223372036854775808+b:=wrap64 om om
   have g1:¬a < -9223372036854775808+b:=om
   simp only[c54,sA,sB,seval,hb,hb',e1,g1,e3]
   exact⟨by trivial,by trivial⟩
  ·simp only[c54,sA,sB,seval,hb,hb',e3]
   exact⟨by trivial,by trivial⟩
theorem size_spec{a:Nat}(ha:a<9223372036854775808){H:AHeap}:ACalls Tryz.prog natT 58 [.int .i64 (a:Int)] H fun v H'=>v=.int .u64 (a:Int)∧H=H':=by
 refine acalls_ofN rfl za58 rfl ?_
 have g:¬(a:Int)<0:=om
 simp only[c58,sA,sB,seval,g,uw (show a<18446744073709551616 by omega)]
 exact⟨by trivial,by trivial⟩
theorem eqv_bool(a b:Bool):aPf (.eqv false .bool) [.bool a,.bool b]=some (.bool (a==b)):=by cases a <;> cases b <;> rfl
theorem signs_spec{a b:Nat}{H:AHeap}:ACalls Tryz.prog natT 57 [.int .i64 (a:Int),.int .i64 (b:Int)] H fun v H'=>v=.func (.func 72) [] []∧H=H':=by
 refine acalls_ofN rfl za57 rfl ?_
 have g:¬(a:Int)<0:=om
 have g':¬(b:Int)<0:=om
 have e:aPf (.eqv false .bool) [.bool (decide False),.bool (decide False)]=some (.bool true):=rfl
 simp only[c57,sA,sB,seval,g,g',decide_false,eqv_bool,beq_self_eq_true]
 exact⟨by trivial,by trivial⟩
theorem brought_spec{lo:Nat}(hl:lo<9223372036854775808)(r:Bool){H:AHeap}:ACalls Tryz.prog natT 72 [.int .u64 0,.int .u64 (lo:Int),.bool r] H fun v H'=>v=.int .i64 (lo:Int)∧H=H':=by
 refine acalls_ofN rfl za72 rfl ?_
 have g:¬(9223372036854775807:Int)<(lo:Int):=om
 simp only[c72,sA,sB,seval,g,wrap64 (show -9223372036854775808≤(lo:Int) by omega) (show (lo:Int)≤9223372036854775807 by omega)]
 exact⟨by trivial,by trivial⟩
set_option maxHeartbeats 1000000 in
theorem mul64_spec{x y:Nat}(hx:x<18446744073709551616)(hy:y<18446744073709551616){H:AHeap} :
  ACalls Tryz.prog natT 71 [.int .u64 (x:Int),.int .u64 (y:Int)] H fun v H'=>v=.tuple [.int .u64 ((x*y / 18446744073709551616:Nat):Int),.int .u64 ((x*y % 18446744073709551616:Nat):Int)]∧H=H':=by
 refine acalls_ofN rfl za71 rfl ?_
 obtain⟨ac,ad,bc,bd,e1,e2,e3,e4,e⟩:=halves x y
 have b1:=lt32_mul (a:=x / 4294967296) (b:=y / 4294967296) om om
 have b2:=lt32_mul (a:=x / 4294967296) (b:=y % 4294967296) om om
 have b3:=lt32_mul (a:=x % 4294967296) (b:=y / 4294967296) om om
 have b4:=lt32_mul (a:=x % 4294967296) (b:=y % 4294967296) om om
 have m1:IntKind.u64.wrap (((x / 4294967296:Nat):Int)*((y / 4294967296:Nat):Int))=(ac:Int):=by rw[wmul om,e1]
 have m2:IntKind.u64.wrap (((x / 4294967296:Nat):Int)*((y % 4294967296:Nat):Int))=(ad:Int):=by rw[wmul om,e2]
 have m3:IntKind.u64.wrap (((x % 4294967296:Nat):Int)*((y / 4294967296:Nat):Int))=(bc:Int):=by rw[wmul om,e3]
 have m4:IntKind.u64.wrap (((x % 4294967296:Nat):Int)*((y % 4294967296:Nat):Int))=(bd:Int):=by rw[wmul om,e4]
 rw[← e1]at b1
 rw[← e2]at b2
 rw[← e3]at b3
 rw[← e4]at b4
 have a1:IntKind.u64.wrap ((ad:Int)+((bd / 4294967296:Nat):Int))=((ad+bd / 4294967296:Nat):Int):=wadd om
 obtain⟨t,ht⟩:∃t,t=ad+bd / 4294967296:=⟨_,rfl⟩
 rw[← ht]at a1
 have a2:IntKind.u64.wrap (((t % 4294967296:Nat):Int)+(bc:Int))=((t % 4294967296+bc:Nat):Int):=wadd om
 have a3:IntKind.u64.wrap ((ac:Int)+((t / 4294967296:Nat):Int))=((ac+t / 4294967296:Nat):Int):=wadd om
 have a4:IntKind.u64.wrap (((ac+t / 4294967296:Nat):Int)+(((t % 4294967296+bc) / 4294967296:Nat):Int))=((ac+t / 4294967296+(t % 4294967296+bc) / 4294967296:Nat):Int):=wadd om
 simp only[c71,sA,sB,seval,and32 hx,and32 hy,shr32,m1,m2,m3,m4,a1,and32 (show t<18446744073709551616 by omega),a2,a3,a4,wmulw]
 refine⟨?_,by trivial⟩
 congr 4
 clear m1 m2 m3 m4 a1 a2 a3 a4 e1 e2 e3 e4
 omega
theorem mul_spec{a b:Nat}(ha:a<9223372036854775808)(hb:b<9223372036854775808)(hab:a*b<39614081257132168796771975168){H:AHeap} :
  ACalls Tryz.prog natT 56 [.int .i64 (a:Int),.int .i64 (b:Int)] H fun v H'=>v=.int .i64 ((a*b / 4294967296:Nat):Int)∧H=H':=by
 refine acalls_ofN rfl za56 rfl ?_
 simp only[c56,sA,sB,seval]
 refine (signs_spec).mono ?_
 rintro v _ ⟨rfl,rfl⟩
 simp only[sA,sB,seval]
 refine (size_spec ha).mono ?_
 rintro v _ ⟨rfl,rfl⟩
 simp only[sA,sB,seval]
 refine (size_spec hb).mono ?_
 rintro v _ ⟨rfl,rfl⟩
 simp only[sA,sB,seval]
 refine (mul64_spec (x:=a) (y:=b) om om).mono ?_
 rintro v _ ⟨rfl,rfl⟩
 generalize a*b=c at *
 have s0:((c / 18446744073709551616 / 4294967296:Nat):Int)=0:=om
 have s1:=orU64 (a:=c / 18446744073709551616*4294967296) (b:=c % 18446744073709551616 / 4294967296) om om
 have s2:=or_low 32 (c / 18446744073709551616) (b:=c % 18446744073709551616 / 4294967296) om
 rw[show (2:Nat) ^ 32=4294967296 from rfl]at s2
 rw[s2,show c / 18446744073709551616*4294967296+c % 18446744073709551616 / 4294967296=c / 4294967296 by omega]at s1
 simp only[sA,sB,seval,ext_0,ext_1,shr32,shl32 (show c / 18446744073709551616<4294967296 by omega),s1,shl32w,s0]
 refine (brought_spec (lo:=c / 4294967296) om _).mono ?_
 rintro v _ ⟨rfl,rfl⟩
 simp only[sA,sB,seval]
 exact⟨by trivial,by trivial⟩
def plF(x:Int)(n:Nat):Nat:=(x % 4294967296).toNat*n / 4294967296
theorem plF_lt(x:Int){n:Nat}(h:0<n):plF x n<n:=by
 unfold plF
 have h1:(x % 4294967296).toNat<4294967296:=om
 have:(x % 4294967296).toNat*n<4294967296*n:=Nat.mul_lt_mul_of_pos_right h1 h
 exact Nat.div_lt_of_lt_mul this
theorem pl_mul(r n:Nat):r*(n*4294967296) / 4294967296=r*n:=by
 rw[← Nat.mul_assoc,Nat.mul_div_cancel _ dD]
theorem pl_bound{r n:Nat}(hr:r<4294967296)(hn:n≤1024):r*n≤4398046510080:=Nat.mul_le_mul (show r≤4294967295 by omega) hn
theorem place_spec{x:Int}(x1:-9223372036854775808≤x)(x2:x≤9223372036854775807){n:Nat}(hn:n≤1024){H:AHeap}:ACalls Tryz.prog natT 30 [.int .i64 x,.int .i64 (n:Int)] H fun v H'=>v=.int .i64 (plF x n:Int)∧H=H':=by
 refine acalls_ofN rfl za30 rfl ?_
 simp only[c30,sA,sB,seval]
 refine (floor_spec x).mono ?_
 rintro v _ ⟨rfl,rfl⟩
 simp only[sA,sB,seval]
 refine (of_spec (x:=x / 4294967296) om om).mono ?_
 rintro v _ ⟨rfl,rfl⟩
 simp only[sA,sB,seval]
 refine (sub_spec (a:=x) (b:=x / 4294967296*4294967296) om om om om).mono ?_
 rintro v _ ⟨rfl,rfl⟩
 simp only[sA,sB,seval]
 refine (of_spec (x:=(n:Int)) om om).mono ?_
 rintro v _ ⟨rfl,rfl⟩
 simp only[sA,sB,seval]
 have e1:x-x / 4294967296*4294967296=(((x % 4294967296).toNat:Nat):Int):=om
 have e2:(n:Int)*4294967296=((n*4294967296:Nat):Int):=om
 have hr:(x % 4294967296).toNat<4294967296:=om
 rw[e1,e2]
 unfold plF
 generalize (x % 4294967296).toNat=r at *
 have hb:=pl_bound hr hn
 have hb':r*(n*4294967296)<39614081257132168796771975168:=by
  rw[← Nat.mul_assoc]; omega
 refine (mul_spec (a:=r) (b:=n*4294967296) om om hb').mono ?_
 rintro v _ ⟨rfl,rfl⟩
 rw[pl_mul]
 simp only[sA,sB,seval]
 refine (floor_spec _).mono ?_
 rintro v _ ⟨rfl,rfl⟩
 simp only[sA,sB,seval]
 exact⟨by trivial,by trivial⟩
set_option maxRecDepth 100000 in
theorem len_spec{H:AHeap}:ACalls Tryz.prog natT 96 [.int .u64 1095216660480] H fun v H'=>v=.int .i64 40∧H=H':=by
 refine acalls_ofN rfl za96 rfl ?_
 have s1:aBin .shr (.int .u64 1095216660480) (.int .u64 32)=some (.int .u64 255):=shr32 1095216660480
 have s2:IntKind.u8.wrap 255=255:=wrapU8 dD dD
 have s3:aIdxS (.str [0,1,2,2,3,3,3,3,4,4,4,4,4,4,4,4,5,5,5,5,5,5,5,5,5,5,5,5,5,5,5,5,6,6,6,6,6,6,6,6,6,6,6,6,6,6,6,6,6,6,6,6,6,6,6,6,6,6,6,6,6,6,6,6,7,7,7,7,7,7,7,7,7,7,7,7,7,7,7,7,7,7,7,7,7,7,7,7,7,7,7,7,7,7,7,7,7,7,7,7,7,7,7,7,7,7,7,7,7,7,7,7,7,7,7,7,7,7,7,7,7,7,7,7,7,7,7,7,8,8,8,8,8,8,8,8,8,8,8,8,8,8,8,8,8,8,8,8,8,8,8,8,8,8,8,8,8,8,8,8,8,8,8,8,8,8,8,8,8,8,8,8,8,8,8,8,8,8,8,8,8,8,8,8,8,8,8,8,8,8,8,8,8,8,8,8,8,8,8,8,8,8,8,8,8,8,8,8,8,8,8,8,8,8,8,8,8,8,8,8,8,8,8,8,8,8,8,8,8,8,8,8,8,8,8,8,8,8,8,8,8,8,8,8,8,8,8,8,8,8,8,8,8,8,8,8]) (.int .u8 255)=some (.int .u8 8):=by kernel_rfl
 have s4:IntKind.i64.wrap 8=8:=wrap64 dD dD
 have s5:IntKind.i64.wrap (32+8)=40:=wrap64 dD dD
 simp only[c96,sA,sB,seval,s1,s2,s3,s4,s5]
 exact⟨by trivial,by trivial⟩
theorem lead_spec{H:AHeap}:ACalls Tryz.prog natT 74 [.int .u64 1095216660480] H fun v H'=>v=.int .i64 24∧H=H':=by
 refine acalls_ofN rfl za74 rfl ?_
 simp only[c74,sA,sB,seval]
 refine (len_spec).mono ?_
 rintro v _ ⟨rfl,rfl⟩
 have s5:IntKind.i64.wrap (64-40)=24:=wrap64 dD dD
 simp only[sA,sB,seval,s5]
 exact⟨by trivial,by trivial⟩
theorem l23{i q r:Nat}(h:i=255*q+r):i*72057594037927936-q*18374686479671623680=r*72057594037927936:=by
 subst h
 rw[show 18374686479671623680=255*72057594037927936 from rfl,← Nat.mul_assoc,Nat.add_mul,Nat.mul_comm 255 q,Nat.add_sub_cancel_left]
theorem l23'{i q r:Nat}(h:i=255*q+r):q*18374686479671623680≤i*72057594037927936:=by
 subst h
 rw[show 18374686479671623680=255*72057594037927936 from rfl,← Nat.mul_assoc,Nat.add_mul,Nat.mul_comm 255 q]
 exact Nat.le_add_right _ _
theorem l14{i q r:Nat}(h:i=255*q+r):i*16777216-q*4278190080=r*16777216:=om
theorem l24(r:Nat):r*72057594037927936 / 4278190080=r*4294967296 / 255:=by
 rw[show 72057594037927936=4294967296*16777216 from rfl,show 4278190080=255*16777216 from rfl,← Nat.mul_assoc]
 exact Nat.mul_div_mul_right _ _ dD
theorem l33{i q r:Nat}(h:i=255*q+r):q*4294967296+r*4294967296 / 255=i*4294967296 / 255:=om
theorem lc{a:Nat}(h:a≤255):a*72057594037927936<18446744073709551616:=Nat.lt_of_le_of_lt (Nat.mul_le_mul_right _ h) dD
set_option maxHeartbeats 1000000 in
theorem div64_spec{i:Nat}(hi:i<256){H:AHeap}:ACalls Tryz.prog natT 59 [.int .u64 (i:Int),.int .u64 0,.int .u64 1095216660480] H fun v H'=>(∃z,v=.tuple [.int .u64 ((i*4294967296 / 255:Nat):Int),.int .u64 z])∧H=H':=by
 refine acalls_ofN rfl za59 rfl ?_
 have q0:¬(1095216660480:Int)≤(i:Int):=om
 by_cases h0:i=0
 ·subst h0
  have s1:aBin .quo (.int .u64 0) (.int .u64 1095216660480)=some (.int .u64 0):=quoU64 (a:=0) 1095216660480 dD dD
  have s2:aBin .rem (.int .u64 0) (.int .u64 1095216660480)=some (.int .u64 0):=remU64 (a:=0) 1095216660480 dD
  have e0:((0:Nat):Int)=0:=rfl
  simp only[c59,sA,sB,seval,e0,s1,s2]
  exact⟨⟨0,rfl⟩,by trivial⟩
 ·have h0':¬(i:Int)=0:=om
  simp only[c59,sA,sB,seval,q0,h0']
  refine (lead_spec).mono ?_
  rintro v _ ⟨rfl,rfl⟩
  have s1:IntKind.u64.wrap 24=24:=uw (a:=24) dD
  have s2:aBin .shl (.int .u64 1095216660480) (.int .u64 24)=some (.int .u64 18374686479671623680):=by
   have:=bin_shl .u64 .u64 1095216660480 24
   rw[show min 24 IntKind.u64.bits=24 from rfl]at this
   exact this
  have s3:aBin .shr (.int .u64 18374686479671623680) (.int .u64 32)=some (.int .u64 4278190080):=shr32 18374686479671623680
  have s4:aBin .and (.int .u64 18374686479671623680) (.int .u64 4294967295)=some (.int .u64 0):=and32 (x:=18374686479671623680) dD
  have s5:aBin .shl (.int .u64 (i:Int)) (.int .u64 24)=some (.int .u64 ((i*16777216:Nat):Int)):=by
   have:=bin_shl .u64 .u64 (i:Int) 24
   rw[show min 24 IntKind.u64.bits=24 from rfl]at this
   have w:IntKind.u64.wrap ((i:Int)*2 ^ 24)=((i*16777216:Nat):Int):=by rw[IntKind.wrap_u64]; omega
   rw[w]at this
   exact this
  have s6:IntKind.u64.wrap 40=40:=uw (a:=40) dD
  have s7:aBin .shr (.int .u64 0) (.int .u64 40)=some (.int .u64 0):=shrN .u64 .u64 0 (b:=40) dD
  have s8:aBin .or (.int .u64 ((i*16777216:Nat):Int)) (.int .u64 0)=some (.int .u64 ((i*16777216:Nat):Int)):=by
   have:=orU64 (a:=i*16777216) (b:=0) om dD
   rw[Nat.or_zero]at this
   exact this
  have s9:aBin .shl (.int .u64 0) (.int .u64 24)=some (.int .u64 0):=by
   have:=bin_shl .u64 .u64 0 24
   rw[show min 24 IntKind.u64.bits=24 from rfl]at this
   exact this
  have s10:aBin .shr (.int .u64 0) (.int .u64 32)=some (.int .u64 0):=shr32 0
  have s11:aBin .and (.int .u64 0) (.int .u64 4294967295)=some (.int .u64 0):=and32 (x:=0) dD
  obtain⟨q,r,hqr,hr⟩:∃q r,i=255*q+r∧r<255:=⟨i / 255,i % 255,om,om⟩
  have hq1:q≤1:=om
  have s12:aBin .quo (.int .u64 ((i*16777216:Nat):Int)) (.int .u64 4278190080)=some (.int .u64 (q:Int)):=by
   have:=quoU64 (a:=i*16777216) 4278190080 dD om
   rw[show i*16777216 / 4278190080=q by omega]at this
   exact this
  have s13:IntKind.u64.wrap ((q:Int)*4278190080)=((q*4278190080:Nat):Int):=wmul (a:=q) (b:=4278190080) om
  have s14:IntKind.u64.wrap (((i*16777216:Nat):Int)-((q*4278190080:Nat):Int))=((r*16777216:Nat):Int):=by
   rw[wsub om om,l14 hqr]
  have s15:¬(4294967296:Int)≤(q:Int):=om
  have s16:IntKind.u64.wrap ((q:Int)*0)=0:=by rw[Int.mul_zero]; exact uw (a:=0) dD
  have s17:IntKind.u64.wrap (4294967296*((r*16777216:Nat):Int))=((r*72057594037927936:Nat):Int):=by
   have:=wmul (a:=r*16777216) (b:=4294967296) (by rw[Nat.mul_assoc]; exact lc om)
   rw[Nat.mul_assoc]at this
   rw[Int.mul_comm]
   exact this
  have s18:IntKind.u64.wrap (((r*72057594037927936:Nat):Int)+0)=((r*72057594037927936:Nat):Int):=by rw[Int.add_zero]; exact uw (lc om)
  have s19:¬((r*72057594037927936:Nat):Int)<0:=Int.not_lt.2 (Int.natCast_nonneg _)
  simp only[sA,sB,seval,s1,s2,s3,s4,s5,s6,s7,s8,s9,s10,s11,s12,s13,s14]
  refine aw_loop1 (calls_mono _ _) ?_
  simp only[sA,sB,seval,s15,s16,s17,s18,s19]
  have s20:IntKind.u64.wrap (((i*16777216:Nat):Int)*4294967296)=((i*72057594037927936:Nat):Int):=by
   have:=wmul (a:=i*16777216) (b:=4294967296) (by rw[Nat.mul_assoc]; exact lc om)
   rw[Nat.mul_assoc]at this
   exact this
  have s21:IntKind.u64.wrap (((i*72057594037927936:Nat):Int)+0)=((i*72057594037927936:Nat):Int):=by rw[Int.add_zero]; exact uw (lc om)
  have s22:IntKind.u64.wrap ((q:Int)*18374686479671623680)=((q*18374686479671623680:Nat):Int):=wmul (a:=q) (b:=18374686479671623680) (Nat.lt_of_le_of_lt (Nat.mul_le_mul_right _ hq1) dD)
  have s23:IntKind.u64.wrap (((i*72057594037927936:Nat):Int)-((q*18374686479671623680:Nat):Int))=((r*72057594037927936:Nat):Int):=by
   rw[wsub (l23' hqr) (lc om),l23 hqr]
  obtain⟨p,hp⟩:∃p,p=r*4294967296 / 255:=⟨_,rfl⟩
  have hp2:p<4294967296:=om
  have s24:aBin .quo (.int .u64 ((r*72057594037927936:Nat):Int)) (.int .u64 4278190080)=some (.int .u64 (p:Int)):=by
   have:=quoU64 (a:=r*72057594037927936) 4278190080 dD (lc om)
   rw[l24,← hp]at this
   exact this
  have s25:IntKind.u64.wrap ((p:Int)*4278190080)=((p*4278190080:Nat):Int):=wmul (a:=p) (b:=4278190080) (Nat.lt_of_le_of_lt (Nat.mul_le_mul_right _ (Nat.le_of_lt hp2)) dD)
  obtain⟨t,ht⟩:∃t,t=r*72057594037927936-p*4278190080:=⟨_,rfl⟩
  have hpl:p*4278190080≤r*72057594037927936:=by rw[hp,← l24]; exact Nat.div_mul_le_self _ _
  have htl:t<4278190080:=by
   have h1:r*72057594037927936 % 4278190080<4278190080:=Nat.mod_lt _ dD
   rw[Nat.mod_eq_sub_mul_div,l24,← hp,Nat.mul_comm 4278190080 p,← ht]at h1
   exact h1
  have s26:IntKind.u64.wrap (((r*72057594037927936:Nat):Int)-((p*4278190080:Nat):Int))=(t:Int):=by
   rw[ht]; exact wsub hpl (lc om)
  simp only[sA,sB,seval,s20,s21,s22,s23,s24,s25,s26]
  refine aw_loop1 (calls_mono _ _) ?_
  have s27:¬(4294967296:Int)≤(p:Int):=om
  have s28:IntKind.u64.wrap ((p:Int)*0)=0:=by rw[Int.mul_zero]; exact uw (a:=0) dD
  have s29:IntKind.u64.wrap (4294967296*(t:Int))=((t*4294967296:Nat):Int):=by
   rw[Int.mul_comm]; exact wmul (a:=t) (b:=4294967296) (Nat.lt_of_le_of_lt (Nat.mul_le_mul_right _ (Nat.le_of_lt htl)) dD)
  have s30:IntKind.u64.wrap (((t*4294967296:Nat):Int)+0)=((t*4294967296:Nat):Int):=by rw[Int.add_zero]; exact uw (Nat.lt_of_le_of_lt (Nat.mul_le_mul_right _ (Nat.le_of_lt htl)) dD)
  have s31:¬((t*4294967296:Nat):Int)<0:=Int.not_lt.2 (Int.natCast_nonneg _)
  simp only[sA,sB,seval,s27,s28,s29,s30,s31]
  have s32:IntKind.u64.wrap ((q:Int)*4294967296)=((q*4294967296:Nat):Int):=wmul (a:=q) (b:=4294967296) (Nat.lt_of_le_of_lt (Nat.mul_le_mul_right _ hq1) dD)
  have s33:IntKind.u64.wrap (((q*4294967296:Nat):Int)+(p:Int))=((i*4294967296 / 255:Nat):Int):=by
   rw[wadd (Nat.lt_of_le_of_lt (Nat.add_le_add (Nat.mul_le_mul_right _ hq1) (Nat.le_of_lt hp2)) dD),hp,l33 hqr]
  have s34:∀z:Int,∃u:Int,aBin .shr (.int .u64 z) (.int .u64 24)=some (.int .u64 u):=fun z=>⟨_,bin_shr .u64 .u64 z 24⟩
  obtain⟨u,hu⟩:=s34 (IntKind.u64.wrap (IntKind.u64.wrap (IntKind.u64.wrap (((r*72057594037927936:Nat):Int)*4294967296)+0)-IntKind.u64.wrap ((p:Int)*18374686479671623680)))
  simp only[sA,sB,seval,s32,s33,hu]
  exact⟨⟨u,rfl⟩,by trivial⟩
def partF(i:Nat):Nat:=i*4294967296 / 255
theorem div_spec{i:Nat}(hi:i<256){H:AHeap} :
  ACalls Tryz.prog natT 32 [.int .i64 ((i*4294967296:Nat):Int),.int .i64 1095216660480] H fun v H'=>v=.int .i64 (partF i:Int)∧H=H':=by
 refine acalls_ofN rfl za32 rfl ?_
 simp only[c32,sA,sB,seval]
 refine (signs_spec (a:=i*4294967296) (b:=1095216660480)).mono ?_
 rintro v _ ⟨rfl,rfl⟩
 simp only[sA,sB,seval]
 refine (size_spec (a:=i*4294967296) om).mono ?_
 rintro v _ ⟨rfl,rfl⟩
 simp only[sA,sB,seval]
 refine (size_spec (a:=1095216660480) dD).mono ?_
 rintro v _ ⟨rfl,rfl⟩
 have e0:((1095216660480:Nat):Int)=1095216660480:=rfl
 have s1:aBin .shr (.int .u64 ((i*4294967296:Nat):Int)) (.int .u64 32)=some (.int .u64 (i:Int)):=by
  have:=shr32 (i*4294967296)
  rw[show i*4294967296 / 4294967296=i by omega]at this
  exact this
 have s2:aBin .rem (.int .u64 (i:Int)) (.int .u64 1095216660480)=some (.int .u64 (i:Int)):=by
  have:=remU64 (a:=i) 1095216660480 dD
  rw[show i % 1095216660480=i by omega]at this
  exact this
 have s3:aBin .shl (.int .u64 ((i*4294967296:Nat):Int)) (.int .u64 32)=some (.int .u64 0):=by
  have:=shl32w (i*4294967296)
  rw[show i*4294967296*4294967296 % 18446744073709551616=0 by omega]at this
  exact this
 simp only[sA,sB,seval,e0,s1,s2,s3]
 refine (div64_spec hi).mono ?_
 rintro v _ ⟨⟨z,rfl⟩,rfl⟩
 have s4:aBin .quo (.int .u64 (i:Int)) (.int .u64 1095216660480)=some (.int .u64 0):=by
  have:=quoU64 (a:=i) 1095216660480 dD om
  rw[show i / 1095216660480=0 by omega]at this
  exact this
 simp only[sA,sB,seval,ext_0,ext_1,s4]
 refine (brought_spec (lo:=i*4294967296 / 255) om _).mono ?_
 rintro v _ ⟨rfl,rfl⟩
 simp only[sA,sB,seval]
 exact⟨by trivial,by trivial⟩
def rightB(w h:Int)(n:Nat):Bool:=(((decide (1≤w)&&decide (w≤1024))&&decide (1≤h))&&decide (h≤1024))&&decide ((n:Int)=4*w*h)
abbrev texV(w h:Int)(s:AVal):AVal:=.agg [.int .i64 w,.int .i64 h,s]
theorem mul_1024{a b:Int}(h1:1≤a)(h2:a≤1024)(h3:1≤b)(h4:b≤1024):0≤a*b∧a*b≤1048576:=by
 refine⟨Int.mul_nonneg om om,?_⟩
 have:a*b≤1024*1024:=Int.mul_le_mul h2 h4 om dD
 omega
section
variable {H:AHeap} {w h:Int} {s:AVal} {n:Nat}
theorem right_spec(w h:Int)(hs:aLenK false s=some (.int .i64 (n:Int))):ACalls Tryz.prog natT 29 [texV w h s] H fun v H'=>v=.bool (rightB w h n)∧Ext H.next H H':=by
 refine acalls_ofN rfl za29 rfl ?_
 obtain⟨H1,m1,r1,k1,o1⟩:=row_newL H [.int .i64 w,.int .i64 h,s] (n:=3) rfl
 have E1:Ext H.next H H1:=Ext.of_new k1 o1 rL
 have l0:=row_load r1 (n:=3) rfl (i:=0) rfl
 have l1:=row_load r1 (n:=3) rfl (i:=1) rfl
 have l2:=row_load r1 (n:=3) rfl (i:=2) rfl
 unfold rightB
 by_cases c1:1≤w
 ·by_cases c2:w≤1024
  ·by_cases c3:1≤h
   ·by_cases c4:h≤1024
    ·have hm:=mul_1024 c1 c2 c3 c4
     have e0:4*w*h=4*(w*h):=Int.mul_assoc _ _ _
     have e1:IntKind.i64.wrap (4*w)=4*w:=wrap64 om om
     have e2:IntKind.i64.wrap (4*w*h)=4*w*h:=by rw[e0]; exact wrap64 om om
     simp only[c29,sA,sB,seval,cells_agg,m1,fld0,l0,l1,l2,c1,c2,c3,c4,hs,e1,e2]
     exact⟨by simp,E1⟩
    ·simp only[c29,sA,sB,seval,cells_agg,m1,fld0,l0,l1,l2,c1,c2,c3,c4]
     exact⟨by simp,E1⟩
   ·simp only[c29,sA,sB,seval,cells_agg,m1,fld0,l0,l1,l2,c1,c2,c3]
    exact⟨by simp,E1⟩
  ·simp only[c29,sA,sB,seval,cells_agg,m1,fld0,l0,l1,l2,c1,c2]
   exact⟨by simp,E1⟩
 ·simp only[c29,sA,sB,seval,cells_agg,m1,fld0,l0,l1,l2,c1]
  exact⟨by simp,E1⟩
end
theorem part_spec{H:AHeap}{bt ba m at_ i:Nat}{w h:Int}{s:AVal}{pix:List UInt8}{b:UInt8}(rt:Row H bt [.int .i64 w,.int .i64 h,s])(ra:Row H ba [.int .i64 (at_:Int)])(hs:Cel m H s (byts pix))(hb:pix[at_+i]?=some b)(hle:at_+i≤9223372036854775807) :
  ACalls Tryz.prog natT 31 [.int .i64 (i:Int),cellR bt 3 0,cellR ba 1 0] H fun v H'=>v=.int .i64 (partF b.toNat:Int)∧H=H':=by
 refine acalls_ofN rfl za31 rfl ?_
 have l2:=row_load rt (n:=3) rfl (i:=2) rfl
 have la:=row_load ra (n:=1) rfl (i:=0) rfl
 have hlt:at_+i<(byts pix).length:=by rw[byts_len]; exact (List.getElem?_eq_some_iff.1 hb).1
 have hi:=hs.idx .i64 (i:=at_+i) hlt
 have hl:=hs.load (byts_get hb)
 have hb256:b.toNat<256:=b.toNat_lt
 have e1:IntKind.i64.wrap (b.toNat:Int)=(b.toNat:Int):=wrap64 om om
 simp only[c31,sA,sB,seval,fld0,l2,la,wrapN at_ i hle,hi,hl,e1]
 refine (of_spec (x:=(b.toNat:Int)) om om).mono ?_
 rintro v _ ⟨rfl,rfl⟩
 simp only[sA,sB,seval]
 refine (of_spec (x:=255) om om).mono ?_
 rintro v _ ⟨rfl,rfl⟩
 have e2:(255:Int)*4294967296=1095216660480:=by decide
 have e3:(b.toNat:Int)*4294967296=((b.toNat*4294967296:Nat):Int):=om
 simp only[sA,sB,seval]
 rw[e3]
 refine (div_spec hb256).mono ?_
 rintro v _ ⟨rfl,rfl⟩
 simp only[sA,sB,seval]
 exact⟨by trivial,by trivial⟩
def atF(W Hh:Nat)(u v:Int):Nat:=4*(plF v Hh*W+plF u W)
theorem at_lt{W Hh:Nat}{u v:Int}(hW:0<W)(hH:0<Hh):atF W Hh u v+3<4*W*Hh:=by
 have h1:=plF_lt v hH
 have h2:=plF_lt u hW
 have h3:(plF v Hh+1)*W≤Hh*W:=Nat.mul_le_mul_right _ h1
 rw[Nat.add_mul,Nat.one_mul]at h3
 have h4:4*W*Hh=4*(Hh*W):=by rw[Nat.mul_assoc,Nat.mul_comm W]
 unfold atF
 rw[h4]
 omega
def colF(w h:Int)(pix:List UInt8)(u v:Int):List Nat:=
 if rightB w h pix.length=true then [partF (pix.getD (atF w.toNat h.toNat u v) 0).toNat,partF (pix.getD (atF w.toNat h.toNat u v+1) 0).toNat,partF (pix.getD (atF w.toNat h.toNat u v+2) 0).toNat] else [0,0,0]
def nats(l:List Nat):List AVal:=l.map fun n:Nat=>.int .i64 (n:Int)
theorem right_nat{w h:Int}{n:Nat}(hr:rightB w h n=true):∃W Hh:Nat,w=W∧h=Hh∧0<W∧W≤1024∧0<Hh∧Hh≤1024∧n=4*W*Hh:=by
 simp only[rightB,Bool.and_eq_true,decide_eq_true_eq]at hr
 obtain⟨⟨⟨⟨h1,h2⟩,h3⟩,h4⟩,h5⟩:=hr
 obtain⟨W,rfl⟩:∃W:Nat,w=W:=⟨w.toNat,om⟩
 obtain⟨Hh,rfl⟩:∃W:Nat,h=W:=⟨h.toNat,om⟩
 refine⟨W,Hh,rfl,rfl,om,om,om,om,?_⟩
 have:(n:Int)=((4*W*Hh:Nat):Int):=by simpa using h5
 omega
theorem aeq_ptr(a:Ad):aeq (.ptr (some a)) (.ptr (some a))=true:=by simp[aeq]
theorem claim_push(H:AHeap)(z:AVal)(hz:aeq z z=true):aClaim (H.push (.cells [z] 0 false)) H.next [z] none=some (cellR H.next 1 0):=by
 have:(H.push (.cells [z] 0 false)).get H.next=some (.cells [z] 0 false):=by rw[AHeap.get_push,if_pos rfl]
 simp only[aClaim,this,aeqs,hz,Bool.and_self,cond_true,clV,cellR,List.length_cons,List.length_nil]
theorem aw_draw{C:CS}{Q:Post}{T:Env}{H:AHeap}(l:List AOper)(chk:List (List Nat)):wp C (.draw l chk) Q T H=wTr C (claims H.next l) T (reserves H l) fun ss T' H'=>wCk (reserves H l::ss.map (·.2)) (claims H.next l) chk ss T∧Q .normal T' H':=_root_.id rfl
set_option maxHeartbeats 1000000 in
theorem sample_spec{H:AHeap}{w h:Int}{s:AVal}{pix:List UInt8}(hs:Cel H.next H s (byts pix))(h1:s.one=true){u v:Int}(u1:-9223372036854775808≤u)(u2:u≤9223372036854775807)(v1:-9223372036854775808≤v)(v2:v≤9223372036854775807) :
  ACalls Tryz.prog natT 11 [texV w h s,.int .i64 u,.int .i64 v] H fun x H'=>x=.agg (nats (colF w h pix u v))∧Ext H.next H H':=by
 refine acalls_ofN rfl za11 rfl ?_
 obtain⟨H1,m1,r1,k1,o1⟩:=row_newL H [.int .i64 w,.int .i64 h,s] (n:=3) rfl
 have E1:Ext H.next H H1:=Ext.of_new k1 o1 rL
 obtain⟨H2,m2,r2,k2,o2⟩:=row_newL H1 [.int .i64 0,.int .i64 0,.int .i64 0] (n:=3) rfl
 have E2:Ext H1.next H1 H2:=Ext.of_new k2 o2 rL
 have R1:Row H2 H.next [.int .i64 w,.int .i64 h,s]:=r1.same (o2 _ om)
 have L1:=row_loadN R1 (n:=3) rfl
 have hlen:aLenK false s=some (.int .i64 (pix.length:Int)):=by have:=hs.len; rwa [byts_len]at this
 simp only[c11,sA,sB,seval,cells_agg,m1,m2,L1]
 refine (right_spec w h hlen).mono ?_
 rintro x H3 ⟨rfl,E3⟩
 have k3:=E3.next
 have R2:Row H3 H1.next [.int .i64 0,.int .i64 0,.int .i64 0]:=r2.same (E3.old _ om)
 cases hr:rightB w h pix.length with
 | false=>
  have b0:aBuild [.int .i64 0,.int .i64 0,.int .i64 0] []=some (.agg [.int .i64 0,.int .i64 0,.int .i64 0]):=rfl
  obtain⟨H4,m4,r4,k4,o4⟩:=row_storeN R2 (n:=3) rfl (xs:=[.int .i64 0,.int .i64 0,.int .i64 0]) rfl rfl
  simp only[sA,sB,seval,b0,m4]
  refine fin_c1 _ _ _ _ (row_loadN r4 (n:=3) rfl) ⟨by simp[colF,hr,nats],?_⟩
  exact⟨om,fun c hc=>by rw[o4 _ om,E3.old _ om,o2 _ om,o1 _ om]⟩
 | true=>
  obtain⟨W,Hh,rfl,rfl,w1,w2,g1,g2,hn⟩:=right_nat hr
  have hat:=at_lt (u:=u) (v:=v) w1 g1
  rw[← hn]at hat
  have R1':Row H3 H.next [.int .i64 (W:Int),.int .i64 (Hh:Int),s]:=R1.same (E3.old _ om)
  simp only[sA,sB,seval]
  rw[aw_draw]
  simp only[claims,reserves,newOf]
  obtain⟨K,hK⟩:∃K,K=H3.push (.cells [.int .i64 0] 0 false):=⟨_,rfl⟩
  have kK:K.next=H3.next+1:=by rw[hK]; rfl
  have oK:∀c,c<H3.next→K.get c=H3.get c:=fun c hc=>by rw[hK]; exact get_push_lt hc
  have cl:=claim_push H3 (.int .i64 0) (aeq_int _ _)
  have rK:Row K H3.next [.int .i64 0]:=by rw[hK]; exact row_push _ _
  try simp only[Int.ofNat_eq_natCast,Int.cast_ofNat_Int]
  rw[← hK]at cl
  rw[← hK]
  have RK:Row K H.next [.int .i64 (W:Int),.int .i64 (Hh:Int),s]:=R1'.same (oK _ om)
  have l0:=row_load RK (n:=3) rfl (i:=0) rfl
  have l1:=row_load RK (n:=3) rfl (i:=1) rfl
  have p1:=plF_lt v g1
  have p2:=plF_lt u w1
  have mb:plF v Hh*W≤1024*1024:=Nat.mul_le_mul om w2
  have e1:IntKind.i64.wrap ((plF v Hh:Int)*(W:Int))=((plF v Hh*W:Nat):Int):=by
   rw[show (plF v Hh:Int)*(W:Int)=((plF v Hh*W:Nat):Int) by simp]
   exact wrap64 om om
  have e2:IntKind.i64.wrap (((plF v Hh*W:Nat):Int)+(plF u W:Int))=((plF v Hh*W+plF u W:Nat):Int):=wrapN _ _ om
  have e3:IntKind.i64.wrap (4*((plF v Hh*W+plF u W:Nat):Int))=((atF W Hh u v:Nat):Int):=by
   unfold atF
   rw[wrap64 om om]
   omega
  obtain⟨K2,m5,r5,k5,o5⟩:=row_store rK (n:=1) rfl (i:=0) om (x:=.int .i64 ((atF W Hh u v:Nat):Int)) rfl
  simp only[sA,sB,seval,sR,fld0,l0,l1]
  refine (place_spec v1 v2 g2).mono ?_
  rintro x _ ⟨rfl,rfl⟩
  simp only[sA,sB,seval,sR,fld0,l0,l1,e1]
  refine (place_spec u1 u2 w2).mono ?_
  rintro x _ ⟨rfl,rfl⟩
  simp only[sA,sB,seval,sR,e2,e3,tr_claim,cl,m5]
  refine⟨?_,?_⟩
  ·simp only[ck_nil',ck_cons,ckP_load,ckP_claim,ckP_nil,ck_end,and_true,true_and,List.map_cons,List.map_nil,sA,sB,seval,fld0]
   refine⟨⟨⟨_,rfl,fun _=>⟨_,l0,aeq_int _ _⟩⟩,⟨_,rfl,fun _=>⟨_,l0,aeq_int _ _⟩⟩⟩,⟨_,rfl,fun _=>⟨_,l0,aeq_int _ _⟩⟩,⟨_,rfl,fun _=>⟨_,cl,aeq_ptr _⟩⟩,⟨_,rfl,fun _=>⟨_,cl,aeq_ptr _⟩⟩⟩
  ·simp only[List.set_cons_zero]at r5
   have RT:Row K2 H.next [.int .i64 (W:Int),.int .i64 (Hh:Int),s]:=RK.same (o5 _ om)
   have E13:Ext H.next H K2:=⟨om,fun c hc=>by rw[o5 _ om,oK _ om,E3.old _ om,o2 _ om,o1 _ om]⟩
   have hs2:Cel H.next K2 s (byts pix):=hs.ext E13
   have R3:Row K2 H1.next [.int .i64 0,.int .i64 0,.int .i64 0]:=R2.same (by rw[o5 _ om,oK _ om])
   have hb:∀i,i<3→pix[atF W Hh u v+i]?=some (pix.getD (atF W Hh u v+i) 0):=fun i hi=>by
    rw[List.getD_eq_getElem?_getD,List.getElem?_eq_getElem om]; rfl
   have hwid:pix.length≤4194304:=by
    have:W*Hh≤1024*1024:=Nat.mul_le_mul w2 g2
    rw[hn,Nat.mul_assoc]; omega
   try simp only[sA,sB,seval]
   refine (part_spec (i:=0) RT r5 hs2 (hb 0 dD) om).mono ?_
   rintro x _ ⟨rfl,rfl⟩
   simp only[sA,sB,seval]
   refine (part_spec (i:=1) RT r5 hs2 (hb 1 dD) om).mono ?_
   rintro x _ ⟨rfl,rfl⟩
   simp only[sA,sB,seval]
   refine (part_spec (i:=2) RT r5 hs2 (hb 2 dD) om).mono ?_
   rintro x _ ⟨rfl,rfl⟩
   have b3:∀a b c:Int,aBuild [.int .i64 0,.int .i64 0,.int .i64 0] [(0,1,.int .i64 a),(1,1,.int .i64 b),(2,1,.int .i64 c)]=some (.agg [.int .i64 a,.int .i64 b,.int .i64 c]):=fun _ _ _=>rfl
   obtain⟨H4,m6,r6,k6,o6⟩:=row_storeN R3 (n:=3) rfl (xs:=nats [partF (pix.getD (atF W Hh u v+0) 0).toNat,partF (pix.getD (atF W Hh u v+1) 0).toNat,partF (pix.getD (atF W Hh u v+2) 0).toNat]) rfl rfl
   try simp only[nats,List.map_cons,List.map_nil]at m6
   simp only[sA,sB,seval,b3,m6]
   have hld:=row_loadN r6 (n:=3) rfl
   refine fin_c1 _ _ _ _ hld ?_
   refine⟨?_,?_⟩
   ·simp only[colF,hr,if_true,Int.toNat_natCast,Nat.add_zero]
   ·exact⟨om,fun c hc=>by rw[o6 _ om]; exact E13.old c hc⟩
end Go.Proofs.Tx
namespace Go.Proofs.Tb
open Go.Abs Go.Abs.S
structure WR(ms:List Nat)(ps:List Bs)(i:Nat)(rows:List Nat)(at_:Nat)(b:Bs):Prop where
 ex:∃(done:List Bs) (cur:Bs) (j:Nat),rows=ms.drop j∧done.map List.length=(ms.take j).map (·*4)∧cur.length=4*at_∧b=rawF done++(if at_=0 then [] else 0::cur)∧done.flatten++cur=(ps.take i).flatten∧i=(ms.take j).sum+at_∧j≤ms.length
 lt:(∃m0 rest,rows=m0::rest∧at_<m0)∨(rows=[]∧at_=0)
theorem WR.zero{ms:List Nat}(h:∀m∈ms,1≤m)(ps:List Bs):WR ms ps 0 ms 0 []:=by
 refine⟨⟨[],[],0,rfl,rfl,rfl,by simp[rawF],rfl,by simp,Nat.zero_le _⟩,?_⟩
 cases ms with
 | nil=>exact .inr ⟨rfl,rfl⟩
 | cons m r=>exact .inl ⟨m,r,rfl,h m (by simp)⟩
theorem WR.step{ms:List Nat}(h:∀m∈ms,1≤m){ps:List Bs}{i:Nat}{m0:Nat}{rest:List Nat}{at_:Nat}{b:Bs}(W:WR ms ps i (m0::rest) at_ b){p:Bs}(hp:ps[i]?=some p)(hp4:p.length=4):WR ms ps (i+1) (rowsS m0 rest at_) (atS m0 at_) (b++(leadB at_++p)):=by
 obtain⟨⟨done,cur,j,h1,h2,h3,h4,h5,h6,h7⟩,hlt⟩:=W
 have hat:at_<m0:=by
  rcases hlt with⟨a,r,e,q⟩ | ⟨e,_⟩
  ·simp only[List.cons.injEq]at e
   omega
  ·simp at e
 have hj:j<ms.length:=by
  rcases Nat.lt_or_ge j ms.length with q | q
  ·exact q
  ·rw[List.drop_of_length_le q]at h1; simp at h1
 have hd:=List.drop_eq_getElem_cons hj
 rw[hd]at h1
 simp only[List.cons.injEq]at h1
 obtain⟨e1,e2⟩:=h1
 have et:ms.take (j+1)=ms.take j++[m0]:=by rw[List.take_add_one,List.getElem?_eq_getElem hj,e1]; rfl
 have e5:(ps.take (i+1)).flatten=(ps.take i).flatten++p:=by rw[List.take_add_one,hp]; simp
 have eb:b++(leadB at_++p)=rawF done++0::(cur++p):=by
  rw[h4]
  unfold leadB
  by_cases h0:at_=0
  ·subst h0
   obtain rfl:cur=[]:=List.length_eq_zero_iff.1 om
   simp
  ·rw[if_neg h0,if_neg h0]; simp
 rw[eb]
 by_cases hr:at_+1=m0
 ·unfold rowsS atS
  rw[if_pos hr,if_pos hr]
  refine⟨⟨done++[cur++p],[],j+1,by rw[e2],?_,rfl,?_,?_,?_,om⟩,?_⟩
  ·rw[et,List.map_append,List.map_append,h2]
   congr 1
   simp only[List.map_cons,List.map_nil,lA,hp4,h3]
   congr 1; omega
  ·rw[rawF_append]; simp[rawF]
  ·rw[e5,← h5]; simp
  ·rw[et,List.sum_append,h6]; simp only[List.sum_cons,List.sum_nil]; omega
  ·cases rest with
   | nil=>exact .inr ⟨rfl,rfl⟩
   | cons m r=>
    refine .inl ⟨m,r,rfl,h m ?_⟩
    have:m∈ms.drop (j+1):=by rw[← e2]; simp
    exact List.mem_of_mem_drop this
 ·unfold rowsS atS
  rw[if_neg hr,if_neg hr]
  refine⟨⟨done,cur++p,j,by rw[hd,e1,e2],h2,by rw[lA,h3,hp4]; omega,by rw[if_neg om],by rw[e5,← h5,List.append_assoc],om,h7⟩,.inl ⟨m0,rest,rfl,om⟩⟩
theorem WR.some{ms:List Nat}{ps:List Bs}{i:Nat}{rows:List Nat}{at_:Nat}{b:Bs}(W:WR ms ps i rows at_ b)(hi:i<ms.sum):∃m0 rest,rows=m0::rest∧at_<m0∧m0∈ms:=by
 obtain⟨⟨done,cur,j,h1,h2,h3,h4,h5,h6,h7⟩,hlt⟩:=W
 rcases hlt with⟨m0,rest,e,q⟩ | ⟨e,q⟩
 ·refine⟨m0,rest,e,q,?_⟩
  have:m0∈ms.drop j:=by rw[← h1,e]; simp
  exact List.mem_of_mem_drop this
 ·rw[e]at h1
  have:ms.length≤j:=by
   have:=congrArg List.length h1
   simp only[List.length_nil,List.length_drop]at this; omega
  rw[List.take_of_length_le this]at h6
  omega
theorem WR.over{ms:List Nat}{ps:List Bs}{rows:List Nat}{at_:Nat}{b:Bs}(W:WR ms ps ms.sum rows at_ b)(hl:ps.length=ms.sum):∃rs:List Bs,b=rawF rs∧rs.map List.length=ms.map (·*4)∧rs.flatten=ps.flatten:=by
 obtain⟨⟨done,cur,j,h1,h2,h3,h4,h5,h6,h7⟩,hlt⟩:=W
 have es:ms.sum=(ms.take j).sum+(ms.drop j).sum:=by
  conv=>lhs; rw[← List.take_append_drop j ms]
  exact List.sum_append
 rcases hlt with⟨m0,rest,e,q⟩ | ⟨e,q⟩
 ·rw[← h1,e,List.sum_cons]at es; omega
 ·rw[e]at h1
  have hj:ms.length≤j:=by
   have:=congrArg List.length h1
   simp only[List.length_nil,List.length_drop]at this; omega
  subst q
  obtain rfl:cur=[]:=List.length_eq_zero_iff.1 om
  rw[List.take_of_length_le hj]at h2
  rw[← hl,List.take_length,List.append_nil]at h5
  exact⟨done,by rw[h4]; simp,h2,h5⟩
theorem WR.blen{ms:List Nat}{ps:List Bs}{i:Nat}{rows:List Nat}{at_:Nat}{b:Bs}(W:WR ms ps i rows at_ b):b.length≤4*i+ms.length+1:=by
 obtain⟨⟨done,cur,j,h1,h2,h3,h4,h5,h6,h7⟩,hlt⟩:=W
 have hd:done.length=j:=by
  have:=congrArg List.length h2
  simp only[List.length_map,List.length_take]at this; omega
 have hs:∀l:List Nat,((l.map (·*4)).map (1+·)).sum=l.length+4*l.sum:=by
  intro l
  induction l with
  | nil=>rfl
  | cons x l ih=>simp only[List.map_cons,List.sum_cons,List.length_cons,ih]; omega
 rw[h4,lA,rawF_len,h2,hs,List.length_take]
 split <;> simp only[List.length_nil,List.length_cons] <;> omega
theorem many_sum{w h:Nat}(OK:OkP w h):(manyL w h).sum=w*h:=by
 rw[← OK.len]
 unfold manyL orderL
 induction rowsL w h with
 | nil=>rfl
 | cons r l ih=>simp only[List.map_cons,List.sum_cons,List.flatMap_cons,lA,ih,orderR_len]
def nearV(a n:Nat):Nat:=(2*a+1)*4294967296 / (2*n)
theorem nearV_bd{a n:Nat}(h:a<n):nearV a n*(2*n)≤(2*a+1)*4294967296∧(2*a+1)*4294967296<(nearV a n+1)*(2*n):=by
 unfold nearV
 constructor
 ·exact Nat.div_mul_le_self _ _
 ·have:=Nat.lt_mul_div_succ ((2*a+1)*4294967296) (show 0<2*n by omega)
  rw[Nat.mul_comm (2*n)]at this
  exact this
theorem nearV_lt{a n:Nat}(h:a<n):nearV a n<4294967296:=by
 unfold nearV
 rw[Nat.div_lt_iff_lt_mul om]
 rw[Nat.mul_comm 4294967296]
 exact Nat.mul_lt_mul_of_pos_right om dD
theorem pl_near{a n:Nat}(h:a<n)(hn:n≤20)(far:Int):Tx.plF ((nearV a n:Int)+far*4294967296) n=a:=by
 have hl:=nearV_lt h
 obtain⟨b1,b2⟩:=nearV_bd h
 have e:(((nearV a n:Int)+far*4294967296) % 4294967296).toNat=nearV a n:=om
 unfold Tx.plF
 rw[e]
 generalize nearV a n=q at *
 have e1:q*(2*n)=2*(q*n):=by rw[Nat.mul_left_comm]
 have e2:(q+1)*(2*n)=2*(q*n)+2*n:=by rw[Nat.add_mul,e1,Nat.one_mul]
 rw[e1]at b1
 rw[e2]at b2
 generalize q*n=z at *
 omega
theorem near_spec{H:AHeap}{a n:Nat}(h:a<n)(hn:n≤20):ACalls Tryz.prog natT 10 [.int .i64 (a:Int),.int .i64 (n:Int)] H fun v H'=>v=.int .i64 (nearV a n:Int)∧H=H':=by
 refine acalls_ofN rfl za10 rfl ?_
 have w1:IntKind.i64.wrap (2*(a:Int))=((2*a:Nat):Int):=w64
 have w2:IntKind.i64.wrap (((2*a:Nat):Int)+1)=((2*a+1:Nat):Int):=w64
 have w3:IntKind.i64.wrap (((2*a+1:Nat):Int)*4294967296)=(((2*a+1)*4294967296:Nat):Int):=w64
 have w4:IntKind.i64.wrap (2*(n:Int))=((2*n:Nat):Int):=w64
 have hl:=nearV_lt h
 have bq:=bin_quo .i64 (((2*a+1)*4294967296:Nat):Int) ((2*n:Nat):Int) om
 rw[show ((((2*a+1)*4294967296:Nat):Int)).tdiv ((2*n:Nat):Int)=((nearV a n:Nat):Int) from rfl,wrap64 om om]at bq
 simp only[c10,sA,sB,seval,w1,w2,w3,w4,bq]
 exact⟨tt,tt⟩
theorem tsame_spec{n m:Nat}{H:AHeap}{a b:AVal}{w h:Int}{s:Bs}(ha:Cel n H a (byts s))(hb:Cel m H b (byts s))(hn:n≤H.next)(hm:m≤H.next):ACalls Tryz.prog natT 9 [.agg [.int .i64 w,.int .i64 h,a],.agg [.int .i64 w,.int .i64 h,b]] H fun v H'=>v=.bool true∧Ext H.next H H':=by
 refine acalls_ofN rfl za9 rfl ?_
 obtain⟨H1,m1,r1,k1,q1⟩:=row_newL H [.int .i64 w,.int .i64 h,a] (n:=3) rfl
 obtain⟨H2,m2,r2,k2,q2⟩:=row_newL H1 [.int .i64 w,.int .i64 h,b] (n:=3) rfl
 have E:Ext H.next H H2:=⟨om,fun c hc=>by rw[q2 c om,q1 c om]⟩
 have R1:=r1.same (q2 H.next om)
 have x0:oLoad false 1 H2 (cellR H.next 3 0)=some (.int .i64 w):=row_load R1 rfl rfl
 have x1:oLoad false 1 H2 (cellR H.next 3 1)=some (.int .i64 h):=row_load R1 rfl rfl
 have x2:oLoad false 1 H2 (cellR H.next 3 2)=some a:=row_load R1 rfl rfl
 have y0:oLoad false 1 H2 (cellR H1.next 3 0)=some (.int .i64 w):=row_load r2 rfl rfl
 have y1:oLoad false 1 H2 (cellR H1.next 3 1)=some (.int .i64 h):=row_load r2 rfl rfl
 have y2:oLoad false 1 H2 (cellR H1.next 3 2)=some b:=row_load r2 rfl rfl
 simp only[c9,sA,sB,seval,cells_agg,m1,m2,fldA,fld0,x0,x1,x2,y0,y1,y2]
 refine (same_spec (ha.ext (E.less hn)) (hb.ext (E.less hm))).mono ?_
 rintro _ _ ⟨rfl,rfl⟩
 simp only[sA,sB,seval]
 exact⟨tt,E⟩
def Pix4(m:Nat)(H:AHeap)(pv:AVal)(ps:List Bs):Prop:=aLenK false pv=some (.int .i64 (ps.length:Int))∧∀(i:Nat) (p:Bs),ps[i]?=some p→p.length=4∧∃b n o,aIdxA 4 pv (.int .i64 (i:Int))=some (cellR b n o)∧b<m∧∀H',H'.get b=H.get b→oLoad true 4 H' (cellR b n o)=some (.agg (byts p))
def pixV(ps:List Bs)(ord:List Nat)(i:Nat):Bs:=(ps[i]?).getD [UInt8.ofNat i,7,UInt8.ofNat (ord.getD i 0),255]
def FinB(w h:Nat)(D l:Bs):Prop:=∃ts rs d G q,l=headF w h++(idatsF ts++chunkF kIEND [])∧Told (rawF rs) d G q∧d.length≤100000∧ts.flatten=120::1::(d++four8 (adler 1 (rawF rs)))∧rs.map List.length=(manyL w h).map (·*4)∧rs.flatten=D
def midB(w h:Nat):Bs:=headF w h++chunkF kIDAT [120,1]
theorem endB8_eq(b:Bs):endB8 true b=(pack ([]++endX ([]:List Bool).length b 0)).map UInt8.ofNat++four8 (adler 1 b):=by
 unfold endB8
 rw[List.map_append]; rfl
theorem told_end{b:Bs}(hb:b.length≤4096):∃G q,Told b ((pack ([]++endX ([]:List Bool).length b 0)).map UInt8.ofNat) G q:=by
 have:=told_of (b:=b) (c1:=[]) (T1:=[]) (T2:=[]) (M1:=[]) (M2:=[]) (X1:=[]) (X2:=[]) (sent:=0) om (Nat.zero_le _) (.nil _ _) (by rw[List.take_zero]; exact .nil _ _) rfl rfl rfl rfl
 exact this
theorem fin_bytes{w h:Nat}{D l a:Bs}{rs:List Bs}{bg:Bool}(hrs:rs.map List.length=(manyL w h).map (·*4))(hD:rs.flatten=D)(hb:(rawF rs).length≤4096){ini:Bs}(hl:l=ini++idatF (hdB bg++endB8 true (rawF rs))++chunkF kIEND [])(ha:(bg=false∧ini=headF w h∧a=[])∨(bg=true∧ini=[]∧a=midB w h)):FinB w h D (a++l):=by
 obtain⟨G,q,hT⟩:=told_end hb
 have hpos:=hT.pos
 have hlen:=endX_len hb
 have ne:∀x:Bs,x++endB8 true (rawF rs)≠[]:=fun x h=>by
  have:=(List.append_eq_nil_iff.1 h).2
  rw[endB8_eq]at this
  have:=(List.append_eq_nil_iff.1 this).2
  have:=congrArg List.length this
  rw[four8_len]at this
  simp at this
 have hi:idatF (hdB bg++endB8 true (rawF rs))=chunkF kIDAT (hdB bg++endB8 true (rawF rs)):=by unfold idatF; rw[if_neg (ne _)]
 rw[hi]at hl
 subst hl
 rcases ha with⟨rfl,rfl,rfl⟩ | ⟨rfl,rfl,rfl⟩
 ·refine⟨[hdB false++endB8 true (rawF rs)],rs,_,G,q,?_,hT,by rw[List.length_map]; omega,?_,hrs,hD⟩
  ·simp[idatsF,List.append_assoc]
  ·rw[endB8_eq]; simp[hdB,hd]
 ·refine⟨[[120,1],hdB true++endB8 true (rawF rs)],rs,_,G,q,?_,hT,by rw[List.length_map]; omega,?_,hrs,hD⟩
  ·simp[idatsF,midB,List.append_assoc]
  ·rw[endB8_eq]; simp[hdB,hd]
theorem idat_hd:idatF (hdB false)=chunkF kIDAT [120,1]∧idatF (hdB true)=[]:=⟨rfl,rfl⟩
theorem pixV_len{m:Nat}{H:AHeap}{pv:AVal}{ps:List Bs}(h:Pix4 m H pv ps)(ord:List Nat)(i:Nat):(pixV ps ord i).length=4:=by
 unfold pixV
 cases hq:ps[i]? with
 | none=>rfl
 | some p=>exact (h.2 i p hq).1
theorem flat_len{l:List Bs}(h:∀p∈l,p.length=4):l.flatten.length=4*l.length:=by
 induction l with
 | nil=>rfl
 | cons x l ih=>simp only[List.flatten_cons,lA,List.length_cons,ih fun p hp=>h p (by simp[hp]),h x (by simp)]; omega
theorem flat_at{l:List Bs}(h:∀p∈l,p.length=4):∀{i:Nat} {p:Bs},l[i]?=some p→(l.flatten.drop (4*i)).take 4=p:=by
 induction l with
 | nil=>intro i p hp; simp at hp
 | cons x l ih=>
  intro i p hp
  have hx:=h x (by simp)
  cases i with
  | zero=>
   simp only[List.getElem?_cons_zero,sJ]at hp
   subst hp
   rw[List.flatten_cons,Nat.mul_zero,List.drop_zero,List.take_left' hx]
  | succ i=>
   rw[List.flatten_cons,show 4*(i+1)=x.length+4*i by omega,← List.drop_drop,List.drop_left]
   exact ih (fun p hp=>h p (by simp[hp])) (by simpa using hp)
theorem sl_from{b N lo:Nat}(h:lo<N):aSl 1 (slR b N (.known N)) (some (.int .i64 (lo:Int))) none none=some (.slice (some ⟨b,N,lo⟩) (N-lo) (.known (N-lo))):=by
 have c1:Nat.beq N lo=false:=by
  cases hq:Nat.beq N lo with
  | false=>rfl
  | true=>have:=Nat.eq_of_beq_eq_true hq; omega
 simp only[aSl,slR,bnd_l (Nat.le_of_lt h),Option.getD_none,c1,cond_false,Nat.zero_add,Nat.mul_one]
def colP(P:Bs)(k:Nat):List Nat:=[Tx.partF (P.getD k 0).toNat,Tx.partF (P.getD (k+1) 0).toNat,Tx.partF (P.getD (k+2) 0).toNat]
theorem col_at{w h x y:Nat}{P:Bs}{u v:Int}(hw:1≤w)(hw2:w≤20)(hh:1≤h)(hh2:h≤20)(hP:P.length=4*(w*h))(hx:Tx.plF u w=x)(hy:Tx.plF v h=y):Tx.colF (w:Int) (h:Int) P u v=colP P (4*(y*w+x)):=by
 have hr:Tx.rightB (w:Int) (h:Int) P.length=true:=by
  have e:((4*(w*h):Nat):Int)=4*(w:Int)*(h:Int):=by rw[Int.natCast_mul,Int.natCast_mul,← Int.mul_assoc]; rfl
  unfold Tx.rightB
  rw[hP,e]
  simp; omega
 unfold Tx.colF
 rw[if_pos hr]
 simp only[Tx.atF,Int.toNat_natCast,hx,hy,colP]
theorem plF0:Tx.plF 0 1=0:=by decide
theorem col_one{P:Bs}{k:Nat}(hP:P.length=4):∀{L:Bs},(L.drop k).take 4=P→Tx.colF (1:Int) (1:Int) P 0 0=colP L k:=by
 intro L hL
 have h:=col_at (w:=1) (h:=1) (x:=0) (y:=0) (P:=P) (u:=0) (v:=0) dD dD dD dD hP plF0 plF0
 have e:∀j,j<4→P.getD j 0=L.getD (k+j) 0:=fun j hj=>by
  rw[← hL,List.getD_eq_getElem?_getD,List.getD_eq_getElem?_getD,List.getElem?_take,if_pos hj,List.getElem?_drop]
 have h':Tx.colF (1:Int) (1:Int) P 0 0=colP P 0:=h
 rw[h']
 unfold colP
 rw[e 0 dD,e (0+1) dD,e (0+2) dD]
 rfl
theorem eq_vec(l:List Nat)(h:l.length=3):aPf (.eqS false [(0,.int),(1,.int),(2,.int)]) [.agg (Tx.nats l),.agg (Tx.nats l)]=some (.bool true)∧aPf (.eqS true [(0,.int),(1,.int),(2,.int)]) [.agg (Tx.nats l),.agg (Tx.nats l)]=some (.bool false):=by
 obtain⟨a,b,c,rfl⟩:∃a b c,l=[a,b,c]:=by
  match l,h with
  | [a,b,c],_=>exact⟨a,b,c,rfl⟩
 constructor <;> simp[aPf,Tx.nats,aEqSs,aEqFs,fEq,fEqI,eqF_eq]
theorem law_rest{T:Env}{H:AHeap}{w h bw:Nat}{u v:Int}{av:AVal}{a D:Bs}(hw:1≤w)(hw2:w≤20)(hh:1≤h)(hh2:h≤20)(hA:∀H,ACalls Tryz.prog natT 12 [] H fun x _=>x=.bool true)(t0:T 0=.int .i64 (w:Int))(t1:T 1=.int .i64 (h:Int))(t3:T 3=.int .i64 u)(t4:T 4=.int .i64 v)(t13:T 13=slR bw (4*(w*h)) (.known (4*(w*h))))(t14:T 14=av)(A:AppN 1 0 H av (byts a) a.length)(F:FinB w h D a)(hD:D.length=4*(w*h))(R:Row H bw (byts (placeK (orderL w h) D (4*(w*h)) (w*h))))(hbw:bw<H.next) :
  wp (ACalls Tryz.prog natT) (restP [1,1,1,1,1,1,1] c3.body) (fin [.t 10] fun x _=>x=.bool true) T H:=by
 have OK:=okP hw hw2 hh hh2
 have hwh:w*h≤20*20:=Nat.mul_le_mul hw2 hh2
 obtain⟨ts,rs,d,G,q,rfl,hT,hdl,hts,hrs,hrD⟩:=F
 have lenP:(placeK (orderL w h) D (4*(w*h)) (w*h)).length=4*(w*h):=placeK_len (fun n hn=>by have:=OK.lt n hn; omega) _ (by rw[OK.len]; omega) om
 have dsp:=decode_spec hw hw2 hh hh2 A hT hdl hts hrs (by rw[hrD,hD])
 rw[hrD]at dsp
 obtain⟨P,hP⟩:∃P,P=placeK (orderL w h) D (4*(w*h)) (w*h):=⟨_,rfl⟩
 rw[← hP]at lenP R dsp
 obtain⟨N,hN⟩:∃N,N=4*(w*h):=⟨_,rfl⟩
 rw[← hN]at t13 lenP dsp
 simp only[c3,restP,sA,sB,seval,t14]
 refine dsp.mono ?_
 rintro _ H1 ⟨b,rfl,R1,hb1,hb1',E1⟩
 have e1n:=E1.next
 obtain⟨H2,m2,r2,k2,q2⟩:=row_newL H1 [.int .i64 0,.int .i64 0,nilS] (n:=3) rfl
 obtain⟨H3,m3,r3,k3,q3⟩:=row_storeN r2 (n:=3) rfl (xs:=[.int .i64 (w:Int),.int .i64 (h:Int),slR b N (.known N)]) rfl rfl
 have e13:∀c,c<H1.next→H3.get c=H1.get c:=fun c hc=>by rw[q3 c om,q2 c om]
 have R3:=R1.same (e13 b hb1')
 have W3:Row H3 bw (byts P):=(R.same (E1.old bw hbw)).same (e13 bw om)
 have m2':oNew H1 [.int .i64 0,.int .i64 0,.slice none 0 (.known 0)]=(cellR H1.next 3 0,H2):=m2
 have l3:oLoad true 3 H3 (cellR H1.next 3 0)=some (.agg [.int .i64 (w:Int),.int .i64 (h:Int),slR b N (.known N)]):=row_loadN r3 (n:=3) rfl
 have bd:aBuild [.int .i64 0,.int .i64 0,.slice none 0 (.known 0)] [(0,1,.int .i64 (w:Int)),(1,1,.int .i64 (h:Int)),(2,1,slR bw N (.known N))]=some (.agg [.int .i64 (w:Int),.int .i64 (h:Int),slR bw N (.known N)]):=_root_.id rfl
 simp only[sA,sB,seval,ext_0,ext_1,m2',m3,l3,t0,t1,t13,bd]
 refine (tsame_spec (n:=H1.next) (m:=H.next) (R3.cel (by rw[byts_len,lenP]) hb1') (W3.cel (by rw[byts_len,lenP]) hbw) om om).mono ?_
 rintro _ H4 ⟨rfl,E4⟩
 have e4n:=E4.next
 simp only[sA,sB,seval,t3,t0]
 refine (pick_spec u w om om).mono ?_
 rintro _ _ ⟨⟨x,hx,rfl⟩,rfl⟩
 simp only[sA,sB,seval,t4,t1]
 refine (pick_spec v h om om).mono ?_
 rintro _ _ ⟨⟨y,hy,rfl⟩,rfl⟩
 simp only[sA,sB,seval]
 have hwn:(h:Int)=(h:Int):=rfl
 have nx:=nearV_lt hx
 have ny:=nearV_lt hy
 have R4:=(R3.same (E4.old b om))
 have W4:=(W3.same (E4.old bw om))
 have T4:Row H4 H1.next [.int .i64 (w:Int),.int .i64 (h:Int),slR b N (.known N)]:=r3.same (E4.old _ om)
 obtain⟨k,hk⟩:∃k,k=4*(y*w+x):=⟨_,rfl⟩
 have hkN:k+4≤N:=by
  have:(y+1)*w≤h*w:=Nat.mul_le_mul_right _ hy
  rw[Nat.add_mul,Nat.one_mul,Nat.mul_comm h w]at this
  omega
 have cel:∀{K:AHeap},Ext H4.next H4 K→Cel K.next K (slR b N (.known N)) (byts P):=fun E=>(R4.same (E.old b om)).cel (by rw[byts_len,lenP]) (by have:=E.next; omega)
 have hcol:∀far:Int,Tx.colF (w:Int) (h:Int) P ((nearV x w:Int)+far*4294967296) ((nearV y h:Int)-far*4294967296)=colP P k:=fun far=>by
  rw[hk]
  have e:(nearV y h:Int)-far*4294967296=(nearV y h:Int)+(-far)*4294967296:=om
  exact col_at hw hw2 hh hh2 (by rw[lenP,hN]) (pl_near hx hw2 far) (by rw[e]; exact pl_near hy hh2 (-far))
 have hcol0:Tx.colF (w:Int) (h:Int) P (nearV x w:Int) (nearV y h:Int)=colP P k:=by
  have:=hcol 0
  rwa [Int.zero_mul,Int.add_zero,Int.sub_zero]at this
 have hc3:(colP P k).length=3:=rfl
 obtain⟨C,hC⟩:∃C,C=colP P k:=⟨_,rfl⟩
 rw[← hC]at hcol hcol0 hc3
 obtain⟨eq1,eq2⟩:=eq_vec C hc3
 obtain⟨Hr,hHr⟩:∃Hr,Hr=H4.push (.cells [.int .i64 0,.int .i64 0,.int .i64 0] 0 false):=⟨_,rfl⟩
 have nr:Hr.next=H4.next+1:=by rw[hHr,push_next]
 have Er:Ext H4.next H4 Hr:=⟨om,fun c hc=>by rw[hHr]; exact get_push_lt hc⟩
 have gr:Hr.get H4.next=some (.cells [.int .i64 0,.int .i64 0,.int .i64 0] 0 false):=by rw[hHr,AHeap.get_push,if_pos rfl]
 have lr:oLoad true 3 Hr (cellR H1.next 3 0)=some (.agg [.int .i64 (w:Int),.int .i64 (h:Int),slR b N (.known N)]):=row_loadN (T4.same (Er.old _ om)) (n:=3) rfl
 have clr:aClaim Hr H4.next [.int .i64 0,.int .i64 0,.int .i64 0] none=some (cellR H4.next 3 0):=claim_ok gr rfl
 refine aw_drawN ?_
 simp only[claims,newOf,reserves,Int.ofNat_eq_natCast,Int.cast_ofNat_Int,← hHr]
 simp only[sA,sB,seval,sR,tr_claim,lr,t0,t1,callvP_func _ _ _ _ _ (show 10<1024 by decide),List.append_nil]
 refine (near_spec hx hw2).mono ?_
 rintro _ _ ⟨rfl,rfl⟩
 simp only[sA,sB,seval,sR,tr_claim,t0,t1,callvP_func _ _ _ _ _ (show 10<1024 by decide),List.append_nil]
 refine (near_spec hy hh2).mono ?_
 rintro _ _ ⟨rfl,rfl⟩
 simp only[sA,sB,seval,sR,tr_claim,t0,t1]
 refine (Tx.sample_spec (w:=(w:Int)) (h:=(h:Int)) (pix:=P) (cel Er) rfl (u:=(nearV x w:Int)) (v:=(nearV y h:Int)) om om om om).mono ?_
 rintro _ H5 ⟨rfl,E5⟩
 rw[hcol0]
 have e5n:=E5.next
 have g5:H5.get H4.next=some (.cells [.int .i64 0,.int .i64 0,.int .i64 0] 0 false):=(E5.old _ om).trans gr
 have cl5:aClaim H5 H4.next [.int .i64 0,.int .i64 0,.int .i64 0] none=some (cellR H4.next 3 0):=claim_ok g5 rfl
 obtain⟨H6,m6,r6,k6,q6⟩:=row_storeN (H:=H5) (b:=H4.next) (l:=[.int .i64 0,.int .i64 0,.int .i64 0]) ⟨0,g5,Nat.zero_le _⟩ (n:=3) rfl (xs:=Tx.nats C) (by simp[Tx.nats,hc3]) (by simp[Tx.nats,AVal.one])
 have atex:aeq (.agg [.int .i64 (w:Int),.int .i64 (h:Int),slR b N (.known N)]) (.agg [.int .i64 (w:Int),.int .i64 (h:Int),slR b N (.known N)])=true:=by simp[aeq,aeqs,slR,eqF_eq]
 have avec:aeq (.agg (Tx.nats C)) (.agg (Tx.nats C))=true:=by
  obtain⟨a1,a2,a3,rfl⟩:∃a b c,C=[a,b,c]:=by
   match C,hc3 with
   | [a,b,c],_=>exact⟨a,b,c,rfl⟩
  simp[Tx.nats,aeq,aeqs,eqF_eq]
 have E46:Ext H4.next H4 H6:=⟨om,fun c hc=>by rw[q6 c om,E5.old c om,Er.old c hc]⟩
 simp only[sA,sB,seval,sR,tr_claim,cl5,m6]
 refine⟨?_,?_⟩
 ·simp only[ck_nil',ck_cons,ckP_load,ckP_claim,ckP_nil,ck_end,and_true,true_and,List.map_cons,List.map_nil,sA,sB,seval]
  exact⟨⟨⟨_,rfl,fun _=>⟨_,lr,atex⟩⟩,⟨_,rfl,fun _=>⟨_,lr,atex⟩⟩⟩,⟨_,rfl,fun _=>⟨_,clr,aeq_cellR _ _ _⟩⟩,⟨_,rfl,fun _=>⟨_,clr,aeq_cellR _ _ _⟩⟩,⟨_,rfl,fun _=>⟨_,clr,aeq_cellR _ _ _⟩⟩⟩
 have v1:IntKind.i64.wrap ((y:Int)*(w:Int))=((y*w:Nat):Int):=by
  have:y*w≤20*20:=Nat.mul_le_mul om hw2
  rw[← Int.natCast_mul,wrap64 om om]
 have v2:IntKind.i64.wrap (((y*w:Nat):Int)+(x:Int))=((y*w+x:Nat):Int):=w64
 have v3:IntKind.i64.wrap (4*((y*w+x:Nat):Int))=(k:Int):=w64
 have sf:=sl_from (b:=bw) (N:=N) (lo:=k) om
 obtain⟨fars,hfars⟩:∃l:List AVal,l=[.int .i64 (-3),.int .i64 (-1),.int .i64 1,.int .i64 1000]:=⟨_,rfl⟩
 have bf:aBuildSl 4 [.int .i64 0] H6 [(0,1,.int .i64 (-3)),(1,1,.int .i64 (-1)),(2,1,.int .i64 1),(3,1,.int .i64 1000)]=some (slR H6.next 4 (.known 4),H6.push (.cells fars 0 false)):=by rw[hfars]; rfl
 have l4:aLenK false (slR H6.next 4 (.known 4))=some (.int .i64 4):=_root_.id rfl
 obtain⟨H7,hH7⟩:∃H7,H7=H6.push (.cells fars 0 false):=⟨_,rfl⟩
 rw[← hH7]at bf
 have n7:H7.next=H6.next+1:=by rw[hH7,push_next]
 have E7:Ext H6.next H6 H7:=⟨om,fun c hc=>by rw[hH7]; exact get_push_lt hc⟩
 have rf7:Row H7 H6.next fars:=by rw[hH7]; exact row_push _ _
 have E47:Ext H4.next H4 H7:=E46.trans (E7.less om)
 simp only[sA,sB,seval,t0,t13,v1,v2,v3,sf,bf,l4]
 refine aw_loop (fun m (T':Env) H'=>∃i,m=4-i∧i≤4∧T' 0=.int .i64 (w:Int)∧T' 1=.int .i64 (h:Int)∧T' 20=cellR H1.next 3 0∧T' 22=.int .i64 (x:Int)∧T' 23=.int .i64 (y:Int)∧T' 24=.func (.func 10) [] []∧T' 25=cellR H4.next 3 0∧T' 26=.slice (some ⟨bw,N,k⟩) (N-k) (.known (N-k))∧T' 137=slR H6.next 4 (.known 4)∧T' 138=.int .i64 4∧T' 139=.int .i64 (i:Int)∧Ext H7.next H7 H') 4
  ⟨0,rfl,Nat.zero_le _,by simp only[sA,sB,seval,t0],by simp only[sA,sB,seval,t1],by simp only[sA,sB,seval],by simp only[sA,sB,seval],by simp only[sA,sB,seval],by simp only[sA,sB,seval],by simp only[sA,sB,seval],by simp only[sA,sB,seval],by simp only[sA,sB,seval],by simp only[sA,sB,seval],by simp only[sA,sB,seval]; try rfl,Ext.refl _ _⟩ ?_
 rintro m T' H8 ⟨i,rfl,hi,u0,u1,u20,u22,u23,u24,u25,u26,u137,u138,u139,E8⟩
 have e8n:=E8.next
 have E48:Ext H4.next H4 H8:=E47.trans (E8.less om)
 have r8:Row H8 H4.next (Tx.nats C):=(r6.same (E7.old _ om)).same (E8.old _ om)
 have l8:oLoad true 3 H8 (cellR H1.next 3 0)=some (.agg [.int .i64 (w:Int),.int .i64 (h:Int),slR b N (.known N)]):=row_loadN (T4.same (E48.old _ om)) (n:=3) rfl
 have lc8:oLoad true 3 H8 (cellR H4.next 3 0)=some (.agg (Tx.nats C)):=row_loadN r8 (n:=3) (by simp[Tx.nats,hc3])
 by_cases hlt:i<4
 ·have hlt':(i:Int)<4:=om
  obtain⟨far,hfar,f1,f2⟩:∃far:Int,fars[i]?=some (.int .i64 far)∧-3≤far∧far≤1000:=by
   rw[hfars]
   match i,hlt with
   | 0,_=>exact⟨-3,rfl,by decide,by decide⟩
   | 1,_=>exact⟨-1,rfl,by decide,by decide⟩
   | 2,_=>exact⟨1,rfl,by decide,by decide⟩
   | 3,_=>exact⟨1000,rfl,by decide,by decide⟩
  have ixf:aIdxA 1 (slR H6.next 4 (.known 4)) (.int .i64 (i:Int))=some (cellR H6.next 4 i):=row_idx .i64 hlt
  have ldf:oLoad false 1 H8 (cellR H6.next 4 i)=some (.int .i64 far):=row_load (rf7.same (E8.old _ om)) (by rw[hfars]; rfl) hfar
  have y1:IntKind.i64.wrap (far*4294967296)=far*4294967296:=wrap64 om om
  have y2:IntKind.i64.wrap ((nearV x w:Int)+far*4294967296)=(nearV x w:Int)+far*4294967296:=wrap64 om om
  have y3:IntKind.i64.wrap ((nearV y h:Int)-far*4294967296)=(nearV y h:Int)-far*4294967296:=wrap64 om om
  simp only[sA,sB,seval,u137,u138,u139,hlt',ixf,ldf]
  refine aw_drawC rfl ?_
  simp only[sA,sB,seval,sR,u0,u1,u20,u22,u23,u24,u25,l8,callvP_func _ _ _ _ _ (show 10<1024 by decide),List.append_nil]
  refine (near_spec hx hw2).mono ?_
  rintro _ _ ⟨rfl,rfl⟩
  simp only[sA,sB,seval,sR,u0,u1,u20,u22,u23,u24,u25,y1,y2,callvP_func _ _ _ _ _ (show 10<1024 by decide),List.append_nil]
  refine (near_spec hy hh2).mono ?_
  rintro _ _ ⟨rfl,rfl⟩
  simp only[sA,sB,seval,sR,u0,u1,u20,u22,u23,u24,u25,y1,y3]
  refine (Tx.sample_spec (w:=(w:Int)) (h:=(h:Int)) (pix:=P) (cel E48) rfl (u:=(nearV x w:Int)+far*4294967296) (v:=(nearV y h:Int)-far*4294967296) om om om om).mono ?_
  rintro _ H9 ⟨rfl,E9⟩
  rw[hcol far]
  have e9n:=E9.next
  have lc9:oLoad true 3 H9 (cellR H4.next 3 0)=some (.agg (Tx.nats C)):=row_loadN (r8.same (E9.old _ om)) (n:=3) (by simp[Tx.nats,hc3])
  have wi:IntKind.i64.wrap ((i:Int)+1)=((i+1:Nat):Int):=w64
  simp only[sA,sB,seval,sR,u25,lc9,eq2]
  refine⟨?_,?_⟩
  ·simp only[ck_nil',ck_cons,ckP_load,ckP_claim,ckP_nil,ck_end,and_true,true_and,List.map_cons,List.map_nil,sA,sB,seval,u20,u25]
   exact⟨⟨⟨_,rfl,fun _=>⟨_,l8,atex⟩⟩,⟨_,rfl,fun _=>⟨_,l8,atex⟩⟩⟩,⟨_,rfl,fun _=>⟨_,lc8,avec⟩⟩,⟨_,rfl,fun _=>⟨_,lc8,avec⟩⟩,⟨_,rfl,fun _=>⟨_,lc8,avec⟩⟩⟩
  simp only[sA,sB,seval,u139,wi]
  exact⟨4-(i+1),om,i+1,rfl,om,tt,tt,tt,tt,tt,tt,tt,tt,tt,tt,tt,E8.trans (E9.less om)⟩
 ·obtain rfl:i=4:=om
  have h44:¬((4:Nat):Int)<4:=om
  have sl4:aSl 1 (.slice (some ⟨bw,N,k⟩) (N-k) (.known (N-k))) none (some (.int .i64 4)) none=some (.slice (some ⟨bw,N,k⟩) 4 (.known (N-k))):=by
   have e:aSl 1 (.slice (some ⟨bw,N,k⟩) (N-k) (.known (N-k))) (some (.int .i64 ((0:Nat):Int))) (some (.int .i64 ((4:Nat):Int))) none=some (.slice (some ⟨bw,N,k⟩) 4 (.known (N-k))):=by
    have c1:Nat.beq (N-k) 0=false:=by
     cases hq:Nat.beq (N-k) 0 with
     | false=>rfl
     | true=>have:=Nat.eq_of_beq_eq_true hq; omega
    simp only[aSl,bnd_lh (Nat.zero_le 4) (show 4≤N-k by omega),Option.getD_none,c1,cond_false,Nat.zero_mul,Nat.add_zero,Nat.sub_zero]
   rw[sl_none]; exact e
  have bd1:aBuild [.int .i64 0,.int .i64 0,.slice none 0 (.known 0)] [(0,1,.int .i64 1),(1,1,.int .i64 1),(2,1,.slice (some ⟨bw,N,k⟩) 4 (.known (N-k)))]=some (.agg [.int .i64 1,.int .i64 1,.slice (some ⟨bw,N,k⟩) 4 (.known (N-k))]):=_root_.id rfl
  have W8:Row H8 bw (byts P):=W4.same (E48.old bw om)
  have p4:((P.drop k).take 4).length=4:=by rw[List.length_take,List.length_drop]; omega
  have C1:Cel H8.next H8 (.slice (some ⟨bw,N,k⟩) 4 (.known (N-k))) (byts ((P.drop k).take 4)):=by
   refine .inr ⟨⟨bw,N,k⟩,.known (N-k),by rw[byts_len,p4],by show bw<H8.next; omega,?_⟩
   rw[byts_len,p4,← byts_take,← byts_drop]
   exact rd_row W8 (by rw[byts_len,lenP]) om
  simp only[sA,sB,seval,u138,u139,h44]
  refine aw_drawC rfl ?_
  simp only[sA,sB,seval,sR,u25,u26,lc8,sl4,bd1]
  refine (Tx.sample_spec (w:=1) (h:=1) (pix:=(P.drop k).take 4) C1 rfl (u:=0) (v:=0) dD dD dD dD).mono ?_
  rintro _ H9 ⟨rfl,E9⟩
  rw[col_one p4 rfl,← hC]
  have lc9:oLoad true 3 H9 (cellR H4.next 3 0)=some (.agg (Tx.nats C)):=row_loadN (r8.same (E9.old _ om)) (n:=3) (by simp[Tx.nats,hc3])
  simp only[sA,sB,seval,sR,eq1]
  refine (hA H9).mono ?_
  rintro _ Ha rfl
  simp only[sA,sB,seval,sR]
  refine⟨?_,?_⟩
  ·simp only[ck_nil',ck_cons,ckP_load,ckP_claim,ckP_nil,ck_end,and_true,true_and,List.map_cons,List.map_nil,sA,sB,seval,u20,u25]
   exact⟨_,rfl,fun _=>⟨_,lc9,avec⟩⟩
  try simp only[sA,sB,seval]
end Go.Proofs.Tb
