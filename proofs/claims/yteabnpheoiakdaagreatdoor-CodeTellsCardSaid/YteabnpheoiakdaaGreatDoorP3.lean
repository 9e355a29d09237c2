/- Part of a proof (A10 D1 D2 D3 D3b D4 D5 D6); no condition. -/
import Derived.Orders
import Derived.Test.YteabnpheoiakdaaGreatDoorP2
set_option linter.unusedSimpArgs false
set_option linter.unusedVariables false
set_option linter.defProp false
set_option linter.unnecessarySimpa false
namespace Go.Abs
section
variable {P:Program} {Prot:Gh} {w0:World} {ρ:Pl} {H H':aa} {w:World}
def Fj{op:BinOp}{t:TypeId}{x y:Operand}{u v:Value}{p q r:ae}(hx:ar ρ p u)(hy:ar ρ q v)(h:cT op p q=some r):(eqGuard op t x y u v).run P w=.ok () w:=by
 unfold cT at h;split at h
 ·simp only[ar]at hx hy;subst hx hy;cases op<;>rfl
 ·simp only[ar]at hx hy;subst hx hy;cases op<;>rfl
 ·simp at h
def Ju{b:Bool}{v:Value}(h:ar ρ (.bool b) v):(asBool v).run P w=.ok b w:=by simp only[ar]at h;subst h;rfl
def nZ{f:FuncId}(h:ep P f=true)(args:Array Value):(callFunc f args).run P w=.ok (.enter f args) w:=by
 unfold ep at h;rw[XA]at h;replace h:=h.2;split at h
 ·rename_i fn hf;simp only[XA,Bool.not_eq_true']at h;have h1:fn.body.isNone=false:=by
   cases hb:fn.body with
   |none=>rw[hb]at h;simp at h
   |some b=>rfl
  simp only[callFunc,Sem.run_bind,run_program,Result.andThen_ok,hf,h.2,XJ,if_false,h1];rfl
 ·simp at h
def NK{t:TypeId}(h:pY P t=true):MZ P t:=by
 unfold pY at h;split at h
 ·rename_i e he;exact .inl ⟨e,he⟩
 ·rename_i he;exact .inr he
 ·simp at h
def Ge{α:Type}{x y:α}{arr:Array α}(h:arr.toList=[x,y]):arr=#[x,y]:=Array.toList_inj.1 (by simpa using h)
def KN{x y:bW}{l:List Operand}(h:fI l=some [x,y]):∃p q,l=[p,q]/\dF p=some x/\dF q=some y:=by
 cases l with
 |nil=>simp[fI]at h
 |cons p l=>
  cases l with
  |nil=>
   simp only[fI]at h;split at h
   ·rename_i a b h1 h2;simp only[sJ,List.cons.injEq]at h h2;rw[<- h2]at h;simp at h
   ·simp at h
  |cons q l=>
   cases l with
   |nil=>
    simp only[fI]at h;split at h
    ·rename_i a b h1 h2;split at h2
     ·rename_i c d h3 h4;simp only[sJ]at h4 h2;subst h4;subst h2;simp only[sJ,List.cons.injEq,and_true]at h;obtain⟨rfl,rfl⟩:=h;exact⟨p,q,rfl,h1,h3⟩
     ·simp at h2
    ·simp at h
   |cons r l=>
    simp only[fI]at h;split at h
    ·rename_i a b h1 h2;split at h2
     ·rename_i c d h3 h4;split at h4
      ·rename_i e f h5 h6;simp only[sJ]at h4 h2;subst h4;subst h2;simp at h
      ·simp at h4
     ·simp at h2
    ·simp at h
def KO{x:bW}{l:List Operand}(h:fI l=some [x]):∃p,l=[p]/\dF p=some x:=by
 cases l with
 |nil=>simp[fI]at h
 |cons p l=>
  cases l with
  |nil=>
   simp only[fI]at h;split at h
   ·rename_i a b h1 h2;simp only[sJ,List.cons.injEq]at h h2;subst h2;obtain⟨rfl,_⟩:=h;exact⟨p,rfl,h1⟩
   ·simp at h
  |cons q l=>
   simp only[fI]at h;split at h
   ·rename_i a b h1 h2;split at h2
    ·rename_i c d h3 h4;simp only[sJ]at h2;subst h2;simp at h
    ·simp at h2
   ·simp at h
def Mf{tb:FuncId->Bool}(htb:∀f,Nat.blt f mT=true->tb f=true->ep P f=true)(R:cX Prot w0 ρ H w){n:Nat}{T:Tr ae}{a:Act}(ht:bY ρ n T a.tmps)(o:Oper)(c:Call){ao:jz}(hc:lP P c=some ao)
  {nx:Nx} (h:dZ tb T H ao=some (nx,H')):cw P Prot w0 ρ w (execOp a.eval { o with op:=.call c }) nx H':=by
 obtain⟨callee,args,argTypes⟩:=c;unfold lP at hc;split at hc
 ·-- a function
  rename_i f heq;simp only at heq;subst heq;cases hbig:Nat.blt f mT with
  |false=>rw[hbig]at hc;simp at hc
  |true=>
  rw[hbig]at hc;simp only[cond_true]at hc;split at hc
  ·rename_i l hl;simp only[sJ]at hc;subst hc;simp only[dZ]at h;cases hb:tb f with
   |false=>rw[hb]at h;simp at h
   |true=>
    rw[hb]at h;simp only[cond_true,sJ,pJ]at h;obtain⟨rfl,rfl⟩:=h;refine⟨ρ,w,.enter f (args.map a.eval),Pl.le_refl _,?_,R,rfl,hbig,?_⟩
    ·have:=nZ (P:=P) (w:=w) (htb f hbig hb) (args.map a.eval);simp[execOp,resolve,Act.eval,Deferred.ofValue,invoke,this]
    ·simpa using kD ht hl
  ·simp at hc
 ·rename_i x _ heq;simp only at heq;subst heq;split at hc
  ·rename_i y l hy hl;simp only[sJ]at hc;subst hc;simp only[dZ]at h;split at h
   ·rename_i f fs cs hev;cases hb':(Nat.blt f mT&&tb f)with
    |false=>rw[hb']at h;simp at h
    |true=>
     rw[hb']at h;simp only[XA]at hb';obtain⟨hbig,hb⟩:=hb';simp only[cond_true,sJ,pJ]at h;obtain⟨rfl,rfl⟩:=h;have hv:=aY ht hy;rw[hev]at hv;simp only[ar]at hv;obtain⟨fv,cv,hfv,h1,h2⟩:=hv;refine⟨ρ,w,.enter f (fv++args.map a.eval++cv),Pl.le_refl _,?_,R,rfl,hbig,?_⟩
     ·have:=nZ (P:=P) (w:=w) (htb f hbig hb) (fv++args.map a.eval++cv);simp only[Array.append_assoc]at this;simp[execOp,resolve,hfv,Deferred.ofValue,invoke,this]
     ·simpa using aE.append (aE.append h1 (kD ht hl)) h2
   ·simp at h
  ·simp at hc
 ·-- append
  rename_i heq;simp only at heq;subst heq;split at hc
  ·rename_i sT xT s x hT hO;simp only at hT hO;obtain⟨p,q,hpq,hp,hq⟩:=KN hO;have ha:=Ge hT;have hb:=Ge hpq;subst ha hb;split at hc
   ·rename_i e he;split at hc
    ·rename_i g m m' b h1 h2;cases hg:(Nat.beq m m'&&pY P xT)with
     |false=>rw[hg]at hc;simp at hc
     |true=>rw[hg]at hc;simp only[XA]at hg;simp only[cond_true,sJ]at hc;subst hc;have:=XF hg.1;subst this;simp only[dZ]at h;obtain⟨y,hy,rfl⟩:=fK h;have:=cw.good (Jw (P:=P) (t:=o.type) R he (eB h1) (OO h2) (NK hg.2) (aY ht hp) (aY ht hq) hy);simpa[execOp,resolve,invoke,builtin]using this
    ·simp at hc
   ·simp at hc
  ·simp at hc
 ·-- len
  rename_i heq;simp only at heq;subst heq;split at hc
  ·rename_i T1 x hT hO;simp only at hT hO;obtain⟨p,hpq,hp⟩:=KO hO;have ha:argTypes=#[T1]:=Array.toList_inj.1 (by simpa using hT);have hb:args=#[p]:=Array.toList_inj.1 (by simpa using hpq);subst ha hb;split at hc
   ·rename_i e he;simp only[sJ]at hc;subst hc;simp only[dZ]at h;obtain⟨y,hy,rfl,rfl⟩:=cB h;have hx:=aY ht hp;unfold ez at hy;split at hy
    ·simp at hy
    ·rename_i a1 n1 r1 hev;simp only[cond_false,sJ]at hy;have:=cw.val R (EI (P:=P) (w:=w) (t:=o.type) (.inl ⟨e,he⟩) hx (by rw[hev];simp only[FW,sJ];exact hy) (.inr (.inl ⟨a1,n1,r1,e,hev,he⟩)));simpa[execOp,resolve,invoke,builtin]using this
    ·rename_i a1 n1 c1 hev;simp only[cond_false,sJ]at hy;have:=cw.val R (EI (P:=P) (w:=w) (t:=o.type) (.inl ⟨e,he⟩) hx (by rw[hev];simp only[FW,sJ];exact hy) (.inr (.inr ⟨a1,n1,c1,e,hev,he⟩)));simpa[execOp,resolve,invoke,builtin]using this
    ·simp at hy
   ·rename_i he;simp only[sJ]at hc;subst hc;simp only[dZ]at h;obtain⟨y,hy,rfl,rfl⟩:=cB h;have hx:=aY ht hp;unfold ez at hy;split at hy
    ·rename_i s1 hev;simp only[cond_true,sJ]at hy;have:=cw.val R (EI (P:=P) (w:=w) (t:=o.type) (.inr he) hx (by rw[hev];simp only[FW,sJ];exact hy) (.inl ⟨s1,hev,he⟩));simpa[execOp,resolve,invoke,builtin]using this
    ·simp at hy
    ·simp at hy
    ·simp at hy
   ·simp at hc
  ·simp at hc
 ·simp at hc
def N4{tb:FuncId->Bool}(htb:∀f,Nat.blt f mT=true->tb f=true->ep P f=true)(R:cX Prot w0 ρ H w){n:Nat}{T:Tr ae}{a:Act}(ht:bY ρ n T a.tmps)(o:Oper){ao:jz}(hc:C3 P o.op=some ao)
  {nx:Nx} (h:dZ tb T H ao=some (nx,H')):cw P Prot w0 ρ w (execOp a.eval o) nx H':=by
 obtain⟨dst,op,type,pos,after,guard⟩:=o;simp only at hc;cases op<;>simp only[C3,reduceCtorEq]at hc
 case move x=>
  split at hc
  ·rename_i y hy;simp only[sJ]at hc;subst hc;simp only[dZ,sJ,pJ]at h;obtain⟨rfl,rfl⟩:=h;exact⟨ρ,w,_,Pl.le_refl _,rfl,R,aY ht hy⟩
  ·simp at hc
 case assign x=>
  split at hc
  ·rename_i y hy;simp only[sJ]at hc;subst hc;simp only[dZ,sJ,pJ]at h;obtain⟨rfl,rfl⟩:=h;exact⟨ρ,w,_,Pl.le_refl _,rfl,R,aY ht hy⟩
  ·simp at hc
 case pick c x y=>
  split at hc
  ·rename_i c' x' y' h1 h2 h3;simp only[sJ]at hc;subst hc;simp only[dZ]at h;split at h
   ·rename_i b hb;simp only[sJ,pJ]at h;obtain⟨rfl,rfl⟩:=h;have hcv:=aY ht h1;rw[hb]at hcv;refine⟨ρ,w,.value (if b then a.eval x else a.eval y),Pl.le_refl _,?_,R,?_⟩
    ·simp only[execOp,Sem.run_bind,Ju hcv,Result.andThen_ok];rfl
    ·cases b
     ·exact aY ht h3
     ·exact aY ht h2
   ·simp at h
  ·simp at hc
 case alloc e=>
  split at hc
  ·rename_i z hz;simp only[sJ]at hc;subst hc;simp only[dZ]at h;obtain⟨y,hy,rfl⟩:=fK h;simp only[sJ]at hy;have:=cw.good (MN (P:=P) R hz);rw[hy]at this;exact this
  ·simp at hc
 case box e x=>
  split at hc
  ·rename_i y hy;simp only[sJ]at hc;subst hc;simp only[dZ]at h;obtain⟨z,hz,rfl⟩:=fK h;simp only[sJ]at hz;have:=cw.good (QT (P:=P) R e (aY ht hy));rw[hz]at this;exact this
  ·simp at hc
 case build t ps=>
  split at hc
  ·rename_i fs z hu hz;split at hc
   ·rename_i pl hpl;split at hc
    ·rename_i l hl;simp only[sJ]at hc;subst hc;simp only[dZ]at h;obtain⟨y,hy,rfl,rfl⟩:=cB h;have:=cw.val R (Da (P:=P) (w:=w) (qs:=ps.map λp=>(p.1,a.eval p.2)) hu hpl hz (by simpa using qK ht hl) hy);simpa[execOp]using this
    ·simp at hc
   ·simp at hc
  ·rename_i m e z hu hz;split at hc
   ·rename_i g k hk;split at hc
    ·rename_i l hl;simp only[sJ]at hc;subst hc;simp only[dZ]at h;obtain⟨y,hy,rfl,rfl⟩:=cB h;have:=cw.val R (Db (P:=P) (w:=w) (qs:=ps.map λp=>(p.1,a.eval p.2)) hu (eB hk) hz (by simpa using qK ht hl) hy);simpa[execOp]using this
    ·simp at hc
   ·simp at hc
  ·simp at hc
 case buildSlice t len ps=>
  split at hc
  ·rename_i e hu;split at hc
   ·rename_i g k z hk hz;split at hc
    ·rename_i l hl;cases hg:(Nat.beq z.length k&&Nat.ble (len*k) 16777216)with
     |false=>rw[hg]at hc;simp at hc
     |true=>rw[hg]at hc;simp only[XA,Nat.ble_eq]at hg;simp only[cond_true,sJ]at hc;subst hc;simp only[dZ]at h;obtain⟨y,hy,rfl⟩:=fK h;have:=cw.good (FM (P:=P) (qs:=ps.map λp=>(p.1,a.eval p.2)) R hu (eB hk) hz (XF hg.1) hg.2 (by simpa using qK ht hl) hy);simpa[execOp]using this
    ·simp at hc
   ·simp at hc
  ·simp at hc
 case load t x=>
  split at hc
  ·rename_i g k y hk hy;simp only[sJ]at hc;subst hc;simp only[dZ]at h;obtain⟨z,hz,rfl,rfl⟩:=cB h;exact cw.val R (An (P:=P) R (eB hk) (aY ht hy) hz)
  ·simp at hc
 case store t x y=>
  split at hc
  ·rename_i g k x' y' hk hx hy;simp only[sJ]at hc;subst hc;simp only[dZ]at h;split at h
   ·rename_i H1 h1;simp only[sJ,pJ]at h;obtain⟨rfl,rfl⟩:=h;obtain⟨w',q1,q2⟩:=J8 (P:=P) R (eB hk) (aY ht hx) (aY ht hy) h1;refine⟨ρ,w',.skip,Pl.le_refl _,?_,q2,?_⟩
    ·simp only[execOp,Sem.run_bind,q1,Result.andThen_ok];rfl
    ·simp only[oD,cF,ar,undef];exact⟨#[],rfl,by simp[aE]⟩
   ·simp at h
  ·simp at hc
 case nilCheck x=>
  split at hc
  ·rename_i y hy;simp only[sJ]at hc;subst hc;simp only[dZ]at h;obtain⟨z,hz,rfl,rfl⟩:=cB h;exact IW R (aY ht hy) hz ⟨dst,.nilCheck x,type,pos,after,guard⟩ a.eval rfl
  ·simp at hc
 case binOp op t x y yt=>
  split at hc
  ·rename_i x' y' hx hy;simp only[sJ]at hc;subst hc;simp only[dZ]at h;obtain⟨z,hz,rfl,rfl⟩:=cB h;obtain⟨u,h1,h2⟩:=RY (P:=P) (t:=t) (aY ht hx) (aY ht hy) hz w;refine cw.val R ⟨u,?_,h2⟩;simp only[Sem.run_bind,Fj (aY ht hx) (aY ht hy) hz,Result.andThen_ok,h1]
  ·simp at hc
 case unOp op t x=>
  split at hc
  ·rename_i y hy;simp only[sJ]at hc;subst hc;simp only[dZ]at h;obtain⟨z,hz,rfl,rfl⟩:=cB h;exact cw.val R (T7 (P:=P) (aY ht hy) hz w)
  ·simp at hc
 case convert s d x=>
  split at hc
  ·rename_i y hy;split at hc
   ·rename_i d1 k h1 h2;simp only[sJ]at hc;subst hc;simp only[dZ]at h;obtain⟨z,hz,rfl,rfl⟩:=cB h;exact cw.val R (OS (P:=P) h1 h2 (aY ht hy) hz w)
   ·rename_i e _ h1 h2;split at hc
    ·rename_i he;simp only[sJ]at hc;subst hc;simp only[dZ]at h;obtain⟨z,hz,rfl⟩:=fK h;exact cw.good (Ua (P:=P) R h1 h2 he (aY ht hy) hz)
    ·simp at hc
   ·rename_i e _ h1 h2;split at hc
    ·rename_i he;simp only[sJ]at hc;subst hc;simp only[dZ]at h;obtain⟨z,hz,rfl,rfl⟩:=cB h;exact cw.val R (Vl (P:=P) R h1 he h2 (aY ht hy) hz)
    ·simp at hc
   ·simp at hc
  ·simp at hc
 case makeFunc fn x y=>
  split at hc
  ·rename_i x' y' hx hy;simp only[sJ]at hc;subst hc;simp only[dZ,sJ,pJ]at h;obtain⟨rfl,rfl⟩:=h;refine cw.val R ⟨.func fn (x.map a.eval) (y.map a.eval),rfl,?_⟩;simp only[ar];exact⟨_,_,rfl,by simpa using kD ht hx,by simpa using kD ht hy⟩
  ·simp at hc
 case slice t x lo hi mx=>
  split at hc
  ·rename_i x' lo' hi' hu hx hlo hhi hmx;simp only[sJ]at hc;subst hc;simp only[dZ]at h;obtain⟨y,hy,rfl,rfl⟩:=cB h;have hmn:mx=none:=by
    cases mx with
    |none=>rfl
    |some m=>simp only[pH]at hmx;split at hmx<;>simp at hmx
   subst hmn;obtain⟨u,q1,q2⟩:=Kh (P:=P) (w:=w) hu (aY ht hx) (kE ht hlo) (kE ht hhi) hy;refine cw.val R ⟨u,?_,q2⟩;simp only[Instr.sliceAt,Sem.run_bind,run_underlying hu,Result.andThen_ok];exact q1
  ·rename_i e x' lo' hi' mx' hu hx hlo hhi hmx;split at hc
   ·rename_i g k hk;simp only[sJ]at hc;subst hc;simp only[dZ]at h;obtain⟨y,hy,rfl,rfl⟩:=cB h;obtain⟨u,q1,q2⟩:=T9 (P:=P) (w:=w) hu (eB hk) (aY ht hx) (kE ht hlo) (kE ht hhi) (kE ht hmx) hy;refine cw.val R ⟨u,?_,q2⟩;simp only[Instr.sliceAt,Sem.run_bind,run_underlying hu,Result.andThen_ok];exact q1
   ·simp at hc
  ·simp at hc
 case fieldAddr s x i=>
  split at hc
  ·rename_i fs y hu hy;split at hc
   ·rename_i f hf;split at hc
    ·rename_i g k hk;cases hg:Nat.beq k 0 with
     |true=>rw[hg]at hc;simp at hc
     |false=>rw[hg]at hc;simp only[cond_false,sJ]at hc;subst hc;simp only[dZ]at h;obtain⟨z,hz,rfl,rfl⟩:=cB h;exact cw.val R (Jf (P:=P) (w:=w) hu hf (eB hk) (λe=>by rw[e]at hg;simp at hg) (aY ht hy) hz)
    ·simp at hc
   ·simp at hc
  ·simp at hc
 case field s x i=>
  split at hc
  ·rename_i fs y hu hy;split at hc
   ·rename_i f hf;split at hc
    ·rename_i g k hk;simp only[sJ]at hc;subst hc;simp only[dZ]at h;obtain⟨z,hz,rfl,rfl⟩:=cB h;exact cw.val R (Je (P:=P) (w:=w) hu hf (eB hk) (aY ht hy) hz)
    ·simp at hc
   ·simp at hc
  ·simp at hc
 case indexAddr t x i=>
  split at hc
  ·rename_i e x' i' hu hx hi;split at hc
   ·rename_i g k hk;simp only[sJ]at hc;subst hc;simp only[dZ]at h;obtain⟨z,hz,rfl,rfl⟩:=cB h;exact cw.val R (OH (P:=P) (w:=w) hu (eB hk) (aY ht hx) (aY ht hi) hz)
   ·simp at hc
  ·rename_i m e x' i' hu hx hi;split at hc
   ·rename_i g k hk;simp only[sJ]at hc;subst hc;simp only[dZ]at h;obtain⟨z,hz,rfl,rfl⟩:=cB h;exact cw.val R (yM (P:=P) (w:=w) hu (eB hk) (aY ht hx) (aY ht hi) hz)
   ·simp at hc
  ·simp at hc
 case index t x i=>
  split at hc
  ·rename_i x' i' hu hx hi;simp only[sJ]at hc;subst hc;simp only[dZ]at h;obtain⟨z,hz,rfl,rfl⟩:=cB h;exact cw.val R (OG (P:=P) (w:=w) hu (aY ht hx) (aY ht hi) hz)
  ·rename_i m e x' i' hu hx hi;split at hc
   ·rename_i g k hk;simp only[sJ]at hc;subst hc;simp only[dZ]at h;obtain⟨z,hz,rfl,rfl⟩:=cB h;exact cw.val R (Q9 (P:=P) (w:=w) hu (eB hk) (aY ht hx) (aY ht hi) hz)
   ·simp at hc
  ·simp at hc
 case extract x i=>
  split at hc
  ·rename_i y hy;simp only[sJ]at hc;subst hc;simp only[dZ]at h;obtain⟨z,hz,rfl,rfl⟩:=cB h;exact cw.val R (Fg (P:=P) (w:=w) (aY ht hy) hz)
  ·simp at hc
 case call c=>exact Mf htb R ht ⟨dst,.call c,type,pos,after,guard⟩ c hc h
def cw.skip{s:Sem Unit}{w':World}(hr:s.run P w=.ok () w')(hR:cX Prot w0 ρ H' w'):cw P Prot w0 ρ w (do s;pure .skip) (.val (.tuple [])) H':=⟨ρ,w',.skip,Pl.le_refl _,by simp only[Sem.run_bind,hr,Result.andThen_ok];rfl,hR,by simp only[oD,ar,undef];exact⟨#[],rfl,by simp[aE]⟩⟩
def N3{tb:FuncId->Bool}(R:cX Prot w0 ρ H w){n:Nat}{T:Tr ae}{a:Act}(ht:bY ρ n T a.tmps)(o:Oper){ao:jz}(hc:tv P o.op=some ao)
  {nx:Nx} (h:dZ tb T H ao=some (nx,H')):cw P Prot w0 ρ w (execOp a.eval o) nx H':=by
 obtain⟨dst,op,type,pos,after,guard⟩:=o;simp only at hc;unfold tv at hc;split at hc
 ·rename_i t x y yt;split at hc
  ·rename_i x' y' hx hy;split at hc
   ·rename_i k hk;simp only[sJ]at hc;subst hc;simp only[dZ]at h;obtain⟨z,hz,rfl,rfl⟩:=cB h;simp only[mV,pF,Sc]at hz;split at hz
    ·rename_i b hb;simp only[cond_false,sJ]at hz;subst hz;exact cw.val R ⟨_,LN (op:=.eql) (.inl rfl) hk (aY ht hx) (aY ht hy) hb,rfl⟩
    ·simp at hz
   ·split at hc
    ·rename_i fs hk;simp only[sJ]at hc;subst hc;simp only[dZ]at h;obtain⟨z,hz,rfl,rfl⟩:=cB h;simp only[mV,pF]at hz;unfold Du at hz;split at hz
     ·rename_i l m hlm;simp only[List.cons.injEq,and_true]at hlm;obtain⟨e1,e2⟩:=hlm;have p1:=aY ht hx;have p2:=aY ht hy;rw[e1]at p1;rw[e2]at p2;split at hz
      ·rename_i b hb;simp only[cond_false,sJ]at hz;subst hz;exact cw.val R ⟨_,Hn (op:=.eql) (.inl rfl) hk p1 p2 hb,rfl⟩
      ·simp at hz
     ·simp at hz
    ·simp at hc
  ·simp at hc
 ·rename_i t x y yt;split at hc
  ·rename_i x' y' hx hy;split at hc
   ·rename_i k hk;simp only[sJ]at hc;subst hc;simp only[dZ]at h;obtain⟨z,hz,rfl,rfl⟩:=cB h;simp only[mV,pF,Sc]at hz;split at hz
    ·rename_i b hb;simp only[cond_true,sJ]at hz;subst hz;exact cw.val R ⟨_,LN (op:=.neq) (.inr rfl) hk (aY ht hx) (aY ht hy) hb,rfl⟩
    ·simp at hz
   ·split at hc
    ·rename_i fs hk;simp only[sJ]at hc;subst hc;simp only[dZ]at h;obtain⟨z,hz,rfl,rfl⟩:=cB h;simp only[mV,pF]at hz;unfold Du at hz;split at hz
     ·rename_i l m hlm;simp only[List.cons.injEq,and_true]at hlm;obtain⟨e1,e2⟩:=hlm;have p1:=aY ht hx;have p2:=aY ht hy;rw[e1]at p1;rw[e2]at p2;split at hz
      ·rename_i b hb;simp only[cond_true,sJ]at hz;subst hz;exact cw.val R ⟨_,Hn (op:=.neq) (.inr rfl) hk p1 p2 hb,rfl⟩
      ·simp at hz
     ·simp at hz
    ·simp at hc
  ·simp at hc
 ·rename_i t x lo hi mx;split at hc
  ·rename_i m e x' lo' hi' mx' hu hx hlo hhi hmx;split at hc
   ·rename_i g k hk;simp only[sJ]at hc;subst hc;simp only[dZ]at h;obtain⟨y,hy,rfl,rfl⟩:=cB h;exact cw.val R (Ki (P:=P) (w:=w) hu (eB hk) (aY ht hx) (kE ht hlo) (kE ht hhi) (kE ht hmx) hy)
   ·simp at hc
  ·simp at hc
 ·rename_i c;obtain⟨callee,args,argTypes⟩:=c;split at hc
  ·rename_i heq;simp only at heq;subst heq;split at hc
   ·rename_i l hl;simp only[sJ]at hc;subst hc;simp only[dZ]at h;obtain⟨z,hz,rfl,rfl⟩:=cB h;have hv:=kD ht hl;simp only[mV]at hz;cases hl':pF T l with
    |nil=>rw[hl']at hz;simp[MS]at hz
    |cons x r=>rw[hl']at hz hv;simp only[aE]at hv;obtain⟨v,vs,e,hx,hr⟩:=hv;obtain⟨q,hq,hrun⟩:=KY (P:=P) (w:=w) (g:=true) hx hr hz;refine cw.val R (s:=Builtin.max_ argTypes type (args.map a.eval)) ⟨q,?_,hq⟩;unfold Builtin.max_;simp only[Array.toList_map,e];exact hrun
   ·simp at hc
  ·rename_i heq;simp only at heq;subst heq;split at hc
   ·rename_i l hl;simp only[sJ]at hc;subst hc;simp only[dZ]at h;obtain⟨z,hz,rfl,rfl⟩:=cB h;have hv:=kD ht hl;simp only[mV]at hz;cases hl':pF T l with
    |nil=>rw[hl']at hz;simp[MS]at hz
    |cons x r=>rw[hl']at hz hv;simp only[aE]at hv;obtain⟨v,vs,e,hx,hr⟩:=hv;obtain⟨q,hq,hrun⟩:=KY (P:=P) (w:=w) (g:=false) hx hr hz;refine cw.val R (s:=Builtin.min_ argTypes type (args.map a.eval)) ⟨q,?_,hq⟩;unfold Builtin.min_;simp only[Array.toList_map,e];exact hrun
   ·simp at hc
  ·rename_i f heq;simp only at heq;subst heq;cases hf:GY P f with
   |false=>
    rw[hf]at hc;simp only[cond_false]at hc;cases hf2:GZ P f with
    |false=>rw[hf2]at hc;simp at hc
    |true=>
     rw[hf2]at hc;simp only[cond_true]at hc;split at hc
     ·rename_i l hl;simp only[sJ]at hc;subst hc;simp only[dZ]at h;obtain⟨z,hz,rfl,rfl⟩:=cB h;simp only[mV]at hz;obtain⟨q,hq,hrun⟩:=Ro (P:=P) (w:=w) hf2 hz (vs:=args.map a.eval) (by simpa using kD ht hl);exact⟨ρ,w,.value q,Pl.le_refl _,by simpa[execOp,resolve,Act.eval,Deferred.ofValue,invoke]using hrun,R,hq⟩
     ·simp at hc
   |true=>
    rw[hf]at hc;simp only[cond_true]at hc;split at hc
    ·rename_i l hl;simp only[sJ]at hc;subst hc;simp only[dZ]at h;obtain⟨z,hz,rfl,rfl⟩:=cB h;simp only[mV]at hz;obtain⟨q,hq,hrun⟩:=Re (P:=P) (w:=w) hf hz (vs:=args.map a.eval) (by simpa using kD ht hl);exact⟨ρ,w,.value q,Pl.le_refl _,by simpa[execOp,resolve,Act.eval,Deferred.ofValue,invoke]using hrun,R,hq⟩
    ·simp at hc
  ·simp at hc
 ·rename_i t g i;split at hc
  ·rename_i m e i' hu hi;split at hc
   ·rename_i gg k hk;simp only[sJ]at hc;subst hc;simp only[dZ]at h;obtain⟨z,hz,rfl⟩:=fK h;simp only[kj,pF,MW]at hz;split at hz
    ·rename_i p hp;split at hz
     ·rename_i v hv;simp only[sJ,pJ]at hz;obtain⟨rfl,rfl⟩:=hz;exact cw.val R (yM (P:=P) (w:=w) hu (eB hk) (CC R hp) (aY ht hi) hv)
     ·simp at hz
    ·simp at hz
   ·simp at hc
  ·simp at hc
 ·rename_i t g;split at hc
  ·rename_i gg k hk;simp only[sJ]at hc;subst hc;simp only[dZ]at h;obtain⟨z,hz,rfl⟩:=fK h;simp only[kj,pF,Vx]at hz;split at hz
   ·rename_i p hp;split at hz
    ·rename_i v hv;simp only[sJ,pJ]at hz;obtain⟨rfl,rfl⟩:=hz;exact cw.val R (An (P:=P) R (eB hk) (CC R hp) hv)
    ·simp at hz
   ·simp at hz
  ·simp at hc
 ·rename_i t;simp only[sJ]at hc;subst hc;simp only[dZ]at h;obtain⟨z,hz,rfl⟩:=fK h;exact cw.good (KZ (P:=P) R t hz)
 ·rename_i t m k ok;split at hc
  ·rename_i kt el m' k' hu hm hk;split at hc
   ·rename_i kc z0 hkc hz0;simp only[sJ]at hc;subst hc;simp only[dZ]at h;obtain⟨z,hz,rfl⟩:=fK h;exact cw.good (Lb (P:=P) R hu hkc hz0 (aY ht hm) (aY ht hk) hz)
   ·rename_i z0 hkc hz0;split at hc
    ·rename_i ks hpk;simp only[sJ]at hc;subst hc;simp only[dZ]at h;obtain⟨z,hz,rfl⟩:=fK h;exact cw.good (KG (P:=P) R hu hpk hz0 (aY ht hm) (aY ht hk) hz)
    ·simp at hc
   ·simp at hc
  ·simp at hc
 ·rename_i t m k x;split at hc
  ·rename_i kt el m' k' x' hu hm hk hx;split at hc
   ·rename_i kc hkc;simp only[sJ]at hc;subst hc;simp only[dZ]at h;obtain⟨z,hz,rfl⟩:=fK h;obtain⟨rfl,w',hr,hR⟩:=GQ (P:=P) R hu hkc (aY ht hm) (aY ht hk) (aY ht hx) hz;exact cw.skip hr hR
   ·split at hc
    ·rename_i ks hpk;simp only[sJ]at hc;subst hc;simp only[dZ]at h;obtain⟨z,hz,rfl⟩:=fK h;obtain⟨rfl,w',hr,hR⟩:=N1 (P:=P) R hu hpk (aY ht hm) (aY ht hk) (aY ht hx) hz;exact cw.skip hr hR
    ·simp at hc
  ·simp at hc
 ·rename_i t m k x;split at hc
  ·rename_i kt el m' k' x' hu hm hk hx;split at hc
   ·rename_i kc hkc;simp only[sJ]at hc;subst hc;simp only[dZ]at h;obtain⟨z,hz,rfl⟩:=fK h;obtain⟨rfl,w',hr,hR⟩:=GQ (P:=P) R hu hkc (aY ht hm) (aY ht hk) (aY ht hx) hz;exact cw.skip hr hR
   ·simp at hc
  ·simp at hc
 ·simp at hc
def nB{tb:FuncId->Bool}(htb:∀f,Nat.blt f mT=true->tb f=true->ep P f=true)(R:cX Prot w0 ρ H w){n:Nat}{T:Tr ae}{a:Act}(ht:bY ρ n T a.tmps)(o:Oper){ao:jz}(hc:AN P o.op=some ao)
  {nx:Nx} (h:dZ tb T H ao=some (nx,H')):cw P Prot w0 ρ w (execOp a.eval o) nx H':=by
 unfold AN at hc;split at hc
 ·rename_i x hx;simp only[sJ]at hc;subst hc;exact N3 R ht o hx h
 ·split at hc
  ·rename_i x hx;simp only[sJ]at hc;subst hc;exact N4 htb R ht o hx h
  ·simp only[sJ]at hc;subst hc;simp[dZ]at h
def uh(R:cX Prot w0 ρ H w){t:TypeId}{l:List ae}(h:gX P t=some l){b:Nat}(hd:Prot.dead b)(hx:H.get b=some (.cells l 0 false)) :
  ∃ρ' w' u,ρ.le ρ'/\(Instr.alloc t true (.tuple #[])).run P w=.ok u w'/\cX ⟨Prot.prot,λd=>Prot.dead d/\d≠b⟩ w0 ρ' H w'/\ar ρ' (.ptr (some ⟨b,l.length,0⟩)) u:=by
 obtain⟨z,h1,h2⟩:=oG h;have hnone:=(R.dead b hd).2;have hv:=h2 ρ;have hlen:l.length=z.cells.size:=by have:=aE.len hv;simpa using this
 obtain⟨q1,q2⟩:=R.claim' hd (w':=w.alloc (.cells z.cells t)) rfl rfl rfl (by simp) (λi hi=>RowKit.Below.heap_alloc _ _ _ hi) hx (o:=.cells z.cells t) (lim:=l.length) (n:=z.cells.size) (cl:=true) (by show(w.heap.push _)[w.heap.size]?=_;simp) (by simp only[gM];refine⟨z.cells,t,0,0,rfl,rfl,λ_=>⟨λi _=>om,Nat.le_refl _,λ_=>Nat.le_refl _⟩,Nat.le_refl _,λ_ i i1 i2=>?_⟩;have hx:l[i]?=some l[i]:=Xx i2;obtain⟨v,u1,u2⟩:=hv.nth _ _ hx;refine⟨_,v,hx,?_,ar.mono (sj λL' h'=>by rw[hnone]at h';simp at h') _ _ u2⟩;simpa using u1)
 refine⟨_,_,.pointer (some ⟨w.heap.size,0,none⟩),q1,?_,q2,?_⟩
 ·simp only[Instr.alloc,Sem.run_bind,h1,Result.andThen_ok,newVar];rfl
 ·simp only[ar];exact⟨_,iW _ _ _ _,Nat.zero_le _,rfl⟩
def yD(R:cX Prot w0 ρ H w)(t:TypeId){b:Nat}(hd:Prot.dead b)(hx:H.get b=some (.map [] 0)) :
  ∃ρ' w' u,ρ.le ρ'/\(Instr.makeMap t none).run P w=.ok u w'/\cX ⟨Prot.prot,λd=>Prot.dead d/\d≠b⟩ w0 ρ' H w'/\ar ρ' (.map (some b)) u:=by
 obtain⟨q1,q2⟩:=R.claim' hd (w':=w.alloc (.map #[] 0)) rfl rfl rfl (Array.size_push _) (λi hi=>by rw[World.alloc,Array.getElem?_push,if_neg (Nat.ne_of_lt hi)])
  hx (o:=.map #[] 0) (lim:=0) (n:=0) (cl:=false) (by rw[World.alloc,Array.getElem?_push,if_pos rfl]) (by simp only[gM];exact⟨trivial,#[],rfl,by simp[aP]⟩)
 refine⟨_,_,_,q1,RowKit.run_makeMap t w,q2,?_⟩;simp only[ar];exact⟨_,iW _ _ _ _,rfl⟩
def II(R:cX Prot w0 ρ H w){l:List ae}{C:Array Value}(t:TypeId)(hv:aE ρ l C.toList){b:Nat}(hd:Prot.dead b)(hx:H.get b=some (.cells l 0 false)) :
  ∃ρ',ρ.le ρ'/\cX ⟨Prot.prot,λd=>Prot.dead d/\d≠b⟩ w0 ρ' H (w.alloc (.cells C t))/\ρ' b l.length=some ⟨w.heap.size,0,C.size,true⟩:=by
 have hnone:=(R.dead b hd).2;have hlen:l.length=C.size:=by have:=aE.len hv;simpa using this
 obtain⟨q1,q2⟩:=R.claim' hd (w':=w.alloc (.cells C t)) rfl rfl rfl (by simp) (λi hi=>RowKit.Below.heap_alloc _ _ _ hi) hx (o:=.cells C t) (lim:=l.length) (n:=C.size) (cl:=true) (by show(w.heap.push _)[w.heap.size]?=_;simp) (by simp only[gM];refine⟨C,t,0,0,rfl,rfl,λ_=>⟨λi _=>om,Nat.le_refl _,λ_=>Nat.le_refl _⟩,Nat.le_refl _,λ_ i i1 i2=>?_⟩;have hx:l[i]?=some l[i]:=Xx i2;obtain⟨v,u1,u2⟩:=hv.nth _ _ hx;refine⟨_,v,hx,?_,ar.mono (sj λL' h'=>by rw[hnone]at h';simp at h') _ _ u2⟩;simpa using u1)
 exact⟨_,q1,q2,iW _ _ _ _⟩
end
end Go.Abs
namespace Go.Abs
structure aD where
 dst:Option Nat
 op:jz
 guard:Option (Nat×Bool)
def VN(b:Bool):ae->Bool
 | .bool c=>bif b then c else !c
 |_=>false
def pm(T:Tr ae):Option (Nat×Bool)->Bool
 |none=>true
 |some (t,b)=>VN b (ev T (.t t))
def ko(T:Tr ae):Option Nat->ae->Tr ae
 |some d,v=>T.set d v
 |none,_=>T
def d9:jz->Bool
 | .load .. | .claim ..=>true
 |_=>false
def my:jz->Bool
 | .mv _ | .pick .. | .build .. | .nilChk _ | .bin .. | .un .. | .conv .. | .mkFunc .. | .mkIface .. | .sl .. | .slStr .. | .fieldA .. | .field .. | .idxA .. | .idxArr .. | .idx .. | .idxS .. | .extract .. | .len .. | .pf .. | .slA ..=>true
 |_=>false
def aW(o:jz):Bool:=!(my o)&&!(d9 o)
def GD:bW->List Nat
 | .t i=>[i]
 |_=>[]
def BV:List bW->List Nat
 | []=>[]
 |x::r=>GD x++BV r
def IJ:Option bW->List Nat
 |none=>[]
 |some x=>GD x
def Ue:List (Nat×Nat×bW)->List Nat
 | []=>[]
 |(_,_,x)::r=>GD x++Ue r
def reads:jz->List Nat
 | .mv x | .box x | .load _ _ x | .nilChk x | .un _ x | .conv _ x | .convSB x | .convBS x | .mkIface _ x | .fieldA _ x | .field _ _ _ x | .extract _ x | .len _ x=>GD x
 | .pick c a b=>GD c++(GD a++GD b)
 | .new _=>[]
 | .build _ ps=>Ue ps
 | .buildSl _ _ ps=>Ue ps
 | .store _ a x | .bin _ a x | .mkSlice _ _ a x | .idxA _ a x | .idxArr _ _ a x | .idx _ _ _ a x | .idxS a x | .append _ _ a x=>GD a++GD x
 | .mkFunc _ a b=>BV a++BV b
 | .sl _ x a b c | .slA _ _ x a b c=>GD x++(IJ a++(IJ b++IJ c))
 | .slStr x a b=>GD x++(IJ a++IJ b)
 | .call _ l=>BV l
 | .callv f l=>GD f++BV l
 | .pf _ l | .hf _ l=>BV l
 | .bad | .claim _ _ _=>[]
def jn(o:aD):List Nat:=reads o.op++(match o.guard with|none=>[] | some (t,_)=>[t])
section
variable {tb:FuncId->Bool} {T T':Tr ae} {H H' H2:aa}
def bj{x:bW}(h:∀t∈GD x,T.get t=T'.get t):ev T x=ev T' x:=by
 cases x with
 |t i=>simp only[ev];rw[h i (by simp[GD])]
 |_=>rfl
def jE{l:List bW}(h:∀t∈BV l,T.get t=T'.get t):pF T l=pF T' l:=by
 induction l with
 |nil=>rfl
 |cons x r ih=>simp only[BV,List.mem_append]at h;simp only[pF];rw[bj λt ht=>h t (.inl ht),ih λt ht=>h t (.inr ht)]
def gU{x:Option bW}(h:∀t∈IJ x,T.get t=T'.get t):Hm T x=Hm T' x:=by
 cases x with
 |none=>rfl
 |some x=>simp only[Hm];rw[bj h]
def yT{l:List (Nat×Nat×bW)}(h:∀t∈Ue l,T.get t=T'.get t):Jg T l=Jg T' l:=by
 induction l with
 |nil=>rfl
 |cons x r ih=>obtain⟨a,b,x⟩:=x;simp only[Ue,List.mem_append]at h;simp only[Jg];rw[bj λt ht=>h t (.inl ht),ih λt ht=>h t (.inr ht)]
def zD{o:jz}(h:∀t∈reads o,T.get t=T'.get t):dZ tb T H o=dZ tb T' H o:=by
 cases o<;>simp only[reads,List.mem_append]at h<;>simp only[dZ]
 case mv x=>rw[bj h]
 case pick c a b=>rw[bj λt ht=>h t (.inl ht),bj (x:=a) λt ht=>h t (.inr (.inl ht)),bj (x:=b) λt ht=>h t (.inr (.inr ht))]
 case box x=>rw[bj h]
 case build z ps=>rw[yT h]
 case buildSl n z ps=>rw[yT h]
 case load a n x=>rw[bj h]
 case store n a x=>rw[bj λt ht=>h t (.inl ht),bj (x:=x) λt ht=>h t (.inr ht)]
 case nilChk x=>rw[bj h]
 case bin op a x=>rw[bj λt ht=>h t (.inl ht),bj (x:=x) λt ht=>h t (.inr ht)]
 case un op x=>rw[bj h]
 case conv k x=>rw[bj h]
 case convSB x=>rw[bj h]
 case convBS x=>rw[bj h]
 case mkFunc f a b=>rw[jE λt ht=>h t (.inl ht),jE (l:=b) λt ht=>h t (.inr ht)]
 case mkIface t x=>rw[bj h]
 case mkSlice b z a x=>rw[bj λt ht=>h t (.inl ht),bj (x:=x) λt ht=>h t (.inr ht)]
 case sl n x a b c=>rw[bj λt ht=>h t (.inl ht),gU (x:=a) λt ht=>h t (.inr (.inl ht)),gU (x:=b) λt ht=>h t (.inr (.inr (.inl ht))),gU (x:=c) λt ht=>h t (.inr (.inr (.inr ht)))]
 case slStr x a b=>rw[bj λt ht=>h t (.inl ht),gU (x:=a) λt ht=>h t (.inr (.inl ht)),gU (x:=b) λt ht=>h t (.inr (.inr ht))]
 case fieldA o x=>rw[bj h]
 case field a n o x=>rw[bj h]
 case idxA n a x=>rw[bj λt ht=>h t (.inl ht),bj (x:=x) λt ht=>h t (.inr ht)]
 case idxArr m n a x=>rw[bj λt ht=>h t (.inl ht),bj (x:=x) λt ht=>h t (.inr ht)]
 case idx m n g a x=>rw[bj λt ht=>h t (.inl ht),bj (x:=x) λt ht=>h t (.inr ht)]
 case idxS a x=>rw[bj λt ht=>h t (.inl ht),bj (x:=x) λt ht=>h t (.inr ht)]
 case extract i x=>rw[bj h]
 case append n b a x=>rw[bj λt ht=>h t (.inl ht),bj (x:=x) λt ht=>h t (.inr ht)]
 case len s x=>rw[bj h]
 case call f l=>rw[jE h]
 case callv f l=>rw[bj λt ht=>h t (.inl ht),jE (l:=l) λt ht=>h t (.inr ht)]
 case pf f l=>rw[jE h]
 case slA m n x a b c=>rw[bj λt ht=>h t (.inl ht),gU (x:=a) λt ht=>h t (.inr (.inl ht)),gU (x:=b) λt ht=>h t (.inr (.inr (.inl ht))),gU (x:=c) λt ht=>h t (.inr (.inr (.inr ht)))]
 case hf f l=>rw[jE h]
def qy{x:Option ae}{nx:Nx}(h:vv H x=some (nx,H')):H'=H/\(∃v,nx=.val v)/\∀H2,vv H2 x=some (nx,H2):=by
 cases x with
 |none=>simp[vv]at h
 |some v=>simp only[vv,sJ,pJ]at h;obtain⟨rfl,rfl⟩:=h;exact⟨rfl,⟨v,rfl⟩,λ_=>rfl⟩
def gG{o:jz}(hp:my o=true){nx:Nx}(h:dZ tb T H o=some (nx,H')):H'=H/\(∃v,nx=.val v)/\∀H2,dZ tb T H2 o=some (nx,H2):=by
 cases o<;>simp only[my,XJ]at hp<;>simp only[dZ]at h ⊢
 case mv x=>simp only[sJ,pJ]at h;obtain⟨rfl,rfl⟩:=h;exact⟨rfl,⟨_,rfl⟩,λ_=>rfl⟩
 case pick c a b=>
  split at h
  ·simp only[sJ,pJ]at h;obtain⟨rfl,rfl⟩:=h;exact⟨rfl,⟨_,rfl⟩,λ_=>rfl⟩
  ·simp at h
 case mkFunc f a b=>simp only[sJ,pJ]at h;obtain⟨rfl,rfl⟩:=h;exact⟨rfl,⟨_,rfl⟩,λ_=>rfl⟩
 case mkIface t x=>simp only[sJ,pJ]at h;obtain⟨rfl,rfl⟩:=h;exact⟨rfl,⟨_,rfl⟩,λ_=>rfl⟩
 all_goals exact qy h
def jS{o:jz}(hp:d9 o=true){nx:Nx}(h:dZ tb T H o=some (nx,H')):H'=H/\∃v,nx=.val v:=by
 cases o<;>simp only[d9,XJ]at hp
 case load=>simp only[dZ]at h;have:=qy h;exact⟨this.1,this.2.1⟩
 case claim=>simp only[dZ]at h;have:=qy h;exact⟨this.1,this.2.1⟩
end
end Go.Abs
namespace Go.Abs
section
variable (tb:FuncId->Bool) (call:FuncId->List ae->aa->Option (ae×aa))
def dh(o:aD)(T:Tr ae)(H:aa):Option (ae×aa):=
 bif pm T o.guard then
  match dZ tb T H o.op with
  |some (.val v,H')=>some (v,H')
  |some (.enter f args,H')=>call f args H'
  |none=>none
 else some (cF,H)
def eG:List aD->Tr ae->aa->Option (List (ae×aa))
 | [],_,_=>some []
 |o::r,T,H=>match dh tb call o T H with
  |some (v,H')=>match eG r (ko T o.dst v) H' with
   |some s=>some ((v,H')::s)
   |none=>none
  |none=>none
def lq(hs:List aa):List aD->List (List Nat)->List (ae×aa)->Tr ae->Bool
 |o::os,ps::pss,(v,_)::ss,T=>
  (ps.all λp=>match hs[p]? with
   |some Hp=>bif pm T o.guard then(match dZ tb T Hp o.op with|some (.val u,_)=>aeq u v|_=>false)else true
   |none=>false)&&lq hs os pss ss (ko T o.dst v)
 |_,_,_,_=>true
end
def cx(m:Nat->Bool):Nat->List aD->List (ae×aa)->Tr ae->Tr ae
 |i,o::os,(v,_)::ss,T=>cx m (i+1) os ss (bif m i then ko T o.dst v else T)
 |_,_,_,T=>T
def fX(H:aa)(ss:List (ae×aa)):Nat->aa
 |0=>H
 |j+1=>match ss[j]? with
  |some (_,H')=>H'
  |none=>H
def aI(m:Nat->Bool):Nat->List aD->Nat
 |i,[]=>i
 |i,o::r=>bif aW o.op&&!m i then i else aI m (i+1) r
def nO(T:Tr ae)(d:Option Nat)(v:ae)(t:Nat):(ko T d v).get t=if d=some t then some v else T.get t:=by
 cases d with
 |none=>simp[ko]
 |some d=>
  simp only[ko,Tr.get_set];by_cases e:t=d
  ·subst e;simp
  ·rw[if_neg e,if_neg (by intro q;simp at q;exact e q.symm)]
def gZ{m m':Nat->Bool}{t:Nat}:∀(l:List aD) (ss:List (ae×aa)) (k:Nat) (T T':Tr ae),T.get t=T'.get t ->
  (∀i o,l[i]?=some o->o.dst=some t->m (k+i)=m' (k+i))->(cx m k l ss T).get t=(cx m' k l ss T').get t:=by
 intro l;induction l with
 |nil=>intro ss k T T' h _;cases ss<;>exact h
 |cons o r ih=>
  intro ss k T T' h hm;cases ss with
  |nil=>exact h
  |cons s ss=>
   obtain⟨v,H'⟩:=s;simp only[cx];refine ih ss (k+1) _ _ ?_ λi o' h1 h2=>by have:=hm (i+1) o' (by simpa using h1) h2;rw[show k+1+i=k+(i+1) by omega];exact this
   by_cases hd:o.dst=some t
   ·have:=hm 0 o rfl hd;simp only[Nat.add_zero]at this;rw[this];cases m' k
    ·exact h
    ·simp only[cond_true,nO,hd,if_true]
   ·have e1:∀(b:Bool) (T:Tr ae),(bif b then ko T o.dst v else T).get t=T.get t:=λb T=>by
     cases b
     ·rfl
     ·simp only[cond_true,nO,if_neg hd]
    rw[e1,e1,h]
def sq{m:Nat->Bool}{t:Nat}:∀(l:List aD) (ss:List (ae×aa)) (k j:Nat) (T:Tr ae) (o:aD) (v:ae) (H':aa),l[j]?=some o->ss[j]?=some (v,H')->o.dst=some t->m (k+j)=true ->
  (∀i o',j<i->l[i]?=some o'->o'.dst=some t->m (k+i)=false)->(cx m k l ss T).get t=some v:=by
 intro l;induction l with
 |nil=>intro ss k j T o v H' h;simp at h
 |cons o r ih=>
  intro ss k j T o' v H' h1 h2 h3 h4 h5;cases ss with
  |nil=>simp at h2
  |cons s ss=>
   obtain⟨u,H1⟩:=s;simp only[cx];cases j with
   |zero=>
    simp only[XH,sJ,pJ]at h1 h2;obtain⟨rfl,rfl⟩:=h2;subst h1;simp only[Nat.add_zero]at h4;rw[h4];have:=gZ (m:=m) (m':=λ_=>false) (t:=t) r ss (k+1) (bif true then ko T o.dst u else T) (ko T o.dst u) rfl λi o' q1 q2=>by have:=h5 (i+1) o' om (by simpa using q1) q2;rw[show k+1+i=k+(i+1) by omega];exact this
    rw[this];have hn:∀(l:List aD) (ss:List (ae×aa)) (k:Nat) (T:Tr ae),cx (λ_=>false) k l ss T=T:=by
     intro l;induction l with
     |nil=>intro ss k T;cases ss<;>rfl
     |cons o r ih=>intro ss k T;cases ss with
      |nil=>rfl
      |cons s ss=>obtain⟨a,b⟩:=s;simp only[cx,cond_false,ih]
    rw[hn,nO,if_pos h3]
   |succ j=>refine ih ss (k+1) j _ o' v H' (by simpa using h1) (by simpa using h2) h3 (by rw[show k+1+j=k+(j+1) by omega];exact h4) λi o2 q0 q1 q2=>?_;rw[show k+1+i=k+(i+1) by omega];exact h5 (i+1) o2 om (by simpa using q1) q2
section
variable {tb:FuncId->Bool} {call:FuncId->List ae->aa->Option (ae×aa)}
def jJ:∀(l:List aD) (T:Tr ae) (H:aa) (ss:List (ae×aa)) (k:Nat),eG tb call l T H=some ss ->
  ss.length=l.length/\∀j o,l[j]?=some o->∃v H',ss[j]?=some (v,H')/\dh tb call o (cx (λi=>Nat.blt i (k+j)) k l ss T) (fX H ss j)=some (v,H'):=by
 intro l;induction l with
 |nil=>intro T H ss k h;simp only[eG,sJ]at h;subst h;exact⟨rfl,λj o h=>by simp at h⟩
 |cons o r ih=>
  intro T H ss k h;simp only[eG]at h;split at h
  ·rename_i v H' hs;split at h
   ·rename_i s hr;simp only[sJ]at h;subst h;obtain⟨h1,h2⟩:=ih _ _ _ (k+1) hr;refine⟨by simp[h1],λj o' hj=>?_⟩;cases j with
    |zero=>
     simp only[XH,sJ]at hj;subst hj;refine⟨v,H',rfl,?_⟩;have e:cx (λi=>Nat.blt i (k+0)) k (o::r) ((v,H')::s) T=T:=by
      have hn:∀(l:List aD) (ss:List (ae×aa)) (k':Nat) (T:Tr ae),k<=k'->cx (λi=>Nat.blt i (k+0)) k' l ss T=T:=by
       intro l;induction l with
       |nil=>intro ss k' T _;cases ss<;>rfl
       |cons o r ih=>intro ss k' T hk;cases ss with
        |nil=>rfl
        |cons s ss=>
         obtain⟨a,b⟩:=s;have:Nat.blt k' (k+0)=false:=by
          cases hb:Nat.blt k' (k+0)with
          |false=>rfl
          |true=>have:=XD hb;omega
         simp only[cx,this,cond_false];exact ih ss (k'+1) T om
      exact hn _ _ k T rL
     rw[e];exact hs
    |succ j=>
     simp only[XI]at hj;obtain⟨u,H2,q1,q2⟩:=h2 j o' hj;refine⟨u,H2,by simpa using q1,?_⟩;have hb:Nat.blt k (k+(j+1))=true:=by show Nat.ble (k+1) (k+(j+1))=true;exact Xz om
     simp only[cx,hb,cond_true];rw[show k+(j+1)=k+1+j by omega];have hh:fX H ((v,H')::s) (j+1)=fX H' s j:=by
      cases j with
      |zero=>rfl
      |succ j=>
       simp only[fX,XI];have:j<s.length:=by have:=(Xy.1 hj).1;omega
       rw[Xx this]
     rw[hh];exact q2
   ·simp at h
  ·simp at h
end
end Go.Abs
namespace Go.Abs
def cR(o:Oper):List Nat:=(o.after.toList.filter (Region.binds .any)).map (·.on)
def K0(ms:List Nat):List Nat->Nat
 | []=>0
 |e::r=>(1 <<< e) ||| (ms.getD e 0) ||| K0 ms r
def dX(acc:List Nat):List (List Nat)->List Nat
 | []=>acc
 |es::r=>dX (acc++[K0 acc es]) r
def mQ(ms:List Nat)(j i:Nat):Bool:=Nat.blt i j&&(ms.getD j 0).testBit i
def qh{ms:List Nat}{j i:Nat}(h:mQ ms j i=true):i<j:=by unfold mQ at h;rw[XA]at h;exact XD h.1
def kZ(es:List (List Nat))(ms:List Nat):Bool:=(List.range es.length).all λj=>(es.getD j []).all (λe=>Nat.blt e j)&&(List.range j).all λi=>!mQ ms j i||(es.getD j []).any λe=>Nat.beq e i||(Nat.blt i e&&mQ ms e i)
def xH(a b:aD):Bool:=
 (match a.dst with|none=>true|some d=>!(jn b).contains d&&!(b.dst==some d))&&(match b.dst with|none=>true|some d=>!(jn a).contains d)
def jQ(ms:List Nat)(i j:Nat)(a b:aD):Bool:=mQ ms j i||(!(aW a.op&&aW b.op)&&xH a b)
def kG(l:List aD)(ms:List Nat):Bool:=
 (List.range l.length).all λj=>match l[j]? with
  |some b=>(List.range j).all λi=>match l[i]? with
   |some a=>jQ ms i j a b
   |none=>true
  |none=>true
def oW(l:List aD)(p:Nat):Bool:=match l[p]? with|some o=>aW o.op|none=>Nat.beq p l.length
def yC(l:List aD)(ms:List Nat)(j p:Nat):Bool:=
 oW l p&&(List.range l.length).all λc=>match l[c]? with
  |some o=>!aW o.op||(bif Nat.blt c p then !mQ ms c j else !mQ ms j c)
  |none=>true
def tP(l:List aD)(j p:Nat):Bool:=Nat.ble j p&&(List.range p).all λc=>Nat.blt c j||(match l[c]? with|some o=>!aW o.op|none=>true)
def ii(l:List aD)(ms:List Nat)(j:Nat):List Nat:=
 match l[j]? with
 |some o=>bif d9 o.op then(List.range (l.length+1)).filter (λp=>!tP l j p&&yC l ms j p)else []
 |none=>[]
def tU{es:List (List Nat)}{ms:List Nat}(h:kZ es ms=true){m:Nat->Bool}(hm:∀j,j<es.length->m j=true->∀e∈es.getD j [],m e=true) :
  ∀j,j<es.length->(∀e∈es.getD j [],m e=true)->∀i,i<j->mQ ms j i=true->m i=true:=by
 intro j;induction j using Nat.strongRecOn with
 |_ j ih=>
  intro hj hr i hi hb;unfold kZ at h;rw[List.all_eq_true]at h;have h1:=h j (List.mem_range.2 hj);simp only[XA,List.all_eq_true,List.mem_range,Bool.or_eq_true,Bool.not_eq_true',List.any_eq_true]at h1;obtain⟨h2,h3⟩:=h1;rcases h3 i hi with h4|⟨e,he,h5⟩
  ·rw[hb]at h4;simp at h4
  ·have hej:e<j:=XD (h2 e he);rcases h5 with h5|⟨h5,h6⟩
   ·rw[<- nb h5];exact hr e he
   ·exact ih e hej om (hm e om (hr e he)) i (XD h5) h6
section
variable (P:Program)
def lL(n:Nat):Option Nat->Bool
 |none=>true
 |some d=>Nat.blt d n
def qg(n:Nat)(ops:Array Oper):Option (Nat×Bool)->Option (Option (Nat×Bool))
 |none=>some none
 |some (j,b)=>match (ops[j]?).bind (·.dst)with
  |some d=>bif Nat.blt d n then some (some (d,b))else none
  |none=>none
def jj(n:Nat)(ops:Array Oper)(o:Oper):Option aD:=
 match AN P o.op,qg n ops o.guard with
 |some a,some g=>bif lL n o.dst then some ⟨o.dst,a,g⟩else none
 |_,_=>none
def dL(n:Nat)(ops:Array Oper):List Oper->Option (List aD)
 | []=>some []
 |o::r=>match jj P n ops o,dL n ops r with
  |some a,some l=>some (a::l)
  |_,_=>none
end
section
variable {P:Program} {Prot:Gh} {w0:World} {ρ:Pl} {H H':aa} {w:World}
def dq{n:Nat}{T:Tr ae}{a:Act}(h:bY ρ n T a.tmps){dst:Option Nat}(hd:lL n dst=true){x:ae}{v:Value}(hx:ar ρ x v):bY ρ n (ko T dst x) (a.put dst v).tmps:=by
 cases dst with
 |none=>exact h
 |some d=>
  have hd:d<n:=XD hd;refine⟨by simp[Act.put,h.size],λt=>?_⟩;simp only[ko,ev,Tr.get_set,Act.put];by_cases e:t=d
  ·subst e;rw[if_pos rfl];have:t<a.tmps.size:=by rw[h.size];exact hd
   simpa[this]using hx
  ·rw[if_neg e];have:=h.at_ t;simp only[ev]at this;rw[Array.getD_eq_getD_getElem?,Array.getElem?_setIfInBounds_ne (λq=>e q.symm),<- Array.getD_eq_getD_getElem?];exact this
def iC:ar ρ cF undef:=by simp only[cF,ar,undef];exact⟨#[],rfl,by simp[aE]⟩
def Pe{x:ae}{b:Bool}(h:ar ρ x (.bool b)):x=.bool b:=by
 cases x with
 |bool c=>simp only[ar,Value.bool.injEq]at h;rw[h]
 |ptr a=>cases a<;>simp[ar]at h
 |slice a n r=>cases a with
  |none=>simp[ar]at h
  |some a=>simp only[ar]at h;obtain⟨L,_,_,h⟩:=h;cases r<;>simp[cJ]at h
 |map a=>cases a<;>simp[ar]at h
 |val x=>simp only[ar]at h;obtain⟨rfl,h⟩:=h;simp[VL]at h
 |_=>simp[ar]at h
def nN{n:Nat}{T:Tr ae}{a:Act}(h:bY ρ n T a.tmps){ops:Array Oper}{o:Oper}{g:Option (Nat×Bool)}(hg:qg n ops o.guard=some g):Region.wanted o (yielded ops a.tmps)=pm T g:=by
 unfold Region.wanted;cases ho:o.guard with
 |none=>rw[ho]at hg;simp only[qg,sJ]at hg;subst hg;rfl
 |some jb=>
  obtain⟨j,b⟩:=jb;rw[ho]at hg;simp only[qg]at hg;split at hg
  ·rename_i d hd;cases hb:Nat.blt d n with
   |false=>rw[hb]at hg;simp at hg
   |true=>
    rw[hb]at hg;simp only[cond_true,sJ]at hg;subst hg;have hlt:d<a.tmps.size:=by rw[h.size];exact XD hb
    have hat:=h.at_ d;simp only[yielded,hd,Option.bind_some,pm];rw[Array.getElem?_eq_getElem hlt];have e:a.tmps.getD d undef=a.tmps[d]:=by simp[hlt]
    rw[e]at hat
    cases hv:a.tmps[d]with
    |bool c=>
     rw[hv]at hat
     rw[Pe hat];cases b<;>cases c<;>rfl
    |_=>
     rw[hv]at hat
     cases hT:ev T (.t d)with
     |bool c=>rw[hT]at hat;simp[ar]at hat
     |_=>rfl
  ·simp at hg
def oE(P:Program)(call:FuncId->List ae->aa->Option (ae×aa)):Prop:=
 ∀f args H v H',Nat.blt f mT=true->call f args H=some (v,H')->∀Prot w0 ρ w (vs:Array Value),cX Prot w0 ρ H w->aE ρ args vs.toList ->
  Calls P f vs w λe w'=>∃ρ' u,ρ.le ρ'/\e=.returned u/\cX Prot w0 ρ' H' w'/\ar ρ' v u
end
def B2{P:Program}{n:Nat}{ops:Array Oper}:∀{rest:List Oper} {l:List aD},dL P n ops rest=some l->l.length=rest.length/\∀(j:Nat) (o:Oper),rest[j]?=some o->∃a,l[j]?=some a/\jj P n ops o=some a:=by
 intro rest;induction rest with
 |nil=>intro l h;simp only[dL,sJ]at h;subst h;exact⟨rfl,λj o h=>by simp at h⟩
 |cons o r ih=>
  intro l h;simp only[dL]at h;split at h
  ·rename_i a l' h1 h2;simp only[sJ]at h;subst h;obtain⟨q1,q2⟩:=ih h2;refine⟨by simp[q1],λj o' hj=>?_⟩;cases j with
   |zero=>simp only[XH,sJ]at hj;subst hj;exact⟨a,rfl,h1⟩
   |succ j=>simpa using q2 j o' (by simpa using hj)
  ·simp at h
def fw(m:Nat->Bool):∀(l:List aD) (k:Nat),k<=aI m k l/\aI m k l<=k+l.length/\(∀c o,l[c]?=some o->aW o.op=true->k+c<aI m k l->m (k+c)=true) /\
  (∀o,aI m k l<k+l.length->l[aI m k l-k]?=some o->aW o.op=true/\m (aI m k l)=false):=by
 intro l;induction l with
 |nil=>intro k;exact⟨Nat.le_refl _,Nat.le_refl _,λc o h=>by simp at h,λo h=>by simp[aI]at h⟩
 |cons o r ih=>
  intro k;simp only[aI];cases hb:(aW o.op&&!m k)with
  |true=>simp only[cond_true,XA,Bool.not_eq_true']at hb ⊢;refine⟨Nat.le_refl _,by simp,λc o' _ _ h=>om,λo' _ h=>?_⟩;simp only[Nat.sub_self,XH,sJ]at h;subst h;exact hb
  |false=>
   simp only[cond_false];obtain⟨h1,h2,h3,h4⟩:=ih (k+1);refine⟨om,by simp only[XB];omega,λc o' hc hch hlt=>?_,λo' hlt ho=>?_⟩
   ·cases c with
    |zero=>simp only[XH,sJ]at hc;subst hc;rw[hch]at hb;simpa using hb
    |succ c=>rw[show k+(c+1)=k+1+c by omega];exact h3 c o' (by simpa using hc) hch om
   ·simp only[XB]at hlt;refine h4 o' om ?_;rw[show aI m (k+1) r-k=(aI m (k+1) r-(k+1))+1 by omega]at ho;simpa using ho
end Go.Abs
namespace Go.Abs
def dT:jz->Option (List ae×Option (Nat×Nat))
 | .new z=>some (z,none)
 | .hf (.fill _ _) _=>some ([],none)
 | .hf .mkMap []=>some ([],some (1,0))
 |_=>none
def AG(b:Nat)(z:List ae)(s:Option (Nat×Nat)):jz->jz
 | .hf (.fill _ k) xs=>.hf (.fill b k) xs
 |_=>.claim b z s
def fD:jz->Bool
 | .hf (.fill _ _) _=>true
 |_=>false
def HA{b:Nat}{z:List ae}{s:Option (Nat×Nat)}{o:jz}(h:fD o=false):AG b z s o=.claim b z s:=by
 unfold AG;split
 ·simp[fD]at h
 ·rfl
def aH:Nat->List aD->List aD
 |_,[]=>[]
 |b,o::r=>match dT o.op with
  |some (z,s)=>⟨o.dst,AG b z s o.op,o.guard⟩::aH (b+1) r
  |none=>o::aH b r
def bp:aa->List aD->aa
 |H,[]=>H
 |H,o::r=>match dT o.op with
  |some (z,s)=>bp (H.push (xA z s)) r
  |none=>bp H r
structure xh(a b:aD):Prop where
 dst:a.dst=b.dst
 chain:aW a.op=aW b.op
 load:d9 a.op=d9 b.op
 reads:jn a=jn b
def xh.refl(a:aD):xh a a:=⟨rfl,rfl,rfl,rfl⟩
structure tD(l m:List aD):Prop where
 len:l.length=m.length
 at_:∀(i:Nat) (a:aD),l[i]?=some a->∃b,m[i]?=some b/\xh a b
def tD.cons{a b:aD}{l m:List aD}(h:xh a b)(k:tD l m):tD (a::l) (b::m):=by
 refine⟨by simp[k.len],λi x hx=>?_⟩;cases i with
 |zero=>simp at hx;subst hx;exact⟨b,by simp,h⟩
 |succ i=>simp at hx;simpa using k.at_ i x hx
def kN:∀(l:List aD) (b c:Nat),tD (aH b l) (aH c l)
 | [],b,c=>⟨rfl,λi a h=>by simp[aH]at h⟩
 |o::r,b,c=>by
  simp only[aH];cases dT o.op with
  |none=>exact tD.cons (xh.refl _) (kN r _ _)
  |some p=>obtain⟨z,s⟩:=p;refine tD.cons ?_ (kN r _ _);unfold AG;split<;>exact⟨rfl,rfl,rfl,rfl⟩
def tD.none{l m:List aD}(h:tD l m){i:Nat}(hi:l[i]?=none):m[i]?=none:=by rw[List.getElem?_eq_none_iff]at hi ⊢;rw[<- h.len];exact hi
def Ca{ms:List Nat}{i j:Nat}{a b a' b':aD}(h:xh a a')(k:xh b b'):jQ ms i j a b=jQ ms i j a' b':=by unfold jQ xH;rw[h.chain,k.chain,h.dst,k.dst,h.reads,k.reads]
def Ai{l m:List aD}(h:tD l m)(ms:List Nat):kG l ms=kG m ms:=by
 unfold kG;rw[h.len];congr 1;funext j;cases hj:l[j]? with
 |none=>rw[h.none hj]
 |some b=>
  obtain⟨b',hb',kb⟩:=h.at_ j b hj;rw[hb'];simp only;congr 1;funext i;cases hi:l[i]? with
  |none=>rw[h.none hi]
  |some a=>obtain⟨a',ha',ka⟩:=h.at_ i a hi;rw[ha'];simp only;exact Ca ka kb
def Av{l m:List aD}(h:tD l m)(p:Nat):oW l p=oW m p:=by
 unfold oW;cases hj:l[p]? with
 |none=>rw[h.none hj,h.len]
 |some b=>obtain⟨b',hb',kb⟩:=h.at_ p b hj;rw[hb'];exact kb.chain
def EF{l m:List aD}(h:tD l m)(ms:List Nat)(j p:Nat):yC l ms j p=yC m ms j p:=by
 unfold yC;rw[Av h,h.len];congr 2;funext c;cases hj:l[c]? with
 |none=>rw[h.none hj]
 |some b=>obtain⟨b',hb',kb⟩:=h.at_ c b hj;rw[hb'];simp only[kb.chain]
def Eo{l m:List aD}(h:tD l m)(j p:Nat):tP l j p=tP m j p:=by
 unfold tP;congr 2;funext c;cases hj:l[c]? with
 |none=>rw[h.none hj]
 |some b=>obtain⟨b',hb',kb⟩:=h.at_ c b hj;rw[hb'];simp only[kb.chain]
def wL{l m:List aD}(h:tD l m)(ms:List Nat)(j:Nat):ii l ms j=ii m ms j:=by
 unfold ii;cases hj:l[j]? with
 |none=>rw[h.none hj]
 |some b=>obtain⟨b',hb',kb⟩:=h.at_ j b hj;rw[hb'];simp only[kb.load,h.len];congr 1;congr 1;funext p;rw[Eo h,EF h]
def AH{P:Program}{c:Call}{z:List ae}(h:lP P c=some (.new z)):False:=by
 unfold lP at h
 repeat' split at h
 all_goals first
  |(simp at h;done)
  |(cases hb:(Nat.beq _ _&&pY P _)<;>simp[hb]at h;done)
  |skip
 all_goals (revert h;intro h;simp only[cond_eq_ite]at h;split at h<;>simp at h)
def AL{P:Program}{o:Op}{z:List ae}(h:tv P o=some (.new z)):False:=by
 unfold tv at h
 repeat' split at h
 all_goals first
  |(simp at h;done)
  |(simp only[cond_eq_ite]at h;split at h<;>first|(simp at h;done)|(split at h<;>simp at h))
def KW{P:Program}{o:Op}{z:List ae}(h:AN P o=some (.new z)):∃e,o=.alloc e/\gX P e=some z:=by
 unfold AN at h;split at h
 ·rename_i a ha;simp only[sJ]at h;subst h;exact(AL ha).elim
 ·split at h
  ·rename_i a ha;simp only[sJ]at h;subst h;cases o<;>simp only[C3,reduceCtorEq]at ha
   case alloc e _=>
    split at ha
    ·rename_i z' hz;simp only[sJ,jz.new.injEq]at ha;subst ha;exact⟨e,rfl,hz⟩
    ·simp at ha
   case call c=>exact(AH ha).elim
   all_goals
    exfalso
    repeat' split at ha
    all_goals first
     |(simp at ha;done)
     |(simp only[cond_eq_ite]at ha;split at ha<;>simp at ha)
  ·simp at h
def CZ{P:Program}{c:Call}{l:List bW}(h:lP P c=some (.hf .mkMap l)):False:=by
 unfold lP at h
 repeat' split at h
 all_goals first
  |(simp at h;done)
  |(cases hb:(Nat.beq _ _&&pY P _)<;>simp[hb]at h;done)
  |skip
 all_goals (revert h;intro h;simp only[cond_eq_ite]at h;split at h<;>simp at h)
def OV{P:Program}{o:Op}{l:List bW}(h:tv P o=some (.hf .mkMap l)):∃t,o=.makeMap t none:=by
 unfold tv at h;split at h
 all_goals first
  |exact⟨_,rfl⟩
  |exfalso
 all_goals
  repeat' split at h
  all_goals first
   |(simp at h;done)
   |(simp only[cond_eq_ite]at h;split at h<;>first|(simp at h;done)|(split at h<;>simp at h))
def P3{P:Program}{o:Op}{l:List bW}(h:AN P o=some (.hf .mkMap l)):∃t,o=.makeMap t none:=by
 unfold AN at h;split at h
 ·rename_i a ha;simp only[sJ]at h;subst h;exact OV ha
 ·split at h
  ·rename_i a ha;simp only[sJ]at h;subst h;cases o<;>simp only[C3,reduceCtorEq]at ha
   case call c=>exact(CZ ha).elim
   all_goals
    exfalso
    repeat' split at ha
    all_goals first
     |(simp at ha;done)
     |(simp only[cond_eq_ite]at ha;split at ha<;>simp at ha)
  ·simp at h
def AY(P:Program)(o:Op)(z:List ae)(s:Option (Nat×Nat)):Prop:=
 (∃e,o=.alloc e/\gX P e=some z/\s=none) ∨
 ∃t,o=.makeMap t none/\z=[]/\s=some (1,0)
def xK{P:Program}{c:Call}{b:Nat}{k:lX}{xs:List bW}(h:lP P c=some (.hf (.fill b k) xs)):False:=by
 unfold lP at h
 repeat' split at h
 all_goals first
  |(simp at h;done)
  |(simp only[cond_eq_ite]at h;split at h<;>simp at h)
def xN{P:Program}{o:Op}{b:Nat}{k:lX}{xs:List bW}(h:tv P o=some (.hf (.fill b k) xs)):False:=by
 unfold tv at h
 repeat' split at h
 all_goals first
  |(simp at h;done)
  |(simp only[cond_eq_ite]at h;split at h<;>first|(simp at h;done)|(split at h<;>simp at h))
def rH{P:Program}{o:Op}{b:Nat}{k:lX}{xs:List bW}(h:AN P o=some (.hf (.fill b k) xs)):False:=by
 unfold AN at h;split at h
 ·rename_i a ha;simp only[sJ]at h;subst h;exact xN ha
 ·split at h
  ·rename_i a ha;simp only[sJ]at h;subst h;cases o<;>simp only[C3,reduceCtorEq]at ha
   case call c _=>exact xK ha
   all_goals
    exfalso
    repeat' split at ha
    all_goals first
     |(simp at ha;done)
     |(simp only[cond_eq_ite]at ha;split at ha<;>simp at ha)
  ·simp at h
def wN{P:Program}{o:Op}{a:jz}(h:AN P o=some a):fD a=false:=by
 unfold fD;split
 ·exact(rH h).elim
 ·rfl
def KX{P:Program}{o:Op}{a:jz}{z:List ae}{s:Option (Nat×Nat)}(h:AN P o=some a)(hn:dT a=some (z,s)):AY P o z s:=by
 unfold dT at hn;split at hn
 ·simp only[sJ,pJ]at hn;obtain⟨rfl,rfl⟩:=hn;obtain⟨e,he,hz⟩:=KW h;exact .inl ⟨e,he,hz,rfl⟩
 ·exact(rH h).elim
 ·simp only[sJ,pJ]at hn;obtain⟨rfl,rfl⟩:=hn;obtain⟨t,ht⟩:=P3 h;exact .inr ⟨t,ht,rfl,rfl⟩
 ·simp at hn
def Nb(P:Program)(n:Nat)(ops:Array Oper)(o:Oper)(a:aD)(b:Nat):Prop:=∃z s g,AY P o.op z s/\qg n ops o.guard=some g/\lL n o.dst=true/\a=⟨o.dst,.claim b z s,g⟩
def yZ{P:Program}{n:Nat}{ops:Array Oper}:∀{rest:List Oper} {l:List aD},dL P n ops rest=some l->∀b,(aH b l).length=rest.length /\
  ∀(j:Nat) (o:Oper),rest[j]?=some o->∃a,(aH b l)[j]?=some a/\(jj P n ops o=some a∨∃c,b<=c/\Nb P n ops o a c):=by
 intro rest;induction rest with
 |nil=>intro l h b;simp only[dL,sJ]at h;subst h;exact⟨rfl,λj o h=>by simp at h⟩
 |cons o r ih=>
  intro l h b;simp only[dL]at h;split at h
  ·rename_i a l' ha hl';simp only[sJ]at h;subst h;have key:∀(x:aD) (b':Nat),b<=b'->(jj P n ops o=some x∨∃c,b<=c/\Nb P n ops o x c)->aH b (a::l')=x::aH b' l' ->
     (aH b (a::l')).length=(o::r).length/\∀(j:Nat) (o':Oper),(o::r)[j]?=some o'->∃a',(aH b (a::l'))[j]?=some a'/\(jj P n ops o'=some a'∨∃c,b<=c/\Nb P n ops o' a' c):=by
    intro x b' hb hx he;rw[he];obtain⟨i1,i2⟩:=ih hl' b';refine⟨by simp[i1],λj o' hj=>?_⟩;cases j with
    |zero=>simp at hj;subst hj;exact⟨x,by simp,hx⟩
    |succ j=>
     simp at hj;obtain⟨a',h1,h2⟩:=i2 j o' hj;refine⟨a',by simpa using h1,?_⟩;rcases h2 with h2|⟨c,h2,h3⟩
     ·exact .inl h2
     ·exact .inr ⟨c,om,h3⟩
   cases hop:dT a.op with
   |some p=>
    obtain⟨z,s⟩:=p;refine key ⟨a.dst,AG b z s a.op,a.guard⟩ (b+1) om ?_ (by simp only[aH,hop]);unfold jj at ha;split at ha
    ·rename_i ax g hopc hg;cases hdst:lL n o.dst with
     |false=>rw[hdst]at ha;simp at ha
     |true=>rw[hdst]at ha;simp only[cond_true,sJ]at ha;subst ha;rw[HA (wN hopc)];exact .inr ⟨b,Nat.le_refl _,z,s,g,KX hopc hop,hg,hdst,rfl⟩
    ·simp at ha
   |none=>exact key a b rL (.inl ha) (by simp only[aH,hop])
  ·simp at h
end Go.Abs
namespace Go.Abs
def zV(m:Nat->Bool):Nat->Nat
 |0=>0
 |n+1=>zV m n+(bif m n then 0 else 1)
def vg{m:Nat->Bool}:∀{n:Nat},zV m n=0->∀i,i<n->m i=true
 |0,_,i,h=>om
 |n+1,h,i,hi=>by
  simp only[zV]at h;cases hb:m n with
  |true=>
   by_cases e:i=n
   ·rw[e];exact hb
   ·exact vg (n:=n) (by rw[hb]at h;simpa using h) i om
  |false=>rw[hb]at h;simp at h
def zT{m:Nat->Bool}:∀{n:Nat},(∀i,i<n->m i=true)->zV m n=0
 |0,_=>rfl
 |n+1,h=>by simp only[zV,zT (n:=n) λi hi=>h i om,h n om,cond_true]
def Bo{m m':Nat->Bool}:∀{n:Nat},(∀i,i<n->m i=m' i)->zV m n=zV m' n
 |0,_=>rfl
 |n+1,h=>by simp only[zV,Bo (n:=n) λi hi=>h i om,h n om]
def zS{m m':Nat->Bool}{i:Nat}:∀{n:Nat},i<n->m i=false->m' i=true->(∀j,j≠i->m' j=m j)->zV m' n+1=zV m n
 |0,h,_,_,_=>om
 |n+1,h,h1,h2,h3=>by
  simp only[zV];by_cases e:i=n
  ·subst e;rw[h1,h2,Bo (m:=m') (m':=m) λj hj=>h3 j om];simp
  ·have:=zS (n:=n) om h1 h2 h3;rw[h3 n (λq=>e q.symm)];omega
section
variable {tb:FuncId->Bool} {call:FuncId->List ae->aa->Option (ae×aa)}
def Mb{hs:List aa}:∀(l:List aD) (pss:List (List Nat)) (ss:List (ae×aa)) (T:Tr ae) (k:Nat),lq tb hs l pss ss T=true ->
  ∀j o ps v H',l[j]?=some o->pss[j]?=some ps->ss[j]?=some (v,H')->∀p∈ps,∃Hp,hs[p]?=some Hp /\
   (pm (cx (λi=>Nat.blt i (k+j)) k l ss T) o.guard=true->∃H2,dZ tb (cx (λi=>Nat.blt i (k+j)) k l ss T) Hp o.op=some (.val v,H2)):=by
 intro l;induction l with
 |nil=>intro pss ss T k _ j o ps v H' h;simp at h
 |cons o r ih=>
  intro pss ss T k h j o' ps v H' h1 h2 h3 p hp;cases pss with
  |nil=>simp at h2
  |cons ps0 pss=>
   cases ss with
   |nil=>simp at h3
   |cons s ss=>
    obtain⟨u,H1⟩:=s;simp only[lq,XA,List.all_eq_true]at h;cases j with
    |zero=>
     simp only[XH,sJ,pJ]at h1 h2 h3;subst h1 h2;obtain⟨rfl,rfl⟩:=h3;have e:cx (λi=>Nat.blt i (k+0)) k (o::r) ((u,H1)::ss) T=T:=by
      have hn:∀(l:List aD) (ss:List (ae×aa)) (k':Nat) (T:Tr ae),k<=k'->cx (λi=>Nat.blt i (k+0)) k' l ss T=T:=by
       intro l;induction l with
       |nil=>intro ss k' T _;cases ss<;>rfl
       |cons o r ih=>intro ss k' T hk;cases ss with
        |nil=>rfl
        |cons s ss=>
         obtain⟨a,b⟩:=s;have:Nat.blt k' (k+0)=false:=by
          cases hb:Nat.blt k' (k+0)with
          |false=>rfl
          |true=>have:=XD hb;omega
         simp only[cx,this,cond_false];exact ih ss (k'+1) T om
      exact hn _ _ k T rL
     rw[e];have:=h.1 p hp;split at this
     ·rename_i Hp hHp;refine⟨Hp,hHp,λhg=>?_⟩;rw[hg]at this;simp only[cond_true]at this;split at this
      ·rename_i x H2 hx;rw[FT _ _ this]at hx;exact⟨H2,hx⟩
      ·simp at this
     ·simp at this
    |succ j=>
     simp only[XI]at h1 h2 h3;have hb:Nat.blt k (k+(j+1))=true:=by show Nat.ble (k+1) (k+(j+1))=true;exact Xz om
     simp only[cx,hb,cond_true];rw[show k+(j+1)=k+1+j by omega];exact ih pss ss (ko T o.dst u) (k+1) h.2 j o' ps v H' h1 h2 h3 p hp
def Iz{o:aD}{T:Tr ae}{H H':aa}{v:ae}(hc:aW o.op=false)(h:dh tb call o T H=some (v,H')):H'=H:=by
 unfold dh at h;cases hg:pm T o.guard with
 |false=>rw[hg]at h;simp only[cond_false,sJ,pJ]at h;exact h.2.symm
 |true=>
  rw[hg]at h;simp only[cond_true]at h;have hk:my o.op=true∨d9 o.op=true:=by unfold aW at hc;cases h1:my o.op<;>cases h2:d9 o.op<;>simp_all
  split at h
  ·rename_i u H1 hu;simp only[sJ,pJ]at h;obtain⟨rfl,rfl⟩:=h;rcases hk with hk|hk
   ·exact(gG hk hu).1
   ·exact(jS hk hu).1
  ·rename_i f args H1 hu;rcases hk with hk|hk
   ·obtain⟨_,⟨v,hv⟩,_⟩:=gG hk hu;simp at hv
   ·obtain⟨_,v,hv⟩:=jS hk hu;simp at hv
  ·simp at h
def eT{l:List aD}{T0:Tr ae}{H0:aa}{ss:List (ae×aa)}(htr:eG tb call l T0 H0=some ss):∀(d p:Nat),p+d<=l.length->(∀c o,p<=c->c<p+d->l[c]?=some o->aW o.op=false)->fX H0 ss (p+d)=fX H0 ss p:=by
 intro d;induction d with
 |zero=>intro p _ _;rfl
 |succ d ih=>intro p hp hn;have h1:=ih p om λc o h1 h2 h3=>hn c o h1 om h3;obtain⟨_,hat⟩:=jJ l T0 H0 ss 0 htr;have ho:l[p+d]?=some l[p+d]:=Xx om;obtain⟨v,H',q1,q2⟩:=hat _ _ ho;have:=Iz (hn _ _ om om ho) q2;rw[<- h1];show fX H0 ss (p+d+1)=_;simp only[fX,q1];exact this
end
def kw{m m':Nat->Bool}:∀(l:List aD) (k:Nat),(∀c o,l[c]?=some o->aW o.op=true->m (k+c)=m' (k+c))->aI m k l=aI m' k l:=by
 intro l;induction l with
 |nil=>intro k _;rfl
 |cons o r ih=>
  intro k h;simp only[aI];have h1:=ih (k+1) λc o' q1 q2=>by rw[show k+1+c=k+(c+1) by omega];exact h (c+1) o' (by simpa using q1) q2
  cases hc:aW o.op with
  |false=>simp only[Bool.false_and,cond_false];exact h1
  |true=>have:=h 0 o rfl hc;simp only[Nat.add_zero]at this;rw[this,h1]
def bY.congr{ρ:Pl}{n:Nat}{T T':Tr ae}{tmps:Array Value}(h:∀t,T'.get t=T.get t)(r:bY ρ n T tmps):bY ρ n T' tmps:=⟨r.size,λt=>by have:=r.at_ t;simp only[ev]at this ⊢;rw[h t];exact this⟩
section
variable {P:Program} {Prot:Gh} {w0:World} {tb:FuncId->Bool} {call:FuncId->List ae->aa->Option (ae×aa)}
def rM(D:Nat->Prop)(l:List aD)(m:Nat->Bool):Nat->Prop:=λd=>D d∨∃(i:Nat) (a:aD) (z:List ae) (s:Option (Nat×Nat)),l[i]?=some a/\a.op=.claim d z s/\m i=false
def Jk{ρ:Pl}{H:aa}{w:World}(R:cX Prot w0 ρ H w){n:Nat}{T:Tr ae}{a:Act}(ht:bY ρ n T a.tmps){o:Oper}{z:List ae}{s:Option (Nat×Nat)}(hc:AY P o.op z s){b:Nat}(hd:Prot.dead b)(hx:H.get b=some (xA z s)) :
  ∃ρ' w' u,ρ.le ρ'/\(execOp a.eval o).run P w=.ok (.value u) w'/\cX ⟨Prot.prot,λd=>Prot.dead d/\d≠b⟩ w0 ρ' H w'/\ar ρ' (VO b z s) u:=by
 obtain⟨dst,op,type,pos,after,guard⟩:=o;simp only at hc;rcases hc with⟨e,rfl,hz,rfl⟩|⟨t,rfl,rfl,rfl⟩
 ·obtain⟨ρ1,w1,u,q1,q2,q3,q4⟩:=uh (P:=P) R hz hd hx;refine⟨ρ1,w1,u,q1,?_,q3,q4⟩;show(do pure (Next.value (<- Instr.alloc e true (.tuple #[]))):Sem Next).run P w=_;simp only[Sem.run_bind,q2,Result.andThen_ok];rfl
 ·obtain⟨ρ1,w1,u,q1,q2,q3,q4⟩:=yD (P:=P) R t hd hx;refine⟨ρ1,w1,u,q1,?_,q3,q4⟩;show(do pure (Next.value (<- Instr.makeMap t none)):Sem Next).run P w=_;simp only[Sem.run_bind,q2,Result.andThen_ok];rfl
set_option maxHeartbeats 2000000 in
def LV(htb:∀f,Nat.blt f mT=true->tb f=true->ep P f=true)(hcall:oE P call){ds:List Deferred}{n:Nat}{ops:Array Oper}{l:List aD}{base:Nat}{ms:List Nat}
  (hlen:l.length=ops.toList.length) (hopers:∀(j:Nat) (o:Oper),ops.toList[j]?=some o->∃a,l[j]?=some a/\(jj P n ops o=some a∨∃c,base<=c/\Nb P n ops o a c))
  (hbase:∀d,Prot.dead d->d<base) (hdis:∀(i j:Nat) (a b:aD) (c:Nat) (z z':List ae) (s s':Option (Nat×Nat)),l[i]?=some a->l[j]?=some b->a.op=.claim c z s->b.op=.claim c z' s'->i=j)
  (hm:kZ (ops.toList.map cR) ms=true) (hp:kG l ms=true) {T0:Tr ae} {H0:aa} {ss:List (ae×aa)} (htr:eG tb call l T0 H0=some ss)
  (hck:lq tb (H0::ss.map (·.2)) l ((List.range l.length).map (ii l ms)) ss T0=true) {ρ0:Pl} {Q:Exit->Act->World->Prop}
  (hQ:∀a w,(∃ρ,ρ0.le ρ/\cX Prot w0 ρ (fX H0 ss l.length) w/\bY ρ n (cx (λ_=>true) 0 l ss T0) a.tmps/\a.defers=ds)->Q .normal a w) :
  ∀(fuel:Nat) (listed:Array Bool) (a:Act) (w:World),listed.size=ops.size->zV (λi=>listed.getD i false) ops.size=fuel ->
   (∀j,j<ops.size->listed.getD j false=true->∀e∈(ops.toList.map cR).getD j [],listed.getD e false=true) ->
   (∃ρ,ρ0.le ρ/\cX ⟨Prot.prot,rM Prot.dead l λi=>listed.getD i false⟩ w0 ρ (fX H0 ss (aI (λi=>listed.getD i false) 0 l)) w/\bY ρ n (cx (λi=>listed.getD i false) 0 l ss T0) a.tmps/\a.defers=ds) ->
   wpAny P .any ops Q fuel listed a w:=by
 have hN:l.length=ops.size:=by simpa using hlen
 obtain⟨hsl,hat⟩:=jJ l T0 H0 ss 0 htr;have hes:(ops.toList.map cR).length=ops.size:=by simp
 have hpair:∀i j a b,i<j->l[i]?=some a->l[j]?=some b->jQ ms i j a b=true:=by intro i j a b hij hi hj;unfold kG at hp;rw[List.all_eq_true]at hp;have hjl:=(Xy.1 hj).1;have h1:=hp j (List.mem_range.2 hjl);rw[hj]at h1;simp only at h1;rw[List.all_eq_true]at h1;have h2:=h1 i (List.mem_range.2 hij);rw[hi]at h2;exact h2
 intro fuel;induction fuel with
 |zero=>
  intro listed a w hsz hu _ hinv;have hall:∀i,i<ops.size->listed.getD i false=true:=vg hu;refine⟨?_,hQ a w ?_⟩
  ·unfold Region.ready;rw[List.filter_eq_nil_iff];intro i hi;have:=hall i (List.mem_range.1 hi);have e:listed.getD i true=true:=by
    rw[Array.getD_eq_getD_getElem?]at this ⊢;rw[Array.getElem?_eq_getElem (by rw[hsz];exact List.mem_range.1 hi)]at this ⊢;simpa using this
   simp[e]
  ·obtain⟨ρ,h1,h2,h3,h4⟩:=hinv;refine⟨ρ,h1,?_,h3.congr λt=>?_,h4⟩
   ·have hs:=fw (λi=>listed.getD i false) l 0;have:aI (λi=>listed.getD i false) 0 l=l.length:=by
     obtain⟨q1,q2,q3,q4⟩:=hs;rcases Nat.lt_or_ge (aI (λi=>listed.getD i false) 0 l) l.length with q|q
     ·have ho:l[aI (λi=>listed.getD i false) 0 l-0]?=some l[aI (λi=>listed.getD i false) 0 l]:=by simp
      have:=(q4 _ (by simpa using q) ho).2;rw[hall _ om]at this;simp at this
     ·omega
    rw[this]at h2;exact h2.fewer (D:=Prot.dead) λd hd=>.inl hd
   ·refine gZ l ss 0 T0 T0 rfl λi o hi _=>?_;have:=(Xy.1 hi).1;simp only[Nat.zero_add];exact(hall i om).symm
 |succ fuel ih=>
  intro listed a w hsz hu hdown hinv;obtain⟨ρ,hle,R,ht,hd⟩:=hinv;have hml:=tU hm (m:=λi=>listed.getD i false) (λj hj hjl e he=>hdown j om hjl e he);have hmask:∀j,j<ops.size->(∀e∈(ops.toList.map cR).getD j [],listed.getD e false=true)->∀i,i<j->mQ ms j i=true->listed.getD i false=true:=λj hj he i hi hb=>hml j om he i hi hb
  refine⟨λhnone=>?_,λi hi=>?_⟩
  ·-- there is one that is ready
   exfalso;have hex:∃i,i<ops.size/\listed.getD i false=false:=by
    rcases Classical.em (∃i,i<ops.size/\listed.getD i false=false)with h|h
    ·exact h
    ·exfalso;have:zV (λi=>listed.getD i false) ops.size=0:=zT λi hi=>by
      cases hb:listed.getD i false with
      |true=>rfl
      |false=>exact(h ⟨i,hi,hb⟩).elim
     omega
   have hmin:∃i,i<ops.size/\listed.getD i false=false/\∀j,j<i->listed.getD j false=true:=by
    obtain⟨i,hi1,hi2⟩:=hex;induction i using Nat.strongRecOn with
    |_ i ihm=>
     rcases Classical.em (∃j,j<i/\listed.getD j false=false)with⟨j,hj,hj2⟩|h
     ·exact ihm j hj om hj2
     ·refine⟨i,hi1,hi2,λj hj=>?_⟩;cases hb:listed.getD j false with
      |true=>rfl
      |false=>exact(h ⟨j,hj,hb⟩).elim
   obtain⟨i,hi1,hi2,hi3⟩:=hmin;have:i∈Region.ready .any ops listed:=by
    rw[mem_ready];refine⟨?_,ops[i],Array.getElem?_eq_getElem hi1,λe he hb=>?_⟩
    ·rw[Array.getD_eq_getD_getElem?]at hi2 ⊢;rw[Array.getElem?_eq_getElem om]at hi2 ⊢;simpa using hi2
    ·refine hi3 _ ?_;unfold kZ at hm;rw[List.all_eq_true]at hm;have h1:=hm i (List.mem_range.2 om);simp only[XA,List.all_eq_true]at h1;refine XD (h1.1 e.on ?_);have:(ops.toList.map cR).getD i []=cR ops[i]:=by simp[List.getD,hi1]
     rw[this];unfold cR;rw[List.mem_map];exact⟨e,by rw[List.mem_filter];exact⟨by simpa using he,hb⟩,rfl⟩
   rw[hnone]at this;simp at this
  ·obtain⟨hi1,o,ho,hedge⟩:=mem_ready.1 hi;have hiN:i<ops.size:=(Array.getElem?_eq_some_iff.1 ho).1;have hmi:listed.getD i false=false:=by
    rw[Array.getD_eq_getD_getElem?]at hi1 ⊢;rw[Array.getElem?_eq_getElem om]at hi1 ⊢;simpa using hi1
   obtain⟨ao,hao,hco⟩:=hopers i o (by simpa using ho);have hedges:∀e∈(ops.toList.map cR).getD i [],listed.getD e false=true:=by
    have:(ops.toList.map cR).getD i []=cR o:=by
     have:ops[i]=o:=by simpa[Array.getElem?_eq_getElem hiN]using ho
     simp[List.getD,hiN,this]
    rw[this];intro e he;unfold cR at he;rw[List.mem_map]at he;obtain⟨x,hx,rfl⟩:=he;rw[List.mem_filter]at hx;exact hedge x (by simpa using hx.1) hx.2
   have hafter:∀c b,i<c->l[c]?=some b->mQ ms c i=true->listed.getD c false=false:=by
    intro c b hc hb hbit;cases hx:listed.getD c false with
    |false=>rfl
    |true=>have hcN:=(Xy.1 hb).1;have:=hmask c om (hdown c om hx) i hc hbit;rw[hmi]at this;simp at this
   have hagree:∀t∈jn ao,(cx (λi=>listed.getD i false) 0 l ss T0).get t=(cx (λj=>Nat.blt j (0+i)) 0 l ss T0).get t:=by
    intro t htr';refine gZ l ss 0 T0 T0 rfl λc b hc hdst=>?_;have hcN:=(Xy.1 hc).1;simp only[Nat.zero_add];rcases Nat.lt_trichotomy c i with h|h|h
    ·have e:Nat.blt c i=true:=Xz h;rw[e];have hpr:=hpair c i b ao h hc hao;simp only[jQ,Bool.or_eq_true,XA]at hpr;rcases hpr with hpr|⟨_,hpr⟩
     ·exact hmask i hiN hedges c h hpr
     ·exfalso;simp only[xH,hdst,XA,Bool.not_eq_true',List.contains_eq_mem,decide_eq_false_iff_not]at hpr;exact hpr.1.1 htr'
    ·subst h;have e:Nat.blt c c=false:=by
      cases hb:Nat.blt c c with
      |false=>rfl
      |true=>have:=XD hb;omega
     rw[e];exact hmi
    ·have e:Nat.blt c i=false:=by
      cases hb:Nat.blt c i with
      |false=>rfl
      |true=>have:=XD hb;omega
     rw[e];have hpr:=hpair i c ao b h hao hc;simp only[jQ,Bool.or_eq_true,XA]at hpr;rcases hpr with hpr|⟨_,hpr⟩
     ·exact hafter c b h hc hpr
     ·exfalso;simp only[xH,hdst,XA,Bool.not_eq_true',List.contains_eq_mem,decide_eq_false_iff_not]at hpr;exact hpr.2 htr'
   have hgd:pm (cx (λi=>listed.getD i false) 0 l ss T0) ao.guard=pm (cx (λj=>Nat.blt j (0+i)) 0 l ss T0) ao.guard:=by
    cases hg:ao.guard with
    |none=>rfl
    |some g=>obtain⟨t,b⟩:=g;simp only[pm,ev];rw[hagree t (by simp[jn,hg])]
   have hop:∀H,dZ tb (cx (λi=>listed.getD i false) 0 l ss T0) H ao.op=dZ tb (cx (λj=>Nat.blt j (0+i)) 0 l ss T0) H ao.op:=λH=>zD λt h=>hagree t (by simp only[jn,List.mem_append];exact .inl h)
   obtain⟨v,H1,hss,hstep⟩:=hat i ao hao;obtain⟨st1,st2,st3,st4⟩:=fw (λi=>listed.getD i false) l 0;have hchain:aW ao.op=true->aI (λi=>listed.getD i false) 0 l=i:=by
    intro hc;have hge:aI (λi=>listed.getD i false) 0 l<=i:=by
     rcases Nat.lt_or_ge i (aI (λi=>listed.getD i false) 0 l)with h|h
     ·have:=st3 i ao hao hc (by simpa using h);simp only[Nat.zero_add]at this;rw[hmi]at this;simp at this
     ·exact h
    rcases Nat.lt_or_ge (aI (λi=>listed.getD i false) 0 l) i with h|h
    ·have hob:l[aI (λi=>listed.getD i false) 0 l-0]?=some (l[aI (λi=>listed.getD i false) 0 l]'om):=by simp
     obtain⟨q1,q2⟩:=st4 _ om hob;have hob2:l[aI (λi=>listed.getD i false) 0 l]?=some (l[aI (λi=>listed.getD i false) 0 l]'om):=Xx om;have hpr:=hpair _ i _ ao h hob2 hao;simp only[jQ,Bool.or_eq_true,XA]at hpr;rcases hpr with hpr|⟨hpr,_⟩
     ·have:=hmask i hiN hedges _ h hpr;rw[q2]at this;simp at this
     ·rw[q1,hc]at hpr;simp at hpr
    ·omega
   have hnext:∀(ρ':Pl) (w':World) (a':Act),ρ.le ρ'->cX ⟨Prot.prot,rM Prot.dead l λj=>if j=i then true else listed.getD j false⟩ w0 ρ' (if aW ao.op=true then H1 else fX H0 ss (aI (λi=>listed.getD i false) 0 l)) w' ->
     bY ρ' n (ko (cx (λi=>listed.getD i false) 0 l ss T0) ao.dst v) a'.tmps->a'.defers=ds->wpAny P .any ops Q fuel (listed.setIfInBounds i true) a' w':=by
    intro ρ' w' a' hle' R' ht' hd';have hm':∀j,(listed.setIfInBounds i true).getD j false=if j=i then true else listed.getD j false:=by
     intro j;by_cases e:j=i
     ·subst e;rw[if_pos rfl,Array.getD_eq_getD_getElem?];have:j<listed.size:=om;simp[this]
     ·rw[if_neg e];exact getD_set_ne false (λq=>e q.symm)
    have hmf:(λj=>(listed.setIfInBounds i true).getD j false)=λj=>if j=i then true else listed.getD j false:=funext hm';refine ih _ a' w' (by simpa using hsz) ?_ ?_ ⟨ρ',Pl.le_trans hle hle',?_,?_,hd'⟩
    ·have:=zS (m:=λi=>listed.getD i false) (m':=λj=>(listed.setIfInBounds i true).getD j false) (i:=i) (n:=ops.size) hiN hmi (by rw[hm',if_pos rfl]) (λj hj=>by rw[hm',if_neg hj]);omega
    ·intro j hj hjl e he;rw[hm']at hjl ⊢;by_cases q:e=i
     ·rw[if_pos q]
     ·rw[if_neg q];by_cases q2:j=i
      ·subst q2;exact hedges e he
      ·rw[if_neg q2]at hjl;exact hdown j hj hjl e he
    ·rw[hmf];cases hc:aW ao.op with
     |false=>
      rw[hc]at R';simp only[XJ,if_false]at R';have:aI (λj=>if j=i then true else listed.getD j false) 0 l=aI (λi=>listed.getD i false) 0 l:=kw l 0 λc b hcb hcc=>by simp only[Nat.zero_add];rw[if_neg];intro e;subst e;rw[hao]at hcb;simp only[sJ]at hcb;subst hcb;rw[hc]at hcc;simp at hcc
      rw[this];exact R'
     |true=>
      rw[hc]at R';simp only[if_true]at R';have hpi:=hchain hc;obtain⟨s1,s2,s3,s4⟩:=fw (λj=>if j=i then true else listed.getD j false) l 0;have hgt:i<aI (λj=>if j=i then true else listed.getD j false) 0 l:=by
       rcases Nat.lt_or_ge i (aI (λj=>if j=i then true else listed.getD j false) 0 l)with h|h
       ·exact h
       ·exfalso;have hob:l[aI (λj=>if j=i then true else listed.getD j false) 0 l-0]?=some (l[aI (λj=>if j=i then true else listed.getD j false) 0 l]'om):=by simp
        obtain⟨q1,q2⟩:=s4 _ om hob;by_cases e:aI (λj=>if j=i then true else listed.getD j false) 0 l=i
        ·rw[if_pos e]at q2;simp at q2
        ·rw[if_neg e]at q2;have hob2:l[aI (λj=>if j=i then true else listed.getD j false) 0 l]?=some (l[aI (λj=>if j=i then true else listed.getD j false) 0 l]'om):=Xx om;have:=st3 _ _ hob2 q1 om;simp only[Nat.zero_add]at this;rw[q2]at this;simp at this
      have hb:=eT htr (aI (λj=>if j=i then true else listed.getD j false) 0 l-(i+1)) (i+1) om λc b c1 c2 c3=>by
       cases hx:aW b.op with
       |false=>rfl
       |true=>
        exfalso;have:=s3 c b c3 hx om;simp only[Nat.zero_add]at this;rw[if_neg om]at this;have hpr:=hpair i c ao b om hao c3;simp only[jQ,Bool.or_eq_true,XA]at hpr;rcases hpr with hpr|⟨hpr,_⟩
        ·have h9:=hafter c b om c3 hpr;rw[this]at h9;simp at h9
        ·rw[hx,hc]at hpr;simp at hpr
      rw[show i+1+(aI (λj=>if j=i then true else listed.getD j false) 0 l-(i+1))=aI (λj=>if j=i then true else listed.getD j false) 0 l by omega]at hb;rw[hb];simp only[fX,hss];exact R'
    ·refine ht'.congr λt=>?_;rw[hmf,nO];by_cases e:ao.dst=some t
     ·rw[if_pos e];refine sq l ss 0 i T0 ao v H1 hao hss e (by simp) λc b hc hcb hdst=>?_;simp only[Nat.zero_add];rw[if_neg om];have hpr:=hpair i c ao b hc hao hcb;simp only[jQ,Bool.or_eq_true,XA]at hpr;rcases hpr with hpr|⟨_,hpr⟩
      ·exact hafter c b hc hcb hpr
      ·exfalso;simp only[xH,e,XA,Bool.not_eq_true',beq_eq_false_iff_ne]at hpr;exact hpr.1.2 hdst
     ·rw[if_neg e];refine gZ l ss 0 T0 T0 rfl λc b hc hdst=>?_;simp only[Nat.zero_add];rw[if_neg];intro q;subst q;rw[hao]at hc;simp only[sJ]at hc;subst hc;exact e hdst
   have hval:aW ao.op=false->pm (cx (λj=>Nat.blt j (0+i)) 0 l ss T0) ao.guard=true->∃H2,dZ tb (cx (λj=>Nat.blt j (0+i)) 0 l ss T0) (fX H0 ss (aI (λi=>listed.getD i false) 0 l)) ao.op=some (.val v,H2):=by
    intro hc hgo;unfold dh at hstep;rw[hgo]at hstep;simp only[cond_true]at hstep;cases hpu:my ao.op with
    |true=>
     split at hstep
     ·rename_i u H2 hu;simp only[sJ,pJ]at hstep;obtain⟨rfl,rfl⟩:=hstep;exact⟨_,(gG hpu hu).2.2 _⟩
     ·rename_i f args H2 hu;obtain⟨_,⟨x,hx⟩,_⟩:=gG hpu hu;simp at hx
     ·simp at hstep
    |false=>
     have hld:d9 ao.op=true:=by
      unfold aW at hc;cases h1:d9 ao.op with
      |true=>rfl
      |false=>rw[hpu,h1]at hc;simp at hc
     cases hsm:tP l i (aI (λi=>listed.getD i false) 0 l)with
     |true=>
      unfold tP at hsm;rw[XA,List.all_eq_true]at hsm;have hij:=XD hsm.1;have hb:=eT htr (aI (λi=>listed.getD i false) 0 l-i) i om λc b c1 c2 c3=>by
       have:=hsm.2 c (List.mem_range.2 om);rw[c3]at this;simp only[Bool.or_eq_true,Bool.not_eq_true']at this;rcases this with h|h
       ·have:=XD h;omega
       ·exact h
      rw[show i+(aI (λi=>listed.getD i false) 0 l-i)=aI (λi=>listed.getD i false) 0 l by omega]at hb;rw[hb];split at hstep
      ·rename_i u H2 hu;simp only[sJ,pJ]at hstep;obtain⟨rfl,rfl⟩:=hstep;exact⟨_,hu⟩
      ·rename_i f args H2 hu;obtain⟨_,x,hx⟩:=jS hld hu;simp at hx
      ·simp at hstep
     |false=>
      have hmem:aI (λi=>listed.getD i false) 0 l∈ii l ms i:=by
       unfold ii;rw[hao];simp only[hld,cond_true];rw[List.mem_filter];refine⟨List.mem_range.2 om,?_⟩;rw[hsm];simp only[Bool.not_false,Bool.true_and];unfold yC;rw[XA];refine⟨?_,?_⟩
       ·unfold oW;rcases Nat.lt_or_ge (aI (λi=>listed.getD i false) 0 l) l.length with h|h
        ·have hob:l[aI (λi=>listed.getD i false) 0 l]?=some l[aI (λi=>listed.getD i false) 0 l]:=Xx h;rw[hob];exact(st4 _ om (by simp)).1
        ·rw[XP h];have:aI (λi=>listed.getD i false) 0 l=l.length:=om;rw[this];exact Nat.beq_refl _
       ·rw[List.all_eq_true];intro c hcr;have hcl:=List.mem_range.1 hcr;rw[Xx hcl];simp only[Bool.or_eq_true,Bool.not_eq_true'];cases hcc:aW l[c].op with
        |false=>exact .inl rfl
        |true=>
         right;have hlc:l[c]?=some l[c]:=Xx hcl;cases hb:Nat.blt c (aI (λi=>listed.getD i false) 0 l)with
         |true=>
          simp only[cond_true,Bool.not_eq_true'];have hlt:c<aI (λi=>listed.getD i false) 0 l:=XD hb;have hcm:=st3 c _ hlc hcc om;simp only[Nat.zero_add]at hcm;cases hbit:mQ ms c i with
          |false=>rfl
          |true=>
           exfalso;rcases Nat.lt_trichotomy i c with h|h|h
           ·have:=hafter c _ h hlc hbit;rw[hcm]at this;simp at this
           ·subst h;rw[hmi]at hcm;simp at hcm
           ·have:=qh hbit;omega
         |false=>
          simp only[cond_false,Bool.not_eq_true'];have hge:aI (λi=>listed.getD i false) 0 l<=c:=by
           rcases Nat.lt_or_ge c (aI (λi=>listed.getD i false) 0 l)with h|h
           ·have:Nat.blt c (aI (λi=>listed.getD i false) 0 l)=true:=Xz h;rw[hb]at this;simp at this
           ·exact h
          cases hbit:mQ ms i c with
          |false=>rfl
          |true=>
           exfalso;have hlc2:=hmask i hiN hedges c (qh hbit) hbit;have hpl:aI (λi=>listed.getD i false) 0 l<l.length:=om;have hob2:l[aI (λi=>listed.getD i false) 0 l]?=some (l[aI (λi=>listed.getD i false) 0 l]'hpl):=Xx hpl;obtain⟨q1,q2⟩:=st4 _ om (by rw[Nat.sub_zero];exact hob2);rcases Nat.lt_trichotomy (aI (λi=>listed.getD i false) 0 l) c with h|h|h
           ·have hpr:=hpair _ c _ _ h hob2 hlc;simp only[jQ,Bool.or_eq_true,XA]at hpr;rcases hpr with hpr|⟨hpr,_⟩
            ·have:=hmask c om (hdown c om hlc2) _ h hpr;rw[q2]at this;simp at this
            ·rw[q1,hcc]at hpr;simp at hpr
           ·rw[h]at q2;rw[q2]at hlc2;simp at hlc2
           ·omega
      obtain⟨Hp,hHp,hrun⟩:=Mb l _ ss T0 0 hck i _ (ii l ms i) v H1 hao (by simp[hN,hiN]) hss _ hmem;obtain⟨H2,hH2⟩:=hrun hgo;refine⟨H2,?_⟩;have:Hp=fX H0 ss (aI (λi=>listed.getD i false) 0 l):=by
       cases hstg:aI (λi=>listed.getD i false) 0 l with
       |zero=>rw[hstg]at hHp;simpa[fX]using hHp.symm
       |succ q=>
        rw[hstg]at hHp;simp only[XI,List.getElem?_map]at hHp;simp only[fX];cases hq:ss[q]? with
        |none=>rw[hq]at hHp;simp at hHp
        |some z=>rw[hq]at hHp;obtain⟨z1,z2⟩:=z;simpa using hHp.symm
      rw[<- this];exact hH2
   have hfew:∀d,rM Prot.dead l (λj=>if j=i then true else listed.getD j false) d->rM Prot.dead l (λi=>listed.getD i false) d:=by
    rintro d (hd|⟨i',a',z',s',x1,x2,x3⟩)
    ·exact .inl hd
    ·refine .inr ⟨i',a',z',s',x1,x2,?_⟩;simp only at x3;by_cases e:i'=i
     ·rw[if_pos e]at x3;simp at x3
     ·rw[if_neg e]at x3;exact x3
   have hord:(∃ax g,AN P o.op=some ax/\lL n o.dst=true/\ao=⟨o.dst,ax,g⟩/\Region.wanted o (yielded ops a.tmps)=pm (cx (λi=>listed.getD i false) 0 l ss T0) g)∨∃c,base<=c/\Nb P n ops o ao c:=by
    rcases hco with hco|hco
    ·unfold jj at hco;split at hco
     ·rename_i ax g hopc hgc;cases hdst:lL n o.dst with
      |false=>rw[hdst]at hco;simp at hco
      |true=>rw[hdst]at hco;simp only[cond_true,sJ]at hco;exact .inl ⟨ax,g,hopc,rfl,hco.symm,nN ht hgc⟩
     ·simp at hco
    ·exact .inr hco
   rcases hord with⟨ax,g,hopc,hdst,rfl,hwant⟩|⟨cb,hcb,z,s,g,hoe,hgc,hdst,rfl⟩
   ·skip
    ·simp only at hgd hop hnext hchain hao;unfold wpOp;simp only[ho];rw[hwant,hgd];have hd':∀u,(a.put o.dst u).defers=ds:=λu=>by cases hx:o.dst<;>simpa[Act.put]using hd
     unfold dh at hstep;simp only at hstep;cases hgo:pm (cx (λj=>Nat.blt j (0+i)) 0 l ss T0) g with
     |false=>
      rw[hgo]at hstep;simp only[cond_false,sJ,pJ]at hstep;obtain⟨rfl,rfl⟩:=hstep;simp only[XJ,if_false];refine hnext ρ w _ (Pl.le_refl _) ?_ (dq ht hdst iC) (hd' _);split
      ·rename_i hc;have h9:=R.fewer hfew;rw[hchain hc]at h9;exact h9
      ·exact R.fewer hfew
     |true=>
      rw[hgo]at hstep;simp only[cond_true]at hstep;simp only[if_true];left;cases hc:aW ax with
      |true=>
       have hpi:=hchain hc;rw[hpi]at R;rw[<- hop]at hstep;split at hstep
       ·rename_i u H2 hu;simp only[sJ,pJ]at hstep;obtain⟨rfl,rfl⟩:=hstep;obtain⟨ρ1,w1,nx,q1,q2,q3,q4⟩:=nB htb R ht o hopc hu;simp only[Oper.wp,q2];rw[hc]at hnext;simp only[if_true]at hnext;cases nx<;>simp only[oD]at q4
        case value u=>exact hnext ρ1 w1 _ q1 (q3.fewer hfew) (dq (ht.mono q1) hdst q4) (hd' _)
        case skip=>exact hnext ρ1 w1 _ q1 (q3.fewer hfew) (dq (ht.mono q1) hdst q4) (hd' _)
       ·rename_i f args H2 hu;obtain⟨ρ1,w1,nx,q1,q2,q3,q4⟩:=nB htb R ht o hopc hu;simp only[Oper.wp,q2];rw[hc]at hnext;simp only[if_true]at hnext;cases nx<;>simp only[oD]at q4
        case enter gf vs=>obtain⟨rfl,hbig,q5⟩:=q4;simp only[Oper.upon];refine(hcall _ _ _ _ _ hbig hstep ⟨Prot.prot,rM Prot.dead l λi=>listed.getD i false⟩ w0 ρ1 w1 vs q3 q5).mono λe w' hr=>?_;obtain⟨ρ2,u,r1,rfl,r3,r4⟩:=hr;exact hnext ρ2 w' _ (Pl.le_trans q1 r1) (r3.fewer hfew) (dq ((ht.mono q1).mono r1) hdst r4) (hd' _)
       ·simp at hstep
      |false=>
       rw[hc]at hnext;simp only[XJ,if_false]at hnext;obtain⟨H2,hH2⟩:=hval hc hgo;have hsame:H2=fX H0 ss (aI (λi=>listed.getD i false) 0 l):=by
        have hk:my ax=true∨d9 ax=true:=by unfold aW at hc;cases h1:my ax<;>cases h2:d9 ax<;>simp_all
        rcases hk with hk|hk
        ·exact(gG hk hH2).1
        ·exact(jS hk hH2).1
       subst hsame;rw[<- hop]at hH2;obtain⟨ρ1,w1,nx,q1,q2,q3,q4⟩:=nB htb R ht o hopc hH2;simp only[Oper.wp,q2];cases nx<;>simp only[oD]at q4
       case value u=>exact hnext ρ1 w1 _ q1 (q3.fewer hfew) (dq (ht.mono q1) hdst q4) (hd' _)
       case skip=>exact hnext ρ1 w1 _ q1 (q3.fewer hfew) (dq (ht.mono q1) hdst q4) (hd' _)
   ·-- a new block,of a number that was laid rM
    simp only at hgd hop hnext hchain hao hval;unfold wpOp;simp only[ho];rw[nN ht hgc,hgd];have hd':∀u,(a.put o.dst u).defers=ds:=λu=>by cases hx:o.dst<;>simpa[Act.put]using hd
    have hnc:aW (jz.claim cb z s)=false:=rfl;rw[hnc]at hnext;simp only[XJ,if_false]at hnext;cases hgo:pm (cx (λj=>Nat.blt j (0+i)) 0 l ss T0) g with
    |false=>unfold dh at hstep;simp only at hstep;rw[hgo]at hstep;simp only[cond_false,sJ,pJ]at hstep;obtain⟨rfl,rfl⟩:=hstep;simp only[XJ,if_false];exact hnext ρ w _ (Pl.le_refl _) (R.fewer hfew) (dq ht hdst iC) (hd' _)
    |true=>
     simp only[if_true];left;obtain⟨H2,hH2⟩:=hval hnc hgo;simp only[dZ]at hH2;obtain⟨y,hy,hv,_⟩:=cB hH2;simp only[Nx.val.injEq]at hv;subst hv;obtain⟨hget,rfl⟩:=FC hy;obtain⟨ρ1,w1,u,q1,hrun,q3,q4⟩:=Jk R ht hoe (.inr ⟨i,_,z,s,hao,rfl,hmi⟩) hget;simp only[Oper.wp,hrun];refine hnext ρ1 w1 _ q1 (q3.fewer ?_) (dq (ht.mono q1) hdst q4) (hd' _);intro d hd0;refine⟨hfew d hd0,?_⟩;rintro rfl;rcases hd0 with hd0|⟨i',a',z',s',x1,x2,x3⟩
     ·have:=hbase _ hd0;omega
     ·have:=hdis i' i a' _ _ z' z s' s x1 hao x2 rfl;subst this;simp at x3
end
end Go.Abs
namespace Go.Abs
def wM{P:Program}{c:Call}{b:Nat}{z:List ae}{s:Option (Nat×Nat)}(h:lP P c=some (.claim b z s)):False:=by
 unfold lP at h
 repeat' split at h
 all_goals first
  |(simp at h;done)
  |(simp only[cond_eq_ite]at h;split at h<;>simp at h)
def wO{P:Program}{o:Op}{b:Nat}{z:List ae}{s:Option (Nat×Nat)}(h:tv P o=some (.claim b z s)):False:=by
 unfold tv at h
 repeat' split at h
 all_goals first
  |(simp at h;done)
  |(simp only[cond_eq_ite]at h;split at h<;>first|(simp at h;done)|(split at h<;>simp at h))
def xM{P:Program}{o:Op}{b:Nat}{z:List ae}{s:Option (Nat×Nat)}(h:AN P o=some (.claim b z s)):False:=by
 unfold AN at h;split at h
 ·rename_i a ha;simp only[sJ]at h;subst h;exact wO ha
 ·split at h
  ·rename_i a ha;simp only[sJ]at h;subst h;cases o<;>simp only[C3,reduceCtorEq]at ha
   case call c _=>exact wM ha
   all_goals
    exfalso
    repeat' split at ha
    all_goals first
     |(simp at ha;done)
     |(simp only[cond_eq_ite]at ha;split at ha<;>simp at ha)
  ·simp at h
def Pp(l:List aD):Prop:=∀a∈l,∀(c:Nat) (z:List ae) (s:Option (Nat×Nat)),a.op≠.claim c z s
def eV(l:List aD):Prop:=Pp l/\∀a∈l,fD a.op=false
def EA{P:Program}{n:Nat}{ops:Array Oper}:∀{rest:List Oper} {l:List aD},dL P n ops rest=some l->Pp l:=by
 intro rest;induction rest with
 |nil=>intro l h;simp only[dL,sJ]at h;subst h;intro a ha;simp at ha
 |cons o r ih=>
  intro l h;simp only[dL]at h;split at h
  ·rename_i a l' ha hl';simp only[sJ]at h;subst h;intro x hx c z s hc;rcases List.mem_cons.1 hx with rfl|hx
   ·unfold jj at ha;split at ha
    ·rename_i ax g hopc hg;cases hdst:lL n o.dst with
     |false=>rw[hdst]at ha;simp at ha
     |true=>rw[hdst]at ha;simp only[cond_true,sJ]at ha;subst ha;simp only at hc;subst hc;exact xM hopc
    ·simp at ha
   ·exact ih hl' x hx c z s hc
  ·simp at h
def vR{P:Program}{n:Nat}{ops:Array Oper}:∀{rest:List Oper} {l:List aD},dL P n ops rest=some l->∀a∈l,fD a.op=false:=by
 intro rest;induction rest with
 |nil=>intro l h;simp only[dL,sJ]at h;subst h;intro a ha;simp at ha
 |cons o r ih=>
  intro l h;simp only[dL]at h;split at h
  ·rename_i a l' ha hl';simp only[sJ]at h;subst h;intro x hx;rcases List.mem_cons.1 hx with rfl|hx
   ·unfold jj at ha;split at ha
    ·rename_i ax g hopc hg;cases hdst:lL n o.dst with
     |false=>rw[hdst]at ha;simp at ha
     |true=>rw[hdst]at ha;simp only[cond_true,sJ]at ha;subst ha;exact wN hopc
    ·simp at ha
   ·exact ih hl' x hx
  ·simp at h
def pz{P:Program}{n:Nat}{ops:Array Oper}{rest:List Oper}{l:List aD}(h:dL P n ops rest=some l):eV l:=⟨EA h,vR h⟩
def eV.tail{o:aD}{r:List aD}(h:eV (o::r)):eV r:=⟨λx hx=>h.1 x (List.mem_cons_of_mem _ hx),λx hx=>h.2 x (List.mem_cons_of_mem _ hx)⟩
def nX(b:Nat)(o:aD)(r:List aD)(hf:fD o.op=false):(∃z s,aH b (o::r)=⟨o.dst,.claim b z s,o.guard⟩::aH (b+1) r/\∀H,bp H (o::r)=bp (H.push (xA z s)) r) ∨
  (aH b (o::r)=o::aH b r/\∀H,bp H (o::r)=bp H r):=by
 cases h:dT o.op with
 |some p=>obtain⟨z,s⟩:=p;exact .inl ⟨z,s,by simp only[aH,h,HA hf],λH=>by simp only[bp,h]⟩
 |none=>exact .inr ⟨by simp only[aH,h],λH=>by simp only[bp,h]⟩
def oX:∀(l:List aD) (b:Nat),eV l->∀(i:Nat) (a:aD) (c:Nat) (z:List ae) (s:Option (Nat×Nat)),(aH b l)[i]?=some a->a.op=.claim c z s->b<=c
 | [],b,_,i,a,c,z,s,h,_=>by simp[aH]at h
 |o::r,b,hn,i,a,c,z,s,h,hc=>by
  have hr:eV r:=hn.tail;rcases nX b o r (hn.2 o (List.mem_cons_self ..))with⟨z',s',e,_⟩|⟨e,_⟩
  ·rw[e]at h;cases i with
   |zero=>simp only[XH,sJ]at h;subst h;simp only[jz.claim.injEq]at hc;omega
   |succ i=>simp only[XI]at h;have:=oX r (b+1) hr i a c z s h hc;omega
  ·rw[e]at h;cases i with
   |zero=>simp only[XH,sJ]at h;subst h;exact absurd hc (hn.1 o (List.mem_cons_self ..) c z s)
   |succ i=>simp only[XI]at h;exact oX r b hr i a c z s h hc
def qe:∀(l:List aD) (b:Nat),eV l->∀(i j:Nat) (a a':aD) (c:Nat) (z z':List ae) (s s':Option (Nat×Nat)),(aH b l)[i]?=some a->(aH b l)[j]?=some a'->a.op=.claim c z s->a'.op=.claim c z' s'->i=j
 | [],b,_,i,j,a,a',c,z,z',s,s',h,_,_,_=>by simp[aH]at h
 |o::r,b,hn,i,j,a,a',c,z,z',s,s',h,k,hc,kc=>by
  have hr:eV r:=hn.tail;rcases nX b o r (hn.2 o (List.mem_cons_self ..))with⟨y,s9,e,_⟩|⟨e,_⟩
  ·rw[e]at h k;cases i with
   |zero=>
    cases j with
    |zero=>rfl
    |succ j=>simp only[XH,sJ,XI]at h k;subst h;simp only[jz.claim.injEq]at hc;have:=oX r (b+1) hr j a' c z' s' k kc;omega
   |succ i=>
    cases j with
    |zero=>simp only[XH,sJ,XI]at h k;subst k;simp only[jz.claim.injEq]at kc;have:=oX r (b+1) hr i a c z s h hc;omega
    |succ j=>simp only[XI]at h k;rw[qe r (b+1) hr i j a a' c z z' s s' h k hc kc]
  ·rw[e]at h k;cases i with
   |zero=>simp only[XH,sJ]at h;subst h;exact absurd hc (hn.1 o (List.mem_cons_self ..) c z s)
   |succ i=>
    cases j with
    |zero=>simp only[XH,sJ]at k;subst k;exact absurd kc (hn.1 o (List.mem_cons_self ..) c z' s')
    |succ j=>simp only[XI]at h k;rw[qe r b hr i j a a' c z z' s s' h k hc kc]
section
variable {w0:World} {ρ:Pl} {w:World}
def mj{pr:Nat->Prop}:∀(l:List aD) (D:Nat->Prop) (H:aa),eV l->cX ⟨pr,D⟩ w0 ρ H w->cX ⟨pr,rM D (aH H.next l) λ_=>false⟩ w0 ρ (bp H l) w
 | [],D,H,_,R=>R.fewer (D:=rM D [] λ_=>false) λd hd=>by
  rcases hd with hd|⟨i,a,z,s,h,_⟩
  ·exact hd
  ·simp at h
 |o::r,D,H,hn,R=>by
  have hr:eV r:=hn.tail;rcases nX H.next o r (hn.2 o (List.mem_cons_self ..))with⟨y,s9,e,f⟩|⟨e,f⟩
  ·rw[e,f];have:=mj r _ _ hr (R.reserve (xA y s9) (by unfold xA;cases Cw s9<;>rfl));refine cX.fewer this λd hd=>?_;rcases hd with hd|⟨i,a,z,s,h,k,_⟩
   ·exact .inl (.inl hd)
   ·cases i with
    |zero=>simp only[XH,sJ]at h;subst h;simp only[jz.claim.injEq]at k;exact .inl (.inr k.1.symm)
    |succ i=>simp only[XI]at h;exact .inr ⟨i,a,z,s,h,k,rfl⟩
  ·rw[e,f];have:=mj r _ _ hr R;refine cX.fewer this λd hd=>?_;rcases hd with hd|⟨i,a,z,s,h,k,_⟩
   ·exact .inl hd
   ·cases i with
    |zero=>simp only[XH,sJ]at h;subst h;exact absurd k (hn.1 o (List.mem_cons_self ..) d z s)
    |succ i=>simp only[XI]at h;exact .inr ⟨i,a,z,s,h,k,rfl⟩
end
end Go.Abs
namespace Go.Abs
def tA:List ae->List Nat
 | []=>[]
 |x::r=>match cg x with
  |some b=>b::tA r
  |none=>tA r
def nH:jz->Bool
 | .store ..=>true
 | .hf (.fill ..) _=>true
 |_=>false
def qW:jz->Bool
 | .store ..=>true
 | .append ..=>true
 | .hf (.fill ..) _=>true
 |_=>false
def gN(T:Tr ae)(o:jz)(v:ae):List Nat:=match o with
 | .store _ a _=>tA [ev T a]
 | .append _ _ s x=>tA [ev T s,ev T x,v]
 | .hf (.fill ..) _=>tA [v]
 | .load _ _ x=>tA [ev T x]
 |_=>[]
def lT{x:ae}{l:List ae}{b:Nat}(h:x∈l)(hb:cg x=some b):b∈tA l:=by
 induction l with
 |nil=>simp at h
 |cons y r ih=>
  simp only[tA];rcases List.mem_cons.1 h with rfl|h
  ·rw[hb];exact List.mem_cons_self
  ·split
   ·exact List.mem_cons_of_mem _ (ih h)
   ·exact ih h
def qS{l:List ae}{b:Nat}(h:b∈tA l):∃x∈l,cg x=some b:=by
 induction l with
 |nil=>simp[tA]at h
 |cons y r ih=>
  simp only[tA]at h;split at h
  ·rename_i c hc;rcases List.mem_cons.1 h with rfl|h
   ·exact⟨y,List.mem_cons_self,hc⟩
   ·obtain⟨x,h1,h2⟩:=ih h;exact⟨x,List.mem_cons_of_mem _ h1,h2⟩
  ·obtain⟨x,h1,h2⟩:=ih h;exact⟨x,List.mem_cons_of_mem _ h1,h2⟩
structure Fr(S:Nat->Prop)(H H1 H2 H3:aa):Prop where
 next:H3.next=H1.next
 same:∀x,S x->H3.get x=H1.get x
 rest:∀x,¬S x->H3.get x=H2.get x
structure F0(S:Nat->Prop)(H H1:aa):Prop where
 rest:∀x,¬S x->H1.get x=H.get x
def F0.refl(S:Nat->Prop)(H:aa):F0 S H H:=⟨λ_ _=>rfl⟩
section
variable {S:Nat->Prop} {H H1 H2:aa}
def vM{a:Ad}{n:Nat}(e:H2.get a.b=H.get a.b):bH H2 a n=bH H a n:=by unfold bH;rw[e]
def VF(a:Ad)(xs:List ae):Option di->Option di
 | some (.cells l low false mk)=>bif Nat.ble low a.lim&&(Nat.beq a.lim l.length&&(Nat.ble (a.o+xs.length) a.lim&&xs.all ae.one)) then
   some (.cells (l.take a.o++(xs++l.drop (a.o+xs.length))) a.lim false mk)else none
 |_=>none
def Lz(a:Ad)(p:Nat)(xs:List ae):Option di->Option di
 | some (.cells l low false mk)=>bif Nat.ble low a.lim&&(Nat.beq a.lim l.length&&(Nat.ble p a.lim&&(Nat.ble a.o p&&(Nat.ble (a.lim+1) (p+xs.length)&&xs.all ae.one)))) then
   some (.cells (l.take p++xs) (bif Nat.beq p a.lim then low else p+xs.length) false mk)else none
 |_=>none
def tH(H:aa)(a:Ad)(xs:List ae):eP H a xs=(VF a xs (H.get a.b)).map λo=>H.set a.b o:=by
 unfold eP VF;cases H.get a.b with
 |none=>rfl
 |some o=>
  cases o with
  |cells l low ro=>
   cases ro with
   |true=>rfl
   |false=>
    try simp only
    cases(Nat.ble low a.lim&&(Nat.beq a.lim l.length&&(Nat.ble (a.o+xs.length) a.lim&&xs.all ae.one)))<;>rfl
  |_=>rfl
def G5(H:aa)(a:Ad)(p:Nat)(xs:List ae):df H a p xs=(Lz a p xs (H.get a.b)).map λo=>H.set a.b o:=by
 unfold df Lz;cases H.get a.b with
 |none=>rfl
 |some o=>
  cases o with
  |cells l low ro=>
   cases ro with
   |true=>rfl
   |false=>
    try simp only
    cases(Nat.ble low a.lim&&(Nat.beq a.lim l.length&&(Nat.ble p a.lim&&(Nat.ble a.o p&&(Nat.ble (a.lim+1) (p+xs.length)&&xs.all ae.one)))))<;>rfl
  |_=>rfl
def AX(S:Nat->Prop)(H:aa)(f:aa->Option (ae×aa))(v:ae)(H1:aa):Prop:=(∀H2,H2.next=H.next->(∀x,S x->H2.get x=H.get x)->∃H3,f H2=some (v,H3)/\Fr S H H1 H2 H3)/\F0 S H H1
def wA{b:Nat}{o:di}(hS:S b)(hn:H2.next=H.next)(hs:∀x,S x->H2.get x=H.get x):Fr S H (H.set b o) H2 (H2.set b o):=⟨hn,λx hx=>by rw[aa.get_set,aa.get_set,hs x hx],λx hx=>by rw[aa.get_set,if_neg];rintro rfl;exact hx hS⟩
def nF{b:Nat}{o:di}(hS:S b):F0 S H (H.set b o):=⟨λx hx=>by rw[aa.get_set,if_neg];rintro rfl;exact hx hS⟩
def Hk{o:di}(hn:H2.next=H.next)(hs:∀x,S x->H2.get x=H.get x)(hS:S H.next):Fr S H (H.push o) H2 (H2.push o):=⟨by show H2.next+1=H.next+1;omega,λx hx=>by rw[aa.get_push,aa.get_push,hn,hs x hx],λx hx=>by rw[aa.get_push,if_neg];rw[hn];rintro rfl;exact hx hS⟩
def yH{o:di}(hS:S H.next):F0 S H (H.push o):=⟨λx hx=>by rw[aa.get_push,if_neg];rintro rfl;exact hx hS⟩
def Ul(hn:H2.next=H.next)(hs:∀x,S x->H2.get x=H.get x):Fr S H H H2 H2:=⟨hn,hs,λ_ _=>rfl⟩
def BI{α β:Type}{o:Option α}{f:α->β}{y:β}(h:o.map f=some y):∃x,o=some x/\f x=y:=by
 cases o with
 |none=>simp at h
 |some x=>exact⟨x,rfl,by simpa using h⟩
def BG{n:Nat}{a x:ae}(hS:∀b,cg a=some b->S b)(h:bh n H a x=some H1) :
  AX S H (λH=>match bh n H a x with|some H'=>some (cF,H')|none=>none) cF H1/\H1.next=H.next:=by
 unfold bh at h;split at h<;>first|(simp at h;done)|skip
 rename_i a;cases hb:Nat.beq x.cells.length n with
 |false=>rw[hb]at h;simp at h
 |true=>rw[hb,cond_true,tH]at h;obtain⟨o,ho,rfl⟩:=BI h;have hs':S a.b:=hS _ rfl;refine⟨⟨λH2 hn hs=>⟨H2.set a.b o,?_,wA hs' hn hs⟩,nF hs'⟩,rfl⟩;simp only[bh,hb,cond_true,tH,hs _ hs',ho,Option.map_some]
def IA{n:Nat}{x:ae}(hS:∀b,cg x=some b->S b)(hs:∀x,S x->H2.get x=H.get x):gz n H2 x=gz n H x:=by
 unfold gz;split<;>first|rfl|skip
 rename_i a m r;rw[vM (hs _ (hS _ rfl))]
def AU{sz by_:Nat}{s x v:ae}(h1:∀b,cg s=some b->S b)(h2:∀b,cg x=some b->S b)(h3:∀b,cg v=some b->S b)(h:a8 sz by_ H s x=some (v,H1)) :
  AX S H (λH=>a8 sz by_ H s x) v H1:=by
 have key:∀H2:aa,H2.next=H.next->(∀x,S x->H2.get x=H.get x)->(∃H3,a8 sz by_ H2 s x=some (v,H3)/\Fr S H H1 H2 H3)/\F0 S H H1:=by
  intro H2 hn hs;have hsrc:=IA (n:=sz) h2 hs;unfold a8 at h ⊢;rw[hsrc];split at h
  ·simp at h
  ·rename_i n xs hx;try simp only
   cases hz:Nat.beq n 0 with
   |true=>
    rw[hz,cond_true]at h;simp only[cond_true];split at h
    ·simp only[sJ,pJ]at h;obtain⟨rfl,rfl⟩:=h;exact⟨⟨_,rfl,Ul hn hs⟩,F0.refl _ _⟩
    ·simp at h
   |false=>
    rw[hz,cond_false]at h;simp only[cond_false];split at h<;>first|(simp at h;done)|skip
    rename_i so len room;try simp only
    cases hc:(Nat.blt 0 sz&&(Nat.ble ((2*(len+n)+0)*by_) 281474976710656&&(Nat.ble (len+n) 9223372036854775807&&(Nat.beq xs.length (n*sz)&&xs.all ae.one))))with
    |false=>rw[hc]at h;simp at h
    |true=>
     rw[hc,cond_true]at h;simp only[cond_true];split at h
     ·simp only[sJ,pJ]at h;obtain⟨rfl,rfl⟩:=h;have hb:S H.next:=h3 _ rfl;refine⟨⟨_,?_,Hk hn hs hb⟩,yH hb⟩;simp only[hn]
     ·rename_i a c;have ha:S a.b:=h1 _ rfl;try simp only
      cases hk:Nat.ble (len+n) c with
      |true=>
       rw[hk,cond_true,tH]at h;simp only[cond_true,tH,hs _ ha];cases ho:VF ⟨a.b,a.lim,a.o+len*sz⟩ xs (H.get a.b)with
       |none=>rw[ho]at h;simp at h
       |some o=>rw[ho]at h;simp only[Option.map_some,sJ,pJ]at h;obtain⟨rfl,rfl⟩:=h;exact⟨⟨_,by simp only[Option.map_some],wA ha hn hs⟩,nF ha⟩
      |false=>
       rw[hk,cond_false]at h;simp only[cond_false,vM (hs _ ha)];split at h
       ·rename_i old ho;simp only[sJ,pJ]at h;obtain⟨rfl,rfl⟩:=h;have hb:S H.next:=h3 _ rfl;refine⟨⟨_,?_,Hk hn hs hb⟩,yH hb⟩;simp only[hn]
       ·simp at h
     ·rename_i a z;have ha:S a.b:=h1 _ rfl;try simp only
      cases hk:Nat.beq z sz with
      |false=>rw[hk]at h;simp at h
      |true=>
       rw[hk,cond_true]at h;simp only[cond_true];cases hk2:Nat.ble (a.o+(len+n)*sz) a.lim with
       |true=>
        rw[hk2,cond_true,tH]at h;simp only[cond_true,tH,hs _ ha];cases ho:VF ⟨a.b,a.lim,a.o+len*sz⟩ xs (H.get a.b)with
        |none=>rw[ho]at h;simp at h
        |some o=>rw[ho]at h;simp only[Option.map_some,sJ,pJ]at h;obtain⟨rfl,rfl⟩:=h;exact⟨⟨_,by simp only[Option.map_some],wA ha hn hs⟩,nF ha⟩
       |false=>
        rw[hk2,cond_false,G5]at h;simp only[cond_false,G5,hs _ ha];cases ho:Lz a (a.o+len*sz) xs (H.get a.b)with
        |none=>rw[ho]at h;simp at h
        |some o=>rw[ho]at h;simp only[Option.map_some,sJ,pJ]at h;obtain⟨rfl,rfl⟩:=h;exact⟨⟨_,by simp only[Option.map_some],wA ha hn hs⟩,nF ha⟩
 exact⟨λH2 hn hs=>(key H2 hn hs).1,(key H rfl λ_ _=>rfl).2⟩
def tm{k:lX}{b:Nat}{l:List ae}{v:ae}{o:di}(h:pD k b l=some (v,o)):cg v=some b:=by
 unfold pD at h
 repeat' split at h
 all_goals first
  |(simp at h;done)
  |(simp only[sJ,pJ]at h;obtain⟨rfl,rfl⟩:=h;rfl)
  |(simp only[cond_eq_ite]at h;split at h<;>first|(simp at h;done)|(simp only[sJ,pJ]at h;obtain⟨rfl,rfl⟩:=h;rfl))
def qd{k:lX}{b:Nat}{l:List ae}{v:ae}(h:iL k b H l=some (v,H1)):∃c o,H.get b=some (.cells c 0 false)/\pD k b l=some (v,o)/\H1=H.set b o:=by
 unfold iL at h;split at h<;>first|(simp at h;done)|skip
 rename_i c hg;split at h<;>first|(simp at h;done)|skip
 rename_i p hp;simp only[sJ,pJ]at h;obtain⟨rfl,rfl⟩:=h;exact⟨c,p.2,hg,hp,rfl⟩
def CI{k:lX}{b:Nat}{r:List ae}{c:List ae}{v:ae}{o:di}(hg:H.get b=some (.cells c 0 false))(ho:pD k b r=some (v,o)):iL k b H r=some (v,H.set b o):=by simp only[iL,hg,ho]
def EY{k:lX}{b:Nat}{l:List ae}{v:ae}(h3:∀c,cg v=some c->S c)(h:iL k b H l=some (v,H1)) :
  AX S H (λH=>iL k b H l) v H1/\H1.next=H.next/\cg v=some b:=by
 obtain⟨c,o,hg,ho,rfl⟩:=qd h;have hb:S b:=h3 _ (tm ho);exact⟨⟨λH2 hn hs=>⟨H2.set b o,CI (by rw[hs _ hb];exact hg) ho,wA hb hn hs⟩,nF hb⟩,rfl,tm ho⟩
def EH{agg:Bool}{n:Nat}{x:ae}(hS:∀b,cg x=some b->H2.get b=H.get b):al agg n H2 x=al agg n H x:=by
 unfold al;split<;>first|rfl|skip
 rename_i a;rw[vM (hS _ rfl)]
end
section
variable {tb:FuncId->Bool} {call:FuncId->List ae->aa->Option (ae×aa)} {T:Tr ae} {H H1:aa}
def su{o:aD}{v:ae}(hg:o.guard=none)(ht:qW o.op=true)(h:dh tb call o T H=some (v,H1)) :
  AX (λx=>x∈gN T o.op v) H (λH=>dh tb call o T H) v H1/\(nH o.op=true->H1.next=H.next/\∃b,gN T o.op v=[b]):=by
 obtain⟨d,op,g⟩:=o;simp only at hg;subst hg;unfold dh at h ⊢;simp only[pm,cond_true]at h ⊢;cases op<;>simp only[qW,XJ]at ht
 case store n a x=>
  simp only[dZ]at h ⊢;cases hs:bh n H (ev T a) (ev T x)with
  |none=>rw[hs]at h;simp at h
  |some H'=>
   rw[hs]at h;simp only[sJ,pJ]at h;obtain⟨rfl,rfl⟩:=h;obtain⟨q,qn⟩:=BG (S:=λy=>y∈gN T (.store n a x) cF) (λb hb=>lT (List.mem_singleton.2 rfl) hb) hs;refine⟨⟨λH2 hn hs=>?_,q.2⟩,λ_=>⟨qn,?_⟩⟩
   ·obtain⟨H3,e,f⟩:=q.1 H2 hn hs;refine⟨H3,?_,f⟩;simp only at e ⊢;cases h4:bh n H2 (ev T a) (ev T x)with
    |none=>rw[h4]at e;simp at e
    |some H4=>rw[h4]at e;simp only[sJ,pJ,true_and]at e;subst e;rfl
   ·unfold bh at hs;split at hs<;>first|(simp at hs;done)|skip
    rename_i a' ha';exact⟨a'.b,by simp only[gN,ha'];rfl⟩
 case append n b s x=>
  simp only[dZ,vh]at h ⊢;cases hs:a8 n b H (ev T s) (ev T x)with
  |none=>rw[hs]at h;simp at h
  |some p=>obtain⟨u,H'⟩:=p;rw[hs]at h;simp only[sJ,pJ]at h;obtain⟨rfl,rfl⟩:=h;have q:=AU (S:=λy=>y∈gN T (.append n b s x) u) (λb hb=>lT (by simp) hb) (λb hb=>lT (x:=ev T x) (by simp) hb) (λb hb=>lT (by simp) hb) hs;refine⟨⟨λH2 hn hs=>?_,q.2⟩,λhm=>by simp[nH]at hm⟩;obtain⟨H3,e,f⟩:=q.1 H2 hn hs;exact⟨H3,by simp only[e],f⟩
 case hf f l=>
  cases f<;>simp only[XJ]at ht;rename_i b k;simp only[dZ,vh,kj]at h ⊢;cases hs:iL k b H (pF T l)with
  |none=>rw[hs]at h;simp at h
  |some p=>obtain⟨u,H'⟩:=p;rw[hs]at h;simp only[sJ,pJ]at h;obtain⟨rfl,rfl⟩:=h;obtain⟨q,qn,qb⟩:=EY (S:=λy=>y∈gN T (.hf (.fill b k) l) u) (λb hb=>lT (by simp) hb) hs;refine⟨⟨λH2 hn hs=>?_,q.2⟩,λ_=>⟨qn,b,by simp only[gN,tA,qb]⟩⟩;obtain⟨H3,e,f⟩:=q.1 H2 hn hs;exact⟨H3,by simp only[e],f⟩
def IY{o:aD}{v:ae}(hg:o.guard=none)(ht:nH o.op=true)(h:dh tb call o T H=some (v,H1)){H2:aa}(hs:∀x∈gN T o.op v,H2.get x=H.get x) :
  ∃H3,dh tb call o T H2=some (v,H3)/\H3.next=H2.next/\(∀x∈gN T o.op v,H3.get x=H1.get x)/\∀x,x∉gN T o.op v->H3.get x=H2.get x:=by
 obtain⟨d,op,g⟩:=o;simp only at hg;subst hg;unfold dh at h ⊢;simp only[pm,cond_true]at h ⊢;cases op<;>simp only[nH,XJ]at ht
 case store n a x=>
  simp only[dZ]at h ⊢;cases hst:bh n H (ev T a) (ev T x)with
  |none=>rw[hst]at h;simp at h
  |some H'=>
   rw[hst]at h;simp only[sJ,pJ]at h;obtain⟨rfl,rfl⟩:=h;unfold bh at hst;split at hst<;>first|(simp at hst;done)|skip
   rename_i a' ha';have e0:gN T (.store n a x) cF=[a'.b]:=by simp only[gN,ha'];rfl
   rw[e0]at hs ⊢;have hb':=hs a'.b (List.mem_singleton.2 rfl);cases hb:Nat.beq (ev T x).cells.length n with
   |false=>rw[hb]at hst;simp at hst
   |true=>
    rw[hb,cond_true,tH]at hst;obtain⟨o,ho,rfl⟩:=BI hst;refine⟨H2.set a'.b o,?_,rfl,λy hy=>?_,λy hy=>?_⟩
    ·simp only[ha',bh,hb,cond_true,tH,hb',ho,Option.map_some]
    ·obtain rfl:=List.mem_singleton.1 hy;rw[aa.get_set,aa.get_set,if_pos rfl,if_pos rfl]
    ·rw[aa.get_set,if_neg];rintro rfl;exact hy (List.mem_singleton.2 rfl)
 case hf f l=>
  cases f<;>simp only[XJ]at ht;rename_i b k;simp only[dZ,vh,kj]at h ⊢;cases hst:iL k b H (pF T l)with
  |none=>rw[hst]at h;simp at h
  |some p=>
   obtain⟨u,H'⟩:=p;rw[hst]at h;simp only[sJ,pJ]at h;obtain⟨rfl,rfl⟩:=h;obtain⟨c,o,hgb,ho,rfl⟩:=qd hst;have e0:gN T (.hf (.fill b k) l) u=[b]:=by simp only[gN,tA,tm ho]
   rw[e0]at hs ⊢;have hb':=hs b (List.mem_singleton.2 rfl);refine⟨H2.set b o,?_,rfl,λy hy=>?_,λy hy=>?_⟩
   ·rw[CI (by rw[hb'];exact hgb) ho]
   ·obtain rfl:=List.mem_singleton.1 hy;rw[aa.get_set,aa.get_set,if_pos rfl,if_pos rfl]
   ·rw[aa.get_set,if_neg];rintro rfl;exact hy (List.mem_singleton.2 rfl)
def J5{o:aD}{v:ae}(hg:o.guard=none)(ht:qW o.op=true)(h:dh tb call o T H=some (v,H1)){x:Nat}(hx:x∉gN T o.op v):H1.get x=H.get x:=(su hg ht h).1.2.rest x hx
def Al{o:jz}(h:nH o=true):qW o=true:=by
 cases o<;>simp only[nH,XJ]at h<;>first|rfl|skip
 rename_i f l;cases f<;>simp only[XJ]at h<;>rfl
end
def cX.ext_heap{Prot:Gh}{w0:World}{ρ:Pl}{H H':aa}{w:World}(R:cX Prot w0 ρ H w)(hn:H'.next=H.next)(h:∀x,H'.get x=H.get x):cX Prot w0 ρ H' w:=
 ⟨R.os,R.tape,R.output,R.size,R.prot,λb l L q=>by rw[hn];exact R.dom b l L q,λb l L q=>by rw[h];exact R.obj b l L q,
  λb l L x q hx=>R.free b l L x q (by rw[<- h];exact hx),λb l L b' l' L' x q q' e hx=>R.inj b l L b' l' L' x q q' e (by rw[<- h];exact hx),
  λb q=>by rw[hn];exact R.dead b q,λb l low hx=>R.glob b l low (by rw[<- h];exact hx)⟩
end Go.Abs
