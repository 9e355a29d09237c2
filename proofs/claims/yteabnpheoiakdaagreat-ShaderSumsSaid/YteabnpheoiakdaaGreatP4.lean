/- Part of a proof (A10 D1 D2 D3 D3b); no condition. -/
import Derived.Orders
import Derived.Test.YteabnpheoiakdaaGreatP3
set_option linter.unusedSimpArgs false
set_option linter.unusedVariables false
set_option linter.unnecessarySimpa false
namespace Go.Abs
section
variable {P:Program} {Prot:Gh} {w0:World} {ρ:Pl} {H H':ae} {w:World}
theorem BF{op:BinOp}{t:TypeId}{x y:Operand}{u v:Value}{p q r:aa}(hx:ah ρ p u)(hy:ah ρ q v)(h:bv op p q=some r):(eqGuard op t x y u v).run P w=.ok () w:=by
 unfold bv at h
 split at h
 ·simp only[ah]at hx hy
  subst hx hy
  cases op <;> rfl
 ·simp only[ah]at hx hy
  subst hx hy
  cases op <;> rfl
 ·simp at h
theorem Ga{b:Bool}{v:Value}(h:ah ρ (.bool b) v):(asBool v).run P w=.ok b w:=by
 simp only[ah]at h; subst h; rfl
theorem fO{f:FuncId}(h:bO P f=true)(args:Array Value):(callFunc f args).run P w=.ok (.enter f args) w:=by
 unfold bO at h
 rw[SE]at h
 replace h:=h.2
 split at h
 ·rename_i fn hf
  simp only[SE,Bool.not_eq_true']at h
  have h1:fn.body.isNone=false:=by
   cases hb:fn.body with
   | none=>rw[hb]at h; simp at h
   | some b=>rfl
  simp only[callFunc,Sem.run_bind,run_program,Result.andThen_ok,hf,h.2,SO,if_false,h1]
  rfl
 ·simp at h
theorem Ko{t:TypeId}(h:lu P t=true):JH P t:=by
 unfold lu at h
 split at h
 ·rename_i e he; exact .inl ⟨e,he⟩
 ·rename_i he; exact .inr he
 ·simp at h
theorem Cf{α:Type}{x y:α}{arr:Array α}(h:arr.toList=[x,y]):arr=#[x,y]:=Array.toList_inj.1 (by simpa using h)
theorem tl{x y:a8}{l:List Operand}(h:dC l=some [x,y]):∃p q,l=[p,q]/\bT p=some x/\bT q=some y:=by
 cases l with
 | nil=>simp[dC]at h
 | cons p l=>
  cases l with
  | nil=>
   simp only[dC]at h
   split at h
   ·rename_i a b h1 h2
    simp only[sJ,List.cons.injEq]at h h2
    rw[<- h2]at h
    simp at h
   ·simp at h
  | cons q l=>
   cases l with
   | nil=>
    simp only[dC]at h
    split at h
    ·rename_i a b h1 h2
     split at h2
     ·rename_i c d h3 h4
      simp only[sJ]at h4 h2
      subst h4
      subst h2
      simp only[sJ,List.cons.injEq,and_true]at h
      obtain⟨rfl,rfl⟩:=h
      exact⟨p,q,rfl,h1,h3⟩
     ·simp at h2
    ·simp at h
   | cons r l=>
    simp only[dC]at h
    split at h
    ·rename_i a b h1 h2
     split at h2
     ·rename_i c d h3 h4
      split at h4
      ·rename_i e f h5 h6
       simp only[sJ]at h4 h2
       subst h4
       subst h2
       simp at h
      ·simp at h4
     ·simp at h2
    ·simp at h
theorem yZ{x:a8}{l:List Operand}(h:dC l=some [x]):∃p,l=[p]/\bT p=some x:=by
 cases l with
 | nil=>simp[dC]at h
 | cons p l=>
  cases l with
  | nil=>
   simp only[dC]at h
   split at h
   ·rename_i a b h1 h2
    simp only[sJ,List.cons.injEq]at h h2
    subst h2
    obtain⟨rfl,_⟩:=h
    exact⟨p,rfl,h1⟩
   ·simp at h
  | cons q l=>
   simp only[dC]at h
   split at h
   ·rename_i a b h1 h2
    split at h2
    ·rename_i c d h3 h4
     simp only[sJ]at h2
     subst h2
     simp at h
    ·simp at h2
   ·simp at h
theorem I5{tb:FuncId->Bool}(htb:∀f,Nat.blt f cj=true->tb f=true->bO P f=true)(R:bF Prot w0 ρ H w){n:Nat}{T:Tr aa}{a:Act}(ht:be ρ n T a.tmps)(o:Oper)(c:Call){ao:gL}(hc:iR P c=some ao)
  {nx:Nx} (h:bW tb T H ao=some (nx,H')):aX P Prot w0 ρ w (execOp a.eval { o with op:=.call c }) nx H':=by
 obtain⟨callee,args,argTypes⟩:=c
 unfold iR at hc
 split at hc
 ·-- a function
  rename_i f heq
  simp only at heq
  subst heq
  cases hbig:Nat.blt f cj with
  | false=>rw[hbig]at hc; simp at hc
  | true=>
  rw[hbig]at hc
  simp only[cond_true]at hc
  split at hc
  ·rename_i l hl
   simp only[sJ]at hc
   subst hc
   simp only[bW]at h
   cases hb:tb f with
   | false=>rw[hb]at h; simp at h
   | true=>
    rw[hb]at h
    simp only[cond_true,sJ,pJ]at h
    obtain⟨rfl,rfl⟩:=h
    refine⟨ρ,w,.enter f (args.map a.eval),Pl.le_refl _,?_,R,rfl,hbig,?_⟩
    ·have:=fO (P:=P) (w:=w) (htb f hbig hb) (args.map a.eval)
     simp[execOp,resolve,Act.eval,Deferred.ofValue,invoke,this]
    ·simpa using gI ht hl
  ·simp at hc
 ·rename_i x _ heq
  simp only at heq
  subst heq
  split at hc
  ·rename_i y l hy hl
   simp only[sJ]at hc
   subst hc
   simp only[bW]at h
   split at h
   ·rename_i f fs cs hev
    cases hb':(Nat.blt f cj&&tb f) with
    | false=>rw[hb']at h; simp at h
    | true=>
     rw[hb']at h
     simp only[SE]at hb'
     obtain⟨hbig,hb⟩:=hb'
     simp only[cond_true,sJ,pJ]at h
     obtain⟨rfl,rfl⟩:=h
     have hv:=aG ht hy
     rw[hev]at hv
     simp only[ah]at hv
     obtain⟨fv,cv,hfv,h1,h2⟩:=hv
     refine⟨ρ,w,.enter f (fv++args.map a.eval++cv),Pl.le_refl _,?_,R,rfl,hbig,?_⟩
     ·have:=fO (P:=P) (w:=w) (htb f hbig hb) (fv++args.map a.eval++cv)
      simp only[Array.append_assoc]at this
      simp[execOp,resolve,hfv,Deferred.ofValue,invoke,this]
     ·simpa using aq.append (aq.append h1 (gI ht hl)) h2
   ·simp at h
  ·simp at hc
 ·-- append
  rename_i heq
  simp only at heq
  subst heq
  split at hc
  ·rename_i sT xT s x hT hO
   simp only at hT hO
   obtain⟨p,q,hpq,hp,hq⟩:=tl hO
   have ha:=Cf hT
   have hb:=Cf hpq
   subst ha hb
   split at hc
   ·rename_i e he
    split at hc
    ·rename_i g m m' b h1 h2
     cases hg:(Nat.beq m m'&&lu P xT) with
     | false=>rw[hg]at hc; simp at hc
     | true=>
      rw[hg]at hc
      simp only[SE]at hg
      simp only[cond_true,sJ]at hc
      subst hc
      have:=SI hg.1
      subst this
      simp only[bW]at h
      obtain⟨y,hy,rfl⟩:=cr h
      have:=aX.good (Gb (P:=P) (t:=o.type) R he (dl h1) (rI h2) (Ko hg.2) (aG ht hp) (aG ht hq) hy)
      simpa[execOp,resolve,invoke,builtin] using this
    ·simp at hc
   ·simp at hc
  ·simp at hc
 ·-- len
  rename_i heq
  simp only at heq
  subst heq
  split at hc
  ·rename_i T1 x hT hO
   simp only at hT hO
   obtain⟨p,hpq,hp⟩:=yZ hO
   have ha:argTypes=#[T1]:=Array.toList_inj.1 (by simpa using hT)
   have hb:args=#[p]:=Array.toList_inj.1 (by simpa using hpq)
   subst ha hb
   split at hc
   ·rename_i e he
    simp only[sJ]at hc
    subst hc
    simp only[bW]at h
    obtain⟨y,hy,rfl,rfl⟩:=bD h
    have hx:=aG ht hp
    unfold iT at hy
    split at hy
    ·simp at hy
    ·rename_i a1 n1 r1 hev
     simp only[cond_false,sJ]at hy
     have:=aX.val R (Bn (P:=P) (w:=w) (t:=o.type) (.inl ⟨e,he⟩) hx (by rw[hev]; simp only[B5,sJ]; exact hy) (.inr (.inl ⟨a1,n1,r1,e,hev,he⟩)))
     simpa[execOp,resolve,invoke,builtin] using this
    ·rename_i a1 n1 c1 hev
     simp only[cond_false,sJ]at hy
     have:=aX.val R (Bn (P:=P) (w:=w) (t:=o.type) (.inl ⟨e,he⟩) hx (by rw[hev]; simp only[B5,sJ]; exact hy) (.inr (.inr ⟨a1,n1,c1,e,hev,he⟩)))
     simpa[execOp,resolve,invoke,builtin] using this
    ·simp at hy
   ·rename_i he
    simp only[sJ]at hc
    subst hc
    simp only[bW]at h
    obtain⟨y,hy,rfl,rfl⟩:=bD h
    have hx:=aG ht hp
    unfold iT at hy
    split at hy
    ·rename_i s1 hev
     simp only[cond_true,sJ]at hy
     have:=aX.val R (Bn (P:=P) (w:=w) (t:=o.type) (.inr he) hx (by rw[hev]; simp only[B5,sJ]; exact hy) (.inl ⟨s1,hev,he⟩))
     simpa[execOp,resolve,invoke,builtin] using this
    ·simp at hy
    ·simp at hy
    ·simp at hy
   ·simp at hc
  ·simp at hc
 ·simp at hc
theorem KL{tb:FuncId->Bool}(htb:∀f,Nat.blt f cj=true->tb f=true->bO P f=true)(R:bF Prot w0 ρ H w){n:Nat}{T:Tr aa}{a:Act}(ht:be ρ n T a.tmps)(o:Oper){ao:gL}(hc:ya P o.op=some ao)
  {nx:Nx} (h:bW tb T H ao=some (nx,H')):aX P Prot w0 ρ w (execOp a.eval o) nx H':=by
 obtain⟨dst,op,type,pos,after,guard⟩:=o
 simp only at hc
 cases op <;> simp only[ya,reduceCtorEq]at hc
 case move x=>
  split at hc
  ·rename_i y hy
   simp only[sJ]at hc; subst hc
   simp only[bW,sJ,pJ]at h
   obtain⟨rfl,rfl⟩:=h
   exact⟨ρ,w,_,Pl.le_refl _,rfl,R,aG ht hy⟩
  ·simp at hc
 case assign x=>
  split at hc
  ·rename_i y hy
   simp only[sJ]at hc; subst hc
   simp only[bW,sJ,pJ]at h
   obtain⟨rfl,rfl⟩:=h
   exact⟨ρ,w,_,Pl.le_refl _,rfl,R,aG ht hy⟩
  ·simp at hc
 case pick c x y=>
  split at hc
  ·rename_i c' x' y' h1 h2 h3
   simp only[sJ]at hc; subst hc
   simp only[bW]at h
   split at h
   ·rename_i b hb
    simp only[sJ,pJ]at h
    obtain⟨rfl,rfl⟩:=h
    have hcv:=aG ht h1
    rw[hb]at hcv
    refine⟨ρ,w,.value (if b then a.eval x else a.eval y),Pl.le_refl _,?_,R,?_⟩
    ·simp only[execOp,Sem.run_bind,Ga hcv,Result.andThen_ok]; rfl
    ·cases b
     ·exact aG ht h3
     ·exact aG ht h2
   ·simp at h
  ·simp at hc
 case alloc e=>
  split at hc
  ·rename_i z hz
   simp only[sJ]at hc; subst hc
   simp only[bW]at h
   obtain⟨y,hy,rfl⟩:=cr h
   simp only[sJ]at hy
   have:=aX.good (Jt (P:=P) R hz)
   rw[hy]at this
   exact this
  ·simp at hc
 case box e x=>
  split at hc
  ·rename_i y hy
   simp only[sJ]at hc; subst hc
   simp only[bW]at h
   obtain⟨z,hz,rfl⟩:=cr h
   simp only[sJ]at hz
   have:=aX.good (NC (P:=P) R e (aG ht hy))
   rw[hz]at this
   exact this
  ·simp at hc
 case build t ps=>
  split at hc
  ·rename_i fs z hu hz
   split at hc
   ·rename_i pl hpl
    split at hc
    ·rename_i l hl
     simp only[sJ]at hc; subst hc
     simp only[bW]at h
     obtain⟨y,hy,rfl,rfl⟩:=bD h
     have:=aX.val R (Ab (P:=P) (w:=w) (qs:=ps.map fun p=>(p.1,a.eval p.2)) hu hpl hz (by simpa using oA ht hl) hy)
     simpa[execOp] using this
    ·simp at hc
   ·simp at hc
  ·rename_i m e z hu hz
   split at hc
   ·rename_i g k hk
    split at hc
    ·rename_i l hl
     simp only[sJ]at hc; subst hc
     simp only[bW]at h
     obtain⟨y,hy,rfl,rfl⟩:=bD h
     have:=aX.val R (Ac (P:=P) (w:=w) (qs:=ps.map fun p=>(p.1,a.eval p.2)) hu (dl hk) hz (by simpa using oA ht hl) hy)
     simpa[execOp] using this
    ·simp at hc
   ·simp at hc
  ·simp at hc
 case buildSlice t len ps=>
  split at hc
  ·rename_i e hu
   split at hc
   ·rename_i g k z hk hz
    split at hc
    ·rename_i l hl
     cases hg:(Nat.beq z.length k&&Nat.ble (len*k) 16777216) with
     | false=>rw[hg]at hc; simp at hc
     | true=>
      rw[hg]at hc
      simp only[SE,Nat.ble_eq]at hg
      simp only[cond_true,sJ]at hc; subst hc
      simp only[bW]at h
      obtain⟨y,hy,rfl⟩:=cr h
      have:=aX.good (BU (P:=P) (qs:=ps.map fun p=>(p.1,a.eval p.2)) R hu (dl hk) hz (SI hg.1) hg.2 (by simpa using oA ht hl) hy)
      simpa[execOp] using this
    ·simp at hc
   ·simp at hc
  ·simp at hc
 case load t x=>
  split at hc
  ·rename_i g k y hk hy
   simp only[sJ]at hc; subst hc
   simp only[bW]at h
   obtain⟨z,hz,rfl,rfl⟩:=bD h
   exact aX.val R (xF (P:=P) R (dl hk) (aG ht hy) hz)
  ·simp at hc
 case store t x y=>
  split at hc
  ·rename_i g k x' y' hk hx hy
   simp only[sJ]at hc; subst hc
   simp only[bW]at h
   split at h
   ·rename_i H1 h1
    simp only[sJ,pJ]at h
    obtain⟨rfl,rfl⟩:=h
    obtain⟨w',q1,q2⟩:=Hl (P:=P) R (dl hk) (aG ht hx) (aG ht hy) h1
    refine⟨ρ,w',.skip,Pl.le_refl _,?_,q2,?_⟩
    ·simp only[execOp,Sem.run_bind,q1,Result.andThen_ok]; rfl
    ·simp only[jQ,aR,ah,undef]; exact⟨#[],rfl,by simp[aq]⟩
   ·simp at h
  ·simp at hc
 case nilCheck x=>
  split at hc
  ·rename_i y hy
   simp only[sJ]at hc; subst hc
   simp only[bW]at h
   obtain⟨z,hz,rfl,rfl⟩:=bD h
   exact Fj R (aG ht hy) hz ⟨dst,.nilCheck x,type,pos,after,guard⟩ a.eval rfl
  ·simp at hc
 case binOp op t x y yt=>
  split at hc
  ·rename_i x' y' hx hy
   simp only[sJ]at hc; subst hc
   simp only[bW]at h
   obtain⟨z,hz,rfl,rfl⟩:=bD h
   obtain⟨u,h1,h2⟩:=On (P:=P) (t:=t) (aG ht hx) (aG ht hy) hz w
   refine aX.val R ⟨u,?_,h2⟩
   simp only[Sem.run_bind,BF (aG ht hx) (aG ht hy) hz,Result.andThen_ok,h1]
  ·simp at hc
 case unOp op t x=>
  split at hc
  ·rename_i y hy
   simp only[sJ]at hc; subst hc
   simp only[bW]at h
   obtain⟨z,hz,rfl,rfl⟩:=bD h
   exact aX.val R (Pv (P:=P) (aG ht hy) hz w)
  ·simp at hc
 case convert s d x=>
  split at hc
  ·rename_i y hy
   split at hc
   ·rename_i d1 k h1 h2
    simp only[sJ]at hc; subst hc
    simp only[bW]at h
    obtain⟨z,hz,rfl,rfl⟩:=bD h
    exact aX.val R (Lx (P:=P) h1 h2 (aG ht hy) hz w)
   ·rename_i e _ h1 h2
    split at hc
    ·rename_i he
     simp only[sJ]at hc; subst hc
     simp only[bW]at h
     obtain⟨z,hz,rfl⟩:=cr h
     exact aX.good (Pz (P:=P) R h1 h2 he (aG ht hy) hz)
    ·simp at hc
   ·rename_i e _ h1 h2
    split at hc
    ·rename_i he
     simp only[sJ]at hc; subst hc
     simp only[bW]at h
     obtain⟨z,hz,rfl,rfl⟩:=bD h
     exact aX.val R (Qt (P:=P) R h1 he h2 (aG ht hy) hz)
    ·simp at hc
   ·simp at hc
  ·simp at hc
 case makeInterface t x=>
  split at hc
  ·simp at hc
  ·rename_i y d hno hy hu
   simp only[sJ]at hc; subst hc
   simp only[bW,sJ,pJ]at h
   obtain⟨rfl,rfl⟩:=h
   refine aX.val R ⟨.iface t (a.eval x),?_,by simp only[ah]; exact⟨_,rfl,aG ht (by assumption)⟩⟩
   cases d <;> first
    | exact (hno _ rfl).elim
    | (simp only[Instr.makeInterface,Sem.run_bind,run_underlying hu,Result.andThen_ok]; rfl)
  ·simp at hc
 case makeFunc fn x y=>
  split at hc
  ·rename_i x' y' hx hy
   simp only[sJ]at hc; subst hc
   simp only[bW,sJ,pJ]at h
   obtain⟨rfl,rfl⟩:=h
   refine aX.val R ⟨.func fn (x.map a.eval) (y.map a.eval),rfl,?_⟩
   simp only[ah]
   exact⟨_,_,rfl,by simpa using gI ht hx,by simpa using gI ht hy⟩
  ·simp at hc
 case makeSlice t l c=>
  split at hc
  ·rename_i e hu
   split at hc
   ·rename_i m b z l' c' h1 h2 h3 h4
    simp only[sJ]at hc; subst hc
    simp only[bW]at h
    obtain⟨y,hy,rfl⟩:=cr h
    exact aX.good (KZ (P:=P) R hu (rI h1) h2 (aG ht h3) (aG ht h4) hy)
   ·simp at hc
  ·simp at hc
 case slice t x lo hi mx=>
  split at hc
  ·rename_i x' lo' hi' hu hx hlo hhi hmx
   simp only[sJ]at hc; subst hc
   simp only[bW]at h
   obtain⟨y,hy,rfl,rfl⟩:=bD h
   have hmn:mx=none:=by
    cases mx with
    | none=>rfl
    | some m=>simp only[mT]at hmx; split at hmx <;> simp at hmx
   subst hmn
   obtain⟨u,q1,q2⟩:=Hn (P:=P) (w:=w) hu (aG ht hx) (jh ht hlo) (jh ht hhi) hy
   refine aX.val R ⟨u,?_,q2⟩
   simp only[Instr.sliceAt,Sem.run_bind,run_underlying hu,Result.andThen_ok]
   exact q1
  ·rename_i e x' lo' hi' mx' hu hx hlo hhi hmx
   split at hc
   ·rename_i g k hk
    simp only[sJ]at hc; subst hc
    simp only[bW]at h
    obtain⟨y,hy,rfl,rfl⟩:=bD h
    obtain⟨u,q1,q2⟩:=Py (P:=P) (w:=w) hu (dl hk) (aG ht hx) (jh ht hlo) (jh ht hhi) (jh ht hmx) hy
    refine aX.val R ⟨u,?_,q2⟩
    simp only[Instr.sliceAt,Sem.run_bind,run_underlying hu,Result.andThen_ok]
    exact q1
   ·simp at hc
  ·simp at hc
 case fieldAddr s x i=>
  split at hc
  ·rename_i fs y hu hy
   split at hc
   ·rename_i f hf
    split at hc
    ·rename_i g k hk
     cases hg:Nat.beq k 0 with
     | true=>rw[hg]at hc; simp at hc
     | false=>
      rw[hg]at hc
      simp only[cond_false,sJ]at hc; subst hc
      simp only[bW]at h
      obtain⟨z,hz,rfl,rfl⟩:=bD h
      exact aX.val R (wf (P:=P) (w:=w) hu hf (dl hk) (fun e=>by rw[e]at hg; simp at hg) (aG ht hy) hz)
    ·simp at hc
   ·simp at hc
  ·simp at hc
 case field s x i=>
  split at hc
  ·rename_i fs y hu hy
   split at hc
   ·rename_i f hf
    split at hc
    ·rename_i g k hk
     simp only[sJ]at hc; subst hc
     simp only[bW]at h
     obtain⟨z,hz,rfl,rfl⟩:=bD h
     exact aX.val R (FJ (P:=P) (w:=w) hu hf (dl hk) (aG ht hy) hz)
    ·simp at hc
   ·simp at hc
  ·simp at hc
 case indexAddr t x i=>
  split at hc
  ·rename_i e x' i' hu hx hi
   split at hc
   ·rename_i g k hk
    simp only[sJ]at hc; subst hc
    simp only[bW]at h
    obtain⟨z,hz,rfl,rfl⟩:=bD h
    exact aX.val R (Lq (P:=P) (w:=w) hu (dl hk) (aG ht hx) (aG ht hi) hz)
   ·simp at hc
  ·rename_i m e x' i' hu hx hi
   split at hc
   ·rename_i g k hk
    simp only[sJ]at hc; subst hc
    simp only[bW]at h
    obtain⟨z,hz,rfl,rfl⟩:=bD h
    exact aX.val R (v8 (P:=P) (w:=w) hu (dl hk) (aG ht hx) (aG ht hi) hz)
   ·simp at hc
  ·simp at hc
 case index t x i=>
  split at hc
  ·rename_i x' i' hu hx hi
   simp only[sJ]at hc; subst hc
   simp only[bW]at h
   obtain⟨z,hz,rfl,rfl⟩:=bD h
   exact aX.val R (Lp (P:=P) (w:=w) hu (aG ht hx) (aG ht hi) hz)
  ·rename_i m e x' i' hu hx hi
   split at hc
   ·rename_i g k hk
    simp only[sJ]at hc; subst hc
    simp only[bW]at h
    obtain⟨z,hz,rfl,rfl⟩:=bD h
    exact aX.val R (NN (P:=P) (w:=w) hu (dl hk) (aG ht hx) (aG ht hi) hz)
   ·simp at hc
  ·simp at hc
 case extract x i=>
  split at hc
  ·rename_i y hy
   simp only[sJ]at hc; subst hc
   simp only[bW]at h
   obtain⟨z,hz,rfl,rfl⟩:=bD h
   exact aX.val R (BC (P:=P) (w:=w) (aG ht hy) hz)
  ·simp at hc
 case call c=>exact I5 htb R ht ⟨dst,.call c,type,pos,after,guard⟩ c hc h
theorem aX.skip{s:Sem Unit}{w':World}(hr:s.run P w=.ok () w')(hR:bF Prot w0 ρ H' w'):aX P Prot w0 ρ w (do s; pure .skip) (.val (.tuple [])) H':=
 ⟨ρ,w',.skip,Pl.le_refl _,by simp only[Sem.run_bind,hr,Result.andThen_ok]; rfl,hR,by simp only[jQ,ah,undef]; exact⟨#[],rfl,by simp[aq]⟩⟩
theorem KJ{tb:FuncId->Bool}(R:bF Prot w0 ρ H w){n:Nat}{T:Tr aa}{a:Act}(ht:be ρ n T a.tmps)(o:Oper){ao:gL}(hc:nN P o.op=some ao)
  {nx:Nx} (h:bW tb T H ao=some (nx,H')):aX P Prot w0 ρ w (execOp a.eval o) nx H':=by
 obtain⟨dst,op,type,pos,after,guard⟩:=o
 simp only at hc
 unfold nN at hc
 split at hc
 ·rename_i t x y yt
  split at hc
  ·rename_i x' y' hx hy
   split at hc
   ·rename_i k hk
    simp only[sJ]at hc; subst hc
    simp only[bW]at h
    obtain⟨z,hz,rfl,rfl⟩:=bD h
    simp only[gJ,fT,Ow]at hz
    split at hz
    ·rename_i b hb
     simp only[cond_false,sJ]at hz
     subst hz
     exact aX.val R ⟨_,IM (op:=.eql) (.inl rfl) hk (aG ht hx) (aG ht hy) hb,rfl⟩
    ·simp at hz
   ·split at hc
    ·rename_i fs hk
     simp only[sJ]at hc; subst hc
     simp only[bW]at h
     obtain⟨z,hz,rfl,rfl⟩:=bD h
     simp only[gJ,fT]at hz
     unfold Ay at hz
     split at hz
     ·rename_i l m hlm
      simp only[List.cons.injEq,and_true]at hlm
      obtain⟨e1,e2⟩:=hlm
      have p1:=aG ht hx
      have p2:=aG ht hy
      rw[e1]at p1
      rw[e2]at p2
      split at hz
      ·rename_i b hb
       simp only[cond_false,sJ]at hz
       subst hz
       exact aX.val R ⟨_,De (op:=.eql) (.inl rfl) hk p1 p2 hb,rfl⟩
      ·simp at hz
     ·simp at hz
    ·simp at hc
  ·simp at hc
 ·rename_i t x y yt
  split at hc
  ·rename_i x' y' hx hy
   split at hc
   ·rename_i k hk
    simp only[sJ]at hc; subst hc
    simp only[bW]at h
    obtain⟨z,hz,rfl,rfl⟩:=bD h
    simp only[gJ,fT,Ow]at hz
    split at hz
    ·rename_i b hb
     simp only[cond_true,sJ]at hz
     subst hz
     exact aX.val R ⟨_,IM (op:=.neq) (.inr rfl) hk (aG ht hx) (aG ht hy) hb,rfl⟩
    ·simp at hz
   ·split at hc
    ·rename_i fs hk
     simp only[sJ]at hc; subst hc
     simp only[bW]at h
     obtain⟨z,hz,rfl,rfl⟩:=bD h
     simp only[gJ,fT]at hz
     unfold Ay at hz
     split at hz
     ·rename_i l m hlm
      simp only[List.cons.injEq,and_true]at hlm
      obtain⟨e1,e2⟩:=hlm
      have p1:=aG ht hx
      have p2:=aG ht hy
      rw[e1]at p1
      rw[e2]at p2
      split at hz
      ·rename_i b hb
       simp only[cond_true,sJ]at hz
       subst hz
       exact aX.val R ⟨_,De (op:=.neq) (.inr rfl) hk p1 p2 hb,rfl⟩
      ·simp at hz
     ·simp at hz
    ·simp at hc
  ·simp at hc
 ·rename_i t x
  split at hc
  ·rename_i y hu hy
   simp only[sJ]at hc; subst hc
   simp only[bW]at h
   obtain⟨z,hz,rfl⟩:=cr h
   exact aX.good (HE (P:=P) R hu (aG ht hy) hz)
  ·simp at hc
 ·rename_i x
  split at hc
  ·rename_i y hy
   simp only[sJ]at hc; subst hc
   simp only[bW]at h
   obtain⟨z,hz,rfl⟩:=cr h
   exact aX.good (KR (P:=P) (t:=type) R (aG ht hy) hz)
  ·simp at hc
 ·rename_i t x lo hi mx
  split at hc
  ·rename_i m e x' lo' hi' mx' hu hx hlo hhi hmx
   split at hc
   ·rename_i g k hk
    simp only[sJ]at hc; subst hc
    simp only[bW]at h
    obtain⟨y,hy,rfl,rfl⟩:=bD h
    exact aX.val R (Ho (P:=P) (w:=w) hu (dl hk) (aG ht hx) (jh ht hlo) (jh ht hhi) (jh ht hmx) hy)
   ·simp at hc
  ·simp at hc
 ·rename_i s d x
  cases hb:Nat.beq s d with
  | false=>rw[hb]at hc; simp at hc
  | true=>
   rw[hb]at hc
   have:=SI hb
   subst this
   simp only[cond_true]at hc
   split at hc
   ·rename_i e y hu hy
    split at hc
    ·rename_i he
     simp only[sJ]at hc; subst hc
     simp only[bW]at h
     obtain⟨z,hz,rfl⟩:=cr h
     exact aX.good (KY (P:=P) R hu he (aG ht hy) hz)
    ·simp at hc
   ·simp at hc
 ·rename_i c
  obtain⟨callee,args,argTypes⟩:=c
  split at hc
  ·rename_i heq
   simp only at heq
   subst heq
   split at hc
   ·rename_i l hl
    simp only[sJ]at hc; subst hc
    simp only[bW]at h
    obtain⟨z,hz,rfl,rfl⟩:=bD h
    have hv:=gI ht hl
    simp only[gJ]at hz
    cases hl':fT T l with
    | nil=>rw[hl']at hz; simp[JB]at hz
    | cons x r=>
     rw[hl']at hz hv
     simp only[aq]at hv
     obtain⟨v,vs,e,hx,hr⟩:=hv
     obtain⟨q,hq,hrun⟩:=HY (P:=P) (w:=w) (g:=true) hx hr hz
     refine aX.val R (s:=Builtin.max_ argTypes type (args.map a.eval)) ⟨q,?_,hq⟩
     unfold Builtin.max_
     simp only[Array.toList_map,e]
     exact hrun
   ·simp at hc
  ·rename_i heq
   simp only at heq
   subst heq
   split at hc
   ·rename_i T1 x hT hO
    simp only at hT hO
    obtain⟨p,hpq,hp⟩:=yZ hO
    have ha:argTypes=#[T1]:=Array.toList_inj.1 (by simpa using hT)
    have hb:args=#[p]:=Array.toList_inj.1 (by simpa using hpq)
    subst ha hb
    split at hc
    ·rename_i e he
     split at hc
     ·rename_i zz hzz
      simp only[sJ]at hc
      subst hc
      simp only[bW]at h
      obtain⟨y,hy,rfl⟩:=cr h
      simp only[mV,fT]at hy
      have:=aX.good (N5 (P:=P) R he hzz (ty:=type) (aG ht hp) hy)
      simpa[execOp,resolve,invoke,builtin] using this
     ·simp at hc
    ·simp at hc
   ·simp at hc
  ·rename_i heq
   simp only at heq
   subst heq
   split at hc
   ·rename_i T1 T2 x1 x2 hT hO
    simp only at hT hO
    obtain⟨p,q,hpq,hp,hq⟩:=tl hO
    have ha:argTypes=#[T1,T2]:=Array.toList_inj.1 (by simpa using hT)
    have hb:args=#[p,q]:=Array.toList_inj.1 (by simpa using hpq)
    subst ha hb
    split at hc
    ·rename_i kt el he
     split at hc
     ·rename_i ks hks
      simp only[sJ]at hc
      subst hc
      simp only[bW]at h
      obtain⟨y,hy,rfl⟩:=cr h
      simp only[mV,fT]at hy
      have:=aX.good (KH (P:=P) R he hks (t2:=T2) (ty:=type) (aG ht hp) (aG ht hq) hy)
      simpa[execOp,resolve,invoke,builtin] using this
     ·simp at hc
    ·simp at hc
   ·simp at hc
  ·rename_i heq
   simp only at heq
   subst heq
   split at hc
   ·rename_i T1 T2 x1 x2 hT hO
    simp only at hT hO
    obtain⟨p,q,hpq,hp,hq⟩:=tl hO
    have ha:argTypes=#[T1,T2]:=Array.toList_inj.1 (by simpa using hT)
    have hb:args=#[p,q]:=Array.toList_inj.1 (by simpa using hpq)
    subst ha hb
    split at hc
    ·rename_i e he
     split at hc
     ·rename_i gg nn hzz
      simp only[sJ]at hc
      subst hc
      simp only[bW]at h
      obtain⟨y,hy,rfl⟩:=cr h
      simp only[mV,fT]at hy
      have:=aX.good (N4 (P:=P) R he (t2:=T2) (dl hzz) (ty:=type) (aG ht hp) (aG ht hq) hy)
      simpa[execOp,resolve,invoke,builtin] using this
     ·simp at hc
    ·simp at hc
   ·simp at hc
  ·rename_i heq
   simp only at heq
   subst heq
   split at hc
   ·rename_i l hl
    simp only[sJ]at hc; subst hc
    simp only[bW]at h
    obtain⟨z,hz,rfl,rfl⟩:=bD h
    have hv:=gI ht hl
    simp only[gJ]at hz
    cases hl':fT T l with
    | nil=>rw[hl']at hz; simp[JB]at hz
    | cons x r=>
     rw[hl']at hz hv
     simp only[aq]at hv
     obtain⟨v,vs,e,hx,hr⟩:=hv
     obtain⟨q,hq,hrun⟩:=HY (P:=P) (w:=w) (g:=false) hx hr hz
     refine aX.val R (s:=Builtin.min_ argTypes type (args.map a.eval)) ⟨q,?_,hq⟩
     unfold Builtin.min_
     simp only[Array.toList_map,e]
     exact hrun
   ·simp at hc
  ·rename_i f heq
   simp only at heq
   subst heq
   cases hf:C0 P f with
   | false=>
    rw[hf]at hc
    simp only[cond_false]at hc
    cases hf2:C3 P f with
    | false=>rw[hf2]at hc; simp at hc
    | true=>
     rw[hf2]at hc
     simp only[cond_true]at hc
     split at hc
     ·rename_i l hl
      simp only[sJ]at hc; subst hc
      simp only[bW]at h
      obtain⟨z,hz,rfl,rfl⟩:=bD h
      simp only[gJ]at hz
      obtain⟨q,hq,hrun⟩:=N7 (P:=P) (w:=w) hf2 hz (vs:=args.map a.eval) (by simpa using gI ht hl)
      exact⟨ρ,w,.value q,Pl.le_refl _,by simpa[execOp,resolve,Act.eval,Deferred.ofValue,invoke] using hrun,R,hq⟩
     ·simp at hc
   | true=>
    rw[hf]at hc
    simp only[cond_true]at hc
    split at hc
    ·rename_i l hl
     simp only[sJ]at hc; subst hc
     simp only[bW]at h
     obtain⟨z,hz,rfl,rfl⟩:=bD h
     simp only[gJ]at hz
     obtain⟨q,hq,hrun⟩:=NP (P:=P) (w:=w) hf hz (vs:=args.map a.eval) (by simpa using gI ht hl)
     exact⟨ρ,w,.value q,Pl.le_refl _,by simpa[execOp,resolve,Act.eval,Deferred.ofValue,invoke] using hrun,R,hq⟩
    ·simp at hc
  ·simp at hc
 ·rename_i t g i
  split at hc
  ·rename_i m e i' hu hi
   split at hc
   ·rename_i gg k hk
    simp only[sJ]at hc; subst hc
    simp only[bW]at h
    obtain⟨z,hz,rfl⟩:=cr h
    simp only[mV,fT,M8]at hz
    split at hz
    ·rename_i p hp
     split at hz
     ·rename_i v hv
      simp only[sJ,pJ]at hz
      obtain⟨rfl,rfl⟩:=hz
      exact aX.val R (v8 (P:=P) (w:=w) hu (dl hk) (tG R hp) (aG ht hi) hv)
     ·simp at hz
    ·simp at hz
   ·simp at hc
  ·simp at hc
 ·rename_i t g
  split at hc
  ·rename_i gg k hk
   simp only[sJ]at hc; subst hc
   simp only[bW]at h
   obtain⟨z,hz,rfl⟩:=cr h
   simp only[mV,fT,QB]at hz
   split at hz
   ·rename_i p hp
    split at hz
    ·rename_i v hv
     simp only[sJ,pJ]at hz
     obtain⟨rfl,rfl⟩:=hz
     exact aX.val R (xF (P:=P) R (dl hk) (tG R hp) hv)
    ·simp at hz
   ·simp at hz
  ·simp at hc
 ·rename_i s g i
  split at hc
  ·rename_i fs hu
   split at hc
   ·rename_i f hf
    split at hc
    ·rename_i gg k hk
     cases hb:Nat.beq k 0 with
     | true=>rw[hb]at hc; simp at hc
     | false=>
      rw[hb]at hc
      simp only[cond_false,sJ]at hc; subst hc
      simp only[bW]at h
      obtain⟨z,hz,rfl⟩:=cr h
      simp only[mV,fT,M9]at hz
      split at hz
      ·rename_i p hp
       split at hz
       ·rename_i v hv
        simp only[sJ,pJ]at hz
        obtain⟨rfl,rfl⟩:=hz
        exact aX.val R (wf (P:=P) (w:=w) hu hf (dl hk) (fun e=>by rw[e]at hb; simp at hb) (tG R hp) hv)
       ·simp at hz
      ·simp at hz
    ·simp at hc
   ·simp at hc
  ·simp at hc
 ·rename_i t x
  split at hc
  ·rename_i n e y hu hx
   simp only[sJ]at hc; subst hc
   simp only[bW]at h
   obtain⟨z,hz,rfl,rfl⟩:=bD h
   exact aX.val R (Nw (P:=P) (w:=w) hu (aG ht hx) hz)
  ·simp at hc
 ·rename_i t
  simp only[sJ]at hc; subst hc
  simp only[bW]at h
  obtain⟨z,hz,rfl⟩:=cr h
  exact aX.good (HZ (P:=P) R t hz)
 ·rename_i t m k ok
  split at hc
  ·rename_i kt el m' k' hu hm hk
   split at hc
   ·rename_i kc z0 hkc hz0
    simp only[sJ]at hc; subst hc
    simp only[bW]at h
    obtain⟨z,hz,rfl⟩:=cr h
    exact aX.good (Ib (P:=P) R hu hkc hz0 (aG ht hm) (aG ht hk) hz)
   ·rename_i z0 hkc hz0
    split at hc
    ·rename_i ks hpk
     simp only[sJ]at hc; subst hc
     simp only[bW]at h
     obtain⟨z,hz,rfl⟩:=cr h
     exact aX.good (HL (P:=P) R hu hpk hz0 (aG ht hm) (aG ht hk) hz)
    ·simp at hc
   ·simp at hc
  ·simp at hc
 ·rename_i t m k
  split at hc
  ·rename_i kt el m' k' hu hm hk
   split at hc
   ·rename_i kc z0 hkc hz0
    simp only[sJ]at hc; subst hc
    simp only[bW]at h
    obtain⟨z,hz,rfl⟩:=cr h
    exact aX.good (Ft (P:=P) R hu hkc hz0 (aG ht hm) (aG ht hk) hz)
   ·simp at hc
  ·simp at hc
 ·rename_i t m n x
  split at hc
  ·rename_i m' n' x' hm hn hx
   simp only[sJ]at hc; subst hc
   simp only[bW]at h
   obtain⟨z,hz,rfl⟩:=cr h
   obtain⟨rfl,w',hr,hR⟩:=Fq (P:=P) R t (aG ht hm) (aG ht hn) (aG ht hx) hz
   exact aX.skip hr hR
  ·simp at hc
 ·rename_i t m k x
  split at hc
  ·rename_i kt el m' k' x' hu hm hk hx
   split at hc
   ·rename_i kc hkc
    simp only[sJ]at hc; subst hc
    simp only[bW]at h
    obtain⟨z,hz,rfl⟩:=cr h
    obtain⟨rfl,w',hr,hR⟩:=CR (P:=P) R hu hkc (aG ht hm) (aG ht hk) (aG ht hx) hz
    exact aX.skip hr hR
   ·split at hc
    ·rename_i ks hpk
     simp only[sJ]at hc; subst hc
     simp only[bW]at h
     obtain⟨z,hz,rfl⟩:=cr h
     obtain⟨rfl,w',hr,hR⟩:=KF (P:=P) R hu hpk (aG ht hm) (aG ht hk) (aG ht hx) hz
     exact aX.skip hr hR
    ·simp at hc
  ·simp at hc
 ·rename_i t m k x
  split at hc
  ·rename_i kt el m' k' x' hu hm hk hx
   split at hc
   ·rename_i kc hkc
    simp only[sJ]at hc; subst hc
    simp only[bW]at h
    obtain⟨z,hz,rfl⟩:=cr h
    obtain⟨rfl,w',hr,hR⟩:=CR (P:=P) R hu hkc (aG ht hm) (aG ht hk) (aG ht hx) hz
    exact aX.skip hr hR
   ·simp at hc
  ·simp at hc
 ·rename_i x xt t ok
  split at hc
  ·simp at hc
  ·rename_i d z y hni hu hz hy
   simp only[sJ]at hc; subst hc
   simp only[bW]at h
   obtain⟨r,hr,rfl,rfl⟩:=bD h
   obtain⟨zv,hz1,hz2⟩:=nX hz
   have hx:=aG ht hy
   simp only[gJ,fT]at hr
   generalize ev T y=q at hr hx
   unfold M6 at hr
   split at hr
   ·rename_i heq
    simp only[List.cons.injEq,and_true]at heq
    subst heq
    cases ok with
    | false=>simp at hr
    | true=>
     simp only[cond_true,sJ]at hr
     subst hr
     simp only[ah]at hx
     refine aX.val R ⟨.tuple #[zv,.bool false],?_,?_⟩
     ·show (Instr.typeAssert (a.eval x) xt t true).run P w=_
      rw[hx]
      cases d <;> simp_all [Instr.typeAssert,run_underlying hu]
     ·simp only[ah,aq]
      exact⟨_,rfl,_,_,rfl,hz2 ρ,_,_,rfl,rfl,rfl⟩
   ·rename_i u v heq
    simp only[List.cons.injEq,and_true]at heq
    subst heq
    simp only[ah]at hx
    obtain⟨yv,hx1,hx2⟩:=hx
    cases hb:Nat.beq u t with
    | true=>
     have:=SI hb
     subst this
     rw[hb]at hr
     simp only[cond_true]at hr
     cases ok with
     | false=>
      simp only[cond_false,sJ]at hr
      subst hr
      refine aX.val R ⟨yv,?_,hx2⟩
      show (Instr.typeAssert (a.eval x) xt u false).run P w=_
      rw[hx1]
      cases d <;> simp_all [Instr.typeAssert,run_underlying hu]
     | true=>
      simp only[cond_true,sJ]at hr
      subst hr
      refine aX.val R ⟨.tuple #[yv,.bool true],?_,?_⟩
      ·show (Instr.typeAssert (a.eval x) xt u true).run P w=_
       rw[hx1]
       cases d <;> simp_all [Instr.typeAssert,run_underlying hu]
      ·simp only[ah,aq]
       exact⟨_,rfl,_,_,rfl,hx2,_,_,rfl,rfl,rfl⟩
    | false=>
     have hne:¬u=t:=fun e=>by rw[e,Nat.beq_refl]at hb; simp at hb
     rw[hb]at hr
     simp only[cond_false]at hr
     cases ok with
     | false=>simp at hr
     | true=>
      simp only[cond_true,sJ]at hr
      subst hr
      refine aX.val R ⟨.tuple #[zv,.bool false],?_,?_⟩
      ·show (Instr.typeAssert (a.eval x) xt t true).run P w=_
       rw[hx1]
       cases d <;> simp_all [Instr.typeAssert,run_underlying hu]
      ·simp only[ah,aq]
       exact⟨_,rfl,_,_,rfl,hz2 ρ,_,_,rfl,rfl,rfl⟩
   ·simp at hr
  ·simp at hc
 ·simp at hc
theorem jw{tb:FuncId->Bool}(htb:∀f,Nat.blt f cj=true->tb f=true->bO P f=true)(R:bF Prot w0 ρ H w){n:Nat}{T:Tr aa}{a:Act}(ht:be ρ n T a.tmps)(o:Oper){ao:gL}(hc:uG P o.op=some ao)
  {nx:Nx} (h:bW tb T H ao=some (nx,H')):aX P Prot w0 ρ w (execOp a.eval o) nx H':=by
 unfold uG at hc
 split at hc
 ·rename_i x hx
  simp only[sJ]at hc; subst hc
  exact KJ R ht o hx h
 ·split at hc
  ·rename_i x hx
   simp only[sJ]at hc; subst hc
   exact KL htb R ht o hx h
  ·simp only[sJ]at hc; subst hc
   simp[bW]at h
theorem qS(R:bF Prot w0 ρ H w){t:TypeId}{l:List aa}(h:dH P t=some l){b:Nat}(hd:Prot.dead b)(hx:H.get b=some (.cells l 0 false)) :
  ∃ρ' w' u,ρ.le ρ'/\(Instr.alloc t true (.tuple #[])).run P w=.ok u w'/\bF ⟨Prot.prot,fun d=>Prot.dead d/\d≠b⟩ w0 ρ' H w'/\ah ρ' (.ptr (some ⟨b,l.length,0⟩)) u:=by
 obtain⟨z,h1,h2⟩:=ii h
 have hnone:=(R.dead b hd).2
 have hv:=h2 ρ
 have hlen:l.length=z.cells.size:=by have:=aq.len hv; simpa using this
 obtain⟨q1,q2⟩:=R.claim' hd (w':=w.alloc (.cells z.cells t)) rfl rfl rfl (by simp) (fun i hi=>RowKit.Below.heap_alloc _ _ _ hi) hx (o:=.cells z.cells t) (lim:=l.length) (n:=z.cells.size) (cl:=true) (by show (w.heap.push _)[w.heap.size]?=_; simp) (by
  simp only[er]
  refine⟨z.cells,t,0,0,rfl,rfl,fun _=>⟨fun i _=>om,Nat.le_refl _,fun _=>Nat.le_refl _⟩,Nat.le_refl _,fun _ i i1 i2=>?_⟩
  have hx:l[i]?=some l[i]:=SB i2
  obtain⟨v,u1,u2⟩:=hv.nth _ _ hx
  refine⟨_,v,hx,?_,ah.mono (pD fun L' h'=>by rw[hnone]at h'; simp at h') _ _ u2⟩
  simpa using u1)
 refine⟨_,_,.pointer (some ⟨w.heap.size,0,none⟩),q1,?_,q2,?_⟩
 ·simp only[Instr.alloc,Sem.run_bind,h1,Result.andThen_ok,newVar]; rfl
 ·simp only[ah]; exact⟨_,fU _ _ _ _,Nat.zero_le _,rfl⟩
theorem vS(R:bF Prot w0 ρ H w)(t:TypeId){b:Nat}(hd:Prot.dead b)(hx:H.get b=some (.map [] 0)) :
  ∃ρ' w' u,ρ.le ρ'/\(Instr.makeMap t none).run P w=.ok u w'/\bF ⟨Prot.prot,fun d=>Prot.dead d/\d≠b⟩ w0 ρ' H w'/\ah ρ' (.map (some b)) u:=by
 obtain⟨q1,q2⟩:=R.claim' hd (w':=w.alloc (.map #[] 0)) rfl rfl rfl (Array.size_push _) (fun i hi=>by rw[World.alloc,Array.getElem?_push,if_neg (Nat.ne_of_lt hi)])
  hx (o:=.map #[] 0) (lim:=0) (n:=0) (cl:=false) (by rw[World.alloc,Array.getElem?_push,if_pos rfl]) (by simp only[er]; exact⟨trivial,#[],rfl,by simp[aC]⟩)
 refine⟨_,_,_,q1,RowKit.run_makeMap t w,q2,?_⟩
 simp only[ah]
 exact⟨_,fU _ _ _ _,rfl⟩
theorem vB(R:bF Prot w0 ρ H w){l:List aa}{C:Array Value}(t:TypeId)(hv:aq ρ l C.toList){b:Nat}(hd:Prot.dead b)(hx:H.get b=some (.cells l 0 false)) :
  ∃ρ',ρ.le ρ'/\bF ⟨Prot.prot,fun d=>Prot.dead d/\d≠b⟩ w0 ρ' H (w.alloc (.cells C t))/\ρ' b l.length=some ⟨w.heap.size,0,C.size,true⟩:=by
 have hnone:=(R.dead b hd).2
 have hlen:l.length=C.size:=by have:=aq.len hv; simpa using this
 obtain⟨q1,q2⟩:=R.claim' hd (w':=w.alloc (.cells C t)) rfl rfl rfl (by simp) (fun i hi=>RowKit.Below.heap_alloc _ _ _ hi) hx (o:=.cells C t) (lim:=l.length) (n:=C.size) (cl:=true) (by show (w.heap.push _)[w.heap.size]?=_; simp) (by
  simp only[er]
  refine⟨C,t,0,0,rfl,rfl,fun _=>⟨fun i _=>om,Nat.le_refl _,fun _=>Nat.le_refl _⟩,Nat.le_refl _,fun _ i i1 i2=>?_⟩
  have hx:l[i]?=some l[i]:=SB i2
  obtain⟨v,u1,u2⟩:=hv.nth _ _ hx
  refine⟨_,v,hx,?_,ah.mono (pD fun L' h'=>by rw[hnone]at h'; simp at h') _ _ u2⟩
  simpa using u1)
 exact⟨_,q1,q2,fU _ _ _ _⟩
theorem tp(R:bF Prot w0 ρ H w){sT elem:TypeId}{size bytes:Nat}{z:List aa}(hu:P.underlying sT=some (.slice elem))(E:JQ P elem size bytes)(hz:dH P elem=some z)
  {l c:aa} {lv cv:Value} (hl:ah ρ l lv) (hc:ah ρ c cv) {ln cn:Nat} (hln:kz l=some ln) (hcn:kz c=some cn) (hg:ln<=cn/\bytes*cn<=281474976710656) {b:Nat} (hd:Prot.dead b) (hx:H.get b=some (.cells (rD z cn) 0 false)) :
  ∃ρ' w' u,ρ.le ρ'/\(Instr.makeSlice sT lv cv).run P w=.ok u w'/\bF ⟨Prot.prot,fun d=>Prot.dead d/\d≠b⟩ w0 ρ' H w'/\ah ρ' (.slice (some ⟨b,(rD z cn).length,0⟩) ln (.known cn)) u:=by
 obtain⟨rfl,b1⟩:=oJ hln
 obtain⟨rfl,b2⟩:=oJ hcn
 simp only[ah]at hl hc
 subst hl hc
 obtain⟨i,zv,hi,rfl,rfl,hzero,hzs⟩:=E.ex
 obtain⟨zv',hzr,hzl⟩:=ii hz
 have hzv:zv'=zv:=by
  have:=hzr w
  simp[zeroValue,run_typeInfo w hi,hzero]at this
  exact this.symm
 subst hzv
 have hlen:=aq.len (hzl ρ)
 simp only[Array.length_toList,hzs]at hlen
 obtain⟨ρ',q1,q3,q4⟩:=vB R elem (lq (hzl ρ) cn) hd hx
 have q2:(newRow elem (dw zv'.cells (cn*z.length))).run P w=.ok ⟨w.heap.size,0,none⟩ (w.alloc (.cells (dw zv'.cells (cn*z.length)) elem)):=rfl
 have hnb:¬((281474976710656:Int)<(i.bytes:Int)*(cn:Int)):=by
  have:(i.bytes*cn:Nat)<=281474976710656:=hg.2
  rw[<- Int.natCast_mul]; omega
 have hcells:dw zv'.cells (cn*i.size)=dw zv'.cells (cn*z.length):=by rw[hlen]
 refine⟨ρ',_,.slice (some ⟨w.heap.size,0,none⟩) ln cn,q1,?_,q3,?_⟩
 ·have hsz:∀W,(sizeOf elem).run P W=.ok i.size W:=fun W=>by simp[sizeOf,run_typeInfo W hi]
  have e1:¬((cn:Int)<0):=om
  have e2:¬((ln:Int)<0):=om
  have e3:¬((cn:Int)<(ln:Int)):=om
  by_cases hn:cn*i.size=0
  ·have hm:dw zv'.cells (cn*z.length)=#[]:=by rw[<- hcells,hn]; simp[dw]
   rw[hm]at q2 ⊢
   simp only[Instr.makeSlice,Sem.run_bind,run_underlying hu,Result.andThen_ok,asInt,asIntOf,Sem.run_pure,run_typeInfo _ hi,gM b1,gM b2]
   simp[e1,e2,e3,hnb,hsz,hn,show Array.range 0=#[] by simp,q2]
  ·simp only[Instr.makeSlice,Sem.run_bind,run_underlying hu,Result.andThen_ok,asInt,asIntOf,Sem.run_pure,run_typeInfo _ hi,gM b1,gM b2]
   rw[<- hcells]at q2 ⊢
   unfold dw at q2 ⊢
   simp[e1,e2,e3,hnb,hsz,hn,hzr,q2]
 ·simp only[ah]
  exact⟨_,q4,Nat.zero_le _,hg.1,rfl⟩
end
end Go.Abs
namespace Go.Abs
structure al where
 dst:Option Nat
 op:gL
 guard:Option (Nat×Bool)
def SK:Nat:=1000000
def gS(t:Nat):Nat:=bif Nat.ble SK t then t-SK else t
def QJ(b:Bool):aa->Bool
 | .bool c=>bif b then c else !c
 | _=>false
def gV(t:Nat)(b:Bool)(v:aa):Bool:=bif Nat.ble SK t then !fY v else QJ b v
def gY(T:Tr aa):Option (Nat×Bool)->Bool
 | none=>true
 | some (t,b)=>gV t b (ev T (.t (gS t)))
theorem PY{t:Nat}(h:Nat.blt t SK=true):gS t=t/\Nat.ble SK t=false:=by
 have h1:t<SK:=SH h
 have h2:Nat.ble SK t=false:=by
  cases hb:Nat.ble SK t with
  | false=>rfl
  | true=>have:=SH hb; omega
 exact⟨by unfold gS; rw[h2]; rfl,h2⟩
def cR(T:Tr aa):Option Nat->aa->Tr aa
 | some d,v=>T.set d v
 | none,_=>T
def dn:gL->Bool
 | .load .. | .claim ..=>true
 | _=>false
def jx:gL->Bool
 | .mv _ | .pick .. | .build .. | .nilChk _ | .bin .. | .un .. | .conv .. | .mkFunc .. | .mkIface .. | .sl .. | .slStr .. | .fieldA .. | .field .. | .idxA .. | .idxArr .. | .idx .. | .idxS .. | .extract .. | .len .. | .pf .. | .slA ..=>true
 | _=>false
def aJ(o:gL):Bool:=!(jx o)&&!(dn o)
def CG:a8->List Nat
 | .t i=>[i]
 | _=>[]
def yS:List a8->List Nat
 | []=>[]
 | x::r=>CG x++yS r
def ET:Option a8->List Nat
 | none=>[]
 | some x=>CG x
def PG:List (Nat×Nat×a8)->List Nat
 | []=>[]
 | (_,_,x)::r=>CG x++PG r
def reads:gL->List Nat
 | .mv x | .box x | .load _ _ x | .nilChk x | .un _ x | .conv _ x | .convSB x | .convBS x | .mkIface _ x | .fieldA _ x | .field _ _ _ x | .extract _ x | .len _ x=>CG x
 | .pick c a b=>CG c++(CG a++CG b)
 | .new _=>[]
 | .build _ ps=>PG ps
 | .buildSl _ _ ps=>PG ps
 | .store _ a x | .bin _ a x | .mkSlice _ _ a x | .idxA _ a x | .idxArr _ _ a x | .idx _ _ _ a x | .idxS a x | .append _ _ a x=>CG a++CG x
 | .mkFunc _ a b=>yS a++yS b
 | .sl _ x a b c | .slA _ _ x a b c=>CG x++(ET a++(ET b++ET c))
 | .slStr x a b=>CG x++(ET a++ET b)
 | .call _ l=>yS l
 | .callv f l=>CG f++yS l
 | .pf _ l | .hf _ l=>yS l
 | .bad | .claim _ _ _=>[]
def hY(o:al):List Nat:=reads o.op++(match o.guard with | none=>[] | some (t,_)=>[gS t])
section
variable {tb:FuncId->Bool} {T T':Tr aa} {H H' H2:ae}
theorem aO{x:a8}(h:∀t∈CG x,T.get t=T'.get t):ev T x=ev T' x:=by
 cases x with
 | t i=>simp only[ev]; rw[h i (by simp[CG])]
 | _=>rfl
theorem iA{l:List a8}(h:∀t∈yS l,T.get t=T'.get t):fT T l=fT T' l:=by
 induction l with
 | nil=>rfl
 | cons x r ih=>simp only[yS,List.mem_append]at h; simp only[fT]; rw[aO fun t ht=>h t (.inl ht),ih fun t ht=>h t (.inr ht)]
theorem fM{x:Option a8}(h:∀t∈ET x,T.get t=T'.get t):zQ T x=zQ T' x:=by
 cases x with
 | none=>rfl
 | some x=>simp only[zQ]; rw[aO h]
theorem wg{l:List (Nat×Nat×a8)}(h:∀t∈PG l,T.get t=T'.get t):AG T l=AG T' l:=by
 induction l with
 | nil=>rfl
 | cons x r ih=>obtain⟨a,b,x⟩:=x; simp only[PG,List.mem_append]at h; simp only[AG]; rw[aO fun t ht=>h t (.inl ht),ih fun t ht=>h t (.inr ht)]
theorem wM{o:gL}(h:∀t∈reads o,T.get t=T'.get t):bW tb T H o=bW tb T' H o:=by
 cases o <;> simp only[reads,List.mem_append]at h <;> simp only[bW]
 case mv x=>rw[aO h]
 case pick c a b=>rw[aO fun t ht=>h t (.inl ht),aO (x:=a) fun t ht=>h t (.inr (.inl ht)),aO (x:=b) fun t ht=>h t (.inr (.inr ht))]
 case box x=>rw[aO h]
 case build z ps=>rw[wg h]
 case buildSl n z ps=>rw[wg h]
 case load a n x=>rw[aO h]
 case store n a x=>rw[aO fun t ht=>h t (.inl ht),aO (x:=x) fun t ht=>h t (.inr ht)]
 case nilChk x=>rw[aO h]
 case bin op a x=>rw[aO fun t ht=>h t (.inl ht),aO (x:=x) fun t ht=>h t (.inr ht)]
 case un op x=>rw[aO h]
 case conv k x=>rw[aO h]
 case convSB x=>rw[aO h]
 case convBS x=>rw[aO h]
 case mkFunc f a b=>rw[iA fun t ht=>h t (.inl ht),iA (l:=b) fun t ht=>h t (.inr ht)]
 case mkIface t x=>rw[aO h]
 case mkSlice b z a x=>rw[aO fun t ht=>h t (.inl ht),aO (x:=x) fun t ht=>h t (.inr ht)]
 case sl n x a b c=>rw[aO fun t ht=>h t (.inl ht),fM (x:=a) fun t ht=>h t (.inr (.inl ht)),fM (x:=b) fun t ht=>h t (.inr (.inr (.inl ht))),fM (x:=c) fun t ht=>h t (.inr (.inr (.inr ht)))]
 case slStr x a b=>rw[aO fun t ht=>h t (.inl ht),fM (x:=a) fun t ht=>h t (.inr (.inl ht)),fM (x:=b) fun t ht=>h t (.inr (.inr ht))]
 case fieldA o x=>rw[aO h]
 case field a n o x=>rw[aO h]
 case idxA n a x=>rw[aO fun t ht=>h t (.inl ht),aO (x:=x) fun t ht=>h t (.inr ht)]
 case idxArr m n a x=>rw[aO fun t ht=>h t (.inl ht),aO (x:=x) fun t ht=>h t (.inr ht)]
 case idx m n g a x=>rw[aO fun t ht=>h t (.inl ht),aO (x:=x) fun t ht=>h t (.inr ht)]
 case idxS a x=>rw[aO fun t ht=>h t (.inl ht),aO (x:=x) fun t ht=>h t (.inr ht)]
 case extract i x=>rw[aO h]
 case append n b a x=>rw[aO fun t ht=>h t (.inl ht),aO (x:=x) fun t ht=>h t (.inr ht)]
 case len s x=>rw[aO h]
 case call f l=>rw[iA h]
 case callv f l=>rw[aO fun t ht=>h t (.inl ht),iA (l:=l) fun t ht=>h t (.inr ht)]
 case pf f l=>rw[iA h]
 case slA m n x a b c=>rw[aO fun t ht=>h t (.inl ht),fM (x:=a) fun t ht=>h t (.inr (.inl ht)),fM (x:=b) fun t ht=>h t (.inr (.inr (.inl ht))),fM (x:=c) fun t ht=>h t (.inr (.inr (.inr ht)))]
 case hf f l=>rw[iA h]
theorem nZ{x:Option aa}{nx:Nx}(h:vv H x=some (nx,H')):H'=H/\(∃v,nx=.val v)/\∀H2,vv H2 x=some (nx,H2):=by
 cases x with
 | none=>simp[vv]at h
 | some v=>simp only[vv,sJ,pJ]at h; obtain⟨rfl,rfl⟩:=h; exact⟨rfl,⟨v,rfl⟩,fun _=>rfl⟩
theorem fy{o:gL}(hp:jx o=true){nx:Nx}(h:bW tb T H o=some (nx,H')):H'=H/\(∃v,nx=.val v)/\∀H2,bW tb T H2 o=some (nx,H2):=by
 cases o <;> simp only[jx,SO]at hp <;> simp only[bW]at h ⊢
 case mv x=>simp only[sJ,pJ]at h; obtain⟨rfl,rfl⟩:=h; exact⟨rfl,⟨_,rfl⟩,fun _=>rfl⟩
 case pick c a b=>
  split at h
  ·simp only[sJ,pJ]at h; obtain⟨rfl,rfl⟩:=h; exact⟨rfl,⟨_,rfl⟩,fun _=>rfl⟩
  ·simp at h
 case mkFunc f a b=>simp only[sJ,pJ]at h; obtain⟨rfl,rfl⟩:=h; exact⟨rfl,⟨_,rfl⟩,fun _=>rfl⟩
 case mkIface t x=>simp only[sJ,pJ]at h; obtain⟨rfl,rfl⟩:=h; exact⟨rfl,⟨_,rfl⟩,fun _=>rfl⟩
 all_goals exact nZ h
theorem iJ{o:gL}(hp:dn o=true){nx:Nx}(h:bW tb T H o=some (nx,H')):H'=H/\∃v,nx=.val v:=by
 cases o <;> simp only[dn,SO]at hp
 case load=>simp only[bW]at h; have:=nZ h; exact⟨this.1,this.2.1⟩
 case claim=>simp only[bW]at h; have:=nZ h; exact⟨this.1,this.2.1⟩
end
end Go.Abs
namespace Go.Abs
section
variable (tb:FuncId->Bool) (call:FuncId->List aa->ae->Option (aa×ae))
def br(o:al)(T:Tr aa)(H:ae):Option (aa×ae):=
 bif gY T o.guard then
  match bW tb T H o.op with
  | some (.val v,H')=>some (v,H')
  | some (.enter f args,H')=>call f args H'
  | none=>none
 else some (aR,H)
def cQ:List al->Tr aa->ae->Option (List (aa×ae))
 | [],_,_=>some []
 | o::r,T,H=>match br tb call o T H with
  | some (v,H')=>match cQ r (cR T o.dst v) H' with
   | some s=>some ((v,H')::s)
   | none=>none
  | none=>none
def fF(hs:List ae):List al->List (List Nat)->List (aa×ae)->Tr aa->Bool
 | o::os,ps::pss,(v,_)::ss,T=>
  (ps.all fun p=>match hs[p]? with
   | some Hp=>bif gY T o.guard then (match bW tb T Hp o.op with | some (.val u,_)=>aeq u v | _=>false) else true
   | none=>false)&&fF hs os pss ss (cR T o.dst v)
 | _,_,_,_=>true
end
def bj(m:Nat->Bool):Nat->List al->List (aa×ae)->Tr aa->Tr aa
 | i,o::os,(v,_)::ss,T=>bj m (i+1) os ss (bif m i then cR T o.dst v else T)
 | _,_,_,T=>T
def ew(H:ae)(ss:List (aa×ae)):Nat->ae
 | 0=>H
 | j+1=>match ss[j]? with
  | some (_,H')=>H'
  | none=>H
def aE(m:Nat->Bool):Nat->List al->Nat
 | i,[]=>i
 | i,o::r=>bif aJ o.op&&!m i then i else aE m (i+1) r
theorem lD(T:Tr aa)(d:Option Nat)(v:aa)(t:Nat):(cR T d v).get t=if d=some t then some v else T.get t:=by
 cases d with
 | none=>simp[cR]
 | some d=>
  simp only[cR,Tr.get_set]
  by_cases e:t=d
  ·subst e; simp
  ·rw[if_neg e,if_neg (by intro q; simp at q; exact e q.symm)]
theorem fV{m m':Nat->Bool}{t:Nat}:∀(l:List al) (ss:List (aa×ae)) (k:Nat) (T T':Tr aa),T.get t=T'.get t ->
  (∀i o,l[i]?=some o->o.dst=some t->m (k+i)=m' (k+i))->(bj m k l ss T).get t=(bj m' k l ss T').get t:=by
 intro l
 induction l with
 | nil=>intro ss k T T' h _; cases ss <;> exact h
 | cons o r ih=>
  intro ss k T T' h hm
  cases ss with
  | nil=>exact h
  | cons s ss=>
   obtain⟨v,H'⟩:=s
   simp only[bj]
   refine ih ss (k+1) _ _ ?_ fun i o' h1 h2=>by have:=hm (i+1) o' (by simpa using h1) h2; rw[show k+1+i=k+(i+1) by omega]; exact this
   by_cases hd:o.dst=some t
   ·have:=hm 0 o rfl hd
    simp only[Nat.add_zero]at this
    rw[this]
    cases m' k
    ·exact h
    ·simp only[cond_true,lD,hd,if_true]
   ·have e1:∀(b:Bool) (T:Tr aa),(bif b then cR T o.dst v else T).get t=T.get t:=fun b T=>by
     cases b
     ·rfl
     ·simp only[cond_true,lD,if_neg hd]
    rw[e1,e1,h]
theorem jC{m:Nat->Bool}{t:Nat}:∀(l:List al) (ss:List (aa×ae)) (k j:Nat) (T:Tr aa) (o:al) (v:aa) (H':ae),l[j]?=some o->ss[j]?=some (v,H')->o.dst=some t->m (k+j)=true ->
  (∀i o',j<i->l[i]?=some o'->o'.dst=some t->m (k+i)=false)->(bj m k l ss T).get t=some v:=by
 intro l
 induction l with
 | nil=>intro ss k j T o v H' h; simp at h
 | cons o r ih=>
  intro ss k j T o' v H' h1 h2 h3 h4 h5
  cases ss with
  | nil=>simp at h2
  | cons s ss=>
   obtain⟨u,H1⟩:=s
   simp only[bj]
   cases j with
   | zero=>
    simp only[SL,sJ,pJ]at h1 h2
    obtain⟨rfl,rfl⟩:=h2
    subst h1
    simp only[Nat.add_zero]at h4
    rw[h4]
    have:=fV (m:=m) (m':=fun _=>false) (t:=t) r ss (k+1) (bif true then cR T o.dst u else T) (cR T o.dst u) rfl fun i o' q1 q2=>by
     have:=h5 (i+1) o' om (by simpa using q1) q2
     rw[show k+1+i=k+(i+1) by omega]; exact this
    rw[this]
    have hn:∀(l:List al) (ss:List (aa×ae)) (k:Nat) (T:Tr aa),bj (fun _=>false) k l ss T=T:=by
     intro l
     induction l with
     | nil=>intro ss k T; cases ss <;> rfl
     | cons o r ih=>intro ss k T; cases ss with
      | nil=>rfl
      | cons s ss=>obtain⟨a,b⟩:=s; simp only[bj,cond_false,ih]
    rw[hn,lD,if_pos h3]
   | succ j=>
    refine ih ss (k+1) j _ o' v H' (by simpa using h1) (by simpa using h2) h3 (by rw[show k+1+j=k+(j+1) by omega]; exact h4) fun i o2 q0 q1 q2=>?_
    rw[show k+1+i=k+(i+1) by omega]
    exact h5 (i+1) o2 om (by simpa using q1) q2
section
variable {tb:FuncId->Bool} {call:FuncId->List aa->ae->Option (aa×ae)}
theorem gN:∀(l:List al) (T:Tr aa) (H:ae) (ss:List (aa×ae)) (k:Nat),cQ tb call l T H=some ss ->
  ss.length=l.length/\∀j o,l[j]?=some o->∃v H',ss[j]?=some (v,H')/\br tb call o (bj (fun i=>Nat.blt i (k+j)) k l ss T) (ew H ss j)=some (v,H'):=by
 intro l
 induction l with
 | nil=>intro T H ss k h; simp only[cQ,sJ]at h; subst h; exact⟨rfl,fun j o h=>by simp at h⟩
 | cons o r ih=>
  intro T H ss k h
  simp only[cQ]at h
  split at h
  ·rename_i v H' hs
   split at h
   ·rename_i s hr
    simp only[sJ]at h
    subst h
    obtain⟨h1,h2⟩:=ih _ _ _ (k+1) hr
    refine⟨by simp[h1],fun j o' hj=>?_⟩
    cases j with
    | zero=>
     simp only[SL,sJ]at hj
     subst hj
     refine⟨v,H',rfl,?_⟩
     have e:bj (fun i=>Nat.blt i (k+0)) k (o::r) ((v,H')::s) T=T:=by
      have hn:∀(l:List al) (ss:List (aa×ae)) (k':Nat) (T:Tr aa),k<=k'->bj (fun i=>Nat.blt i (k+0)) k' l ss T=T:=by
       intro l
       induction l with
       | nil=>intro ss k' T _; cases ss <;> rfl
       | cons o r ih=>intro ss k' T hk; cases ss with
        | nil=>rfl
        | cons s ss=>
         obtain⟨a,b⟩:=s
         have:Nat.blt k' (k+0)=false:=by
          cases hb:Nat.blt k' (k+0) with
          | false=>rfl
          | true=>have:=SH hb; omega
         simp only[bj,this,cond_false]
         exact ih ss (k'+1) T om
      exact hn _ _ k T rL
     rw[e]
     exact hs
    | succ j=>
     simp only[SN]at hj
     obtain⟨u,H2,q1,q2⟩:=h2 j o' hj
     refine⟨u,H2,by simpa using q1,?_⟩
     have hb:Nat.blt k (k+(j+1))=true:=by
      show Nat.ble (k+1) (k+(j+1))=true
      exact SD om
     simp only[bj,hb,cond_true]
     rw[show k+(j+1)=k+1+j by omega]
     have hh:ew H ((v,H')::s) (j+1)=ew H' s j:=by
      cases j with
      | zero=>rfl
      | succ j=>
       simp only[ew,SN]
       have:j<s.length:=by
        have:=(SC.1 hj).1
        omega
       rw[SB this]
     rw[hh]
     exact q2
   ·simp at h
  ·simp at h
end
end Go.Abs
namespace Go.Abs
def aU(o:Oper):List Nat:=(o.after.toList.filter (Region.binds .any)).map (·.on)
def Ia(ms:List Nat):List Nat->Nat
 | []=>0
 | e::r=>(1 <<< e) ||| (ms.getD e 0) ||| Ia ms r
def aV(acc:List Nat):List (List Nat)->List Nat
 | []=>acc
 | es::r=>aV (acc++[Ia acc es]) r
def jz(ms:List Nat)(j i:Nat):Bool:=Nat.blt i j&&(ms.getD j 0).testBit i
theorem kp{ms:List Nat}{j i:Nat}(h:jz ms j i=true):i<j:=by
 unfold jz at h
 rw[SE]at h
 exact SH h.1
def gz(es:List (List Nat))(ms:List Nat):Bool:=
 (List.range es.length).all fun j=>(es.getD j []).all (fun e=>Nat.blt e j)&&(List.range j).all fun i=>!jz ms j i||(es.getD j []).any fun e=>Nat.beq e i||(Nat.blt i e&&jz ms e i)
def uV(a b:al):Bool:=
 (match a.dst with | none=>true | some d=>!(hY b).contains d&&!(b.dst==some d))&&(match b.dst with | none=>true | some d=>!(hY a).contains d)
def gw(ms:List Nat)(i j:Nat)(a b:al):Bool:=jz ms j i||(!(aJ a.op&&aJ b.op)&&uV a b)
def eu(l:List al)(ms:List Nat):Bool:=
 (List.range l.length).all fun j=>match l[j]? with
  | some b=>(List.range j).all fun i=>match l[i]? with
   | some a=>gw ms i j a b
   | none=>true
  | none=>true
def mA(l:List al)(p:Nat):Bool:=match l[p]? with | some o=>aJ o.op | none=>Nat.beq p l.length
def vR(l:List al)(ms:List Nat)(j p:Nat):Bool:=
 mA l p&&(List.range l.length).all fun c=>match l[c]? with
  | some o=>!aJ o.op||(bif Nat.blt c p then !jz ms c j else !jz ms j c)
  | none=>true
def qD(l:List al)(j p:Nat):Bool:=Nat.ble j p&&(List.range p).all fun c=>Nat.blt c j||(match l[c]? with | some o=>!aJ o.op | none=>true)
def dV(l:List al)(ms:List Nat)(j:Nat):List Nat:=
 match l[j]? with
 | some o=>bif dn o.op then (List.range (l.length+1)).filter (fun p=>!qD l j p&&vR l ms j p) else []
 | none=>[]
theorem qK{es:List (List Nat)}{ms:List Nat}(h:gz es ms=true){m:Nat->Bool}(hm:∀j,j<es.length->m j=true->∀e∈es.getD j [],m e=true) :
  ∀j,j<es.length->(∀e∈es.getD j [],m e=true)->∀i,i<j->jz ms j i=true->m i=true:=by
 intro j
 induction j using Nat.strongRecOn with
 | _ j ih=>
  intro hj hr i hi hb
  unfold gz at h
  rw[List.all_eq_true]at h
  have h1:=h j (List.mem_range.2 hj)
  simp only[SE,List.all_eq_true,List.mem_range,Bool.or_eq_true,Bool.not_eq_true',List.any_eq_true]at h1
  obtain⟨h2,h3⟩:=h1
  rcases h3 i hi with h4 | ⟨e,he,h5⟩
  ·rw[hb]at h4; simp at h4
  ·have hej:e<j:=SH (h2 e he)
   rcases h5 with h5 | ⟨h5,h6⟩
   ·rw[<- nb h5]; exact hr e he
   ·exact ih e hej om (hm e om (hr e he)) i (SH h5) h6
section
variable (P:Program)
def dQ(n:Nat):Option Nat->Bool
 | none=>true
 | some d=>Nat.blt d n
def iQ(n:Nat)(ops:Array Oper):Option (Nat×Bool)->Option (Option (Nat×Bool))
 | none=>some none
 | some (j,b)=>match (ops[j]?).bind (·.dst) with
  | some d=>bif Nat.blt d n&&Nat.blt d SK then some (some (d,b)) else none
  | none=>none
def dB(n:Nat)(ops:Array Oper)(o:Oper):Option al:=
 match uG P o.op,iQ n ops o.guard with
 | some a,some g=>bif dQ n o.dst then some ⟨o.dst,a,g⟩ else none
 | _,_=>none
def cz(n:Nat)(ops:Array Oper):List Oper->Option (List al)
 | []=>some []
 | o::r=>match dB P n ops o,cz n ops r with
  | some a,some l=>some (a::l)
  | _,_=>none
end
section
variable {P:Program} {Prot:Gh} {w0:World} {ρ:Pl} {H H':ae} {w:World}
theorem cf{n:Nat}{T:Tr aa}{a:Act}(h:be ρ n T a.tmps){dst:Option Nat}(hd:dQ n dst=true){x:aa}{v:Value}(hx:ah ρ x v):be ρ n (cR T dst x) (a.put dst v).tmps:=by
 cases dst with
 | none=>exact h
 | some d=>
  have hd:d<n:=SH hd
  refine⟨by simp[Act.put,h.size],fun t=>?_⟩
  simp only[cR,ev,Tr.get_set,Act.put]
  by_cases e:t=d
  ·subst e
   rw[if_pos rfl]
   have:t<a.tmps.size:=by rw[h.size]; exact hd
   simpa[this] using hx
  ·rw[if_neg e]
   have:=h.at_ t
   simp only[ev]at this
   rw[Array.getD_eq_getD_getElem?,Array.getElem?_setIfInBounds_ne (fun q=>e q.symm),<- Array.getD_eq_getD_getElem?]
   exact this
theorem eg:ah ρ aR undef:=by simp only[aR,ah,undef]; exact⟨#[],rfl,by simp[aq]⟩
theorem LE{x:aa}{b:Bool}(h:ah ρ x (.bool b)):x=.bool b:=by
 cases x with
 | bool c=>simp only[ah,Value.bool.injEq]at h; rw[h]
 | ptr a=>cases a <;> simp[ah]at h
 | slice a n r=>cases a with
  | none=>simp[ah]at h
  | some a=>
   simp only[ah]at h
   obtain⟨L,_,_,h⟩:=h
   cases r <;> simp[bU]at h
 | map a=>cases a <;> simp[ah]at h
 | val x=>simp only[ah]at h; obtain⟨rfl,h⟩:=h; simp[OJ]at h
 | _=>simp[ah]at h
theorem fZ{n:Nat}{T:Tr aa}{a:Act}(h:be ρ n T a.tmps){ops:Array Oper}{o:Oper}{g:Option (Nat×Bool)}(hg:iQ n ops o.guard=some g):Region.wanted o (yielded ops a.tmps)=gY T g:=by
 unfold Region.wanted
 cases ho:o.guard with
 | none=>rw[ho]at hg; simp only[iQ,sJ]at hg; subst hg; rfl
 | some jb=>
  obtain⟨j,b⟩:=jb
  rw[ho]at hg
  simp only[iQ]at hg
  split at hg
  ·rename_i d hd
   cases hb:Nat.blt d n&&Nat.blt d SK with
   | false=>rw[hb]at hg; simp at hg
   | true=>
    rw[hb]at hg
    simp only[SE]at hb
    simp only[cond_true,sJ]at hg
    subst hg
    have hlt:d<a.tmps.size:=by rw[h.size]; exact SH hb.1
    obtain⟨k1,k2⟩:=PY hb.2
    have hat:=h.at_ d
    simp only[yielded,hd,Option.bind_some,gY,gV,k1,k2,cond_false]
    rw[Array.getElem?_eq_getElem hlt]
    have e:a.tmps.getD d undef=a.tmps[d]:=by simp[hlt]
    rw[e]at hat
    cases hv:a.tmps[d] with
    | bool c=>
     rw[hv]at hat
     rw[LE hat]
     cases b <;> cases c <;> rfl
    | _=>
     rw[hv]at hat
     cases hT:ev T (.t d) with
     | bool c=>rw[hT]at hat; simp[ah]at hat
     | _=>rfl
  ·simp at hg
def iW(P:Program)(call:FuncId->List aa->ae->Option (aa×ae)):Prop:=
 ∀f args H v H',Nat.blt f cj=true->call f args H=some (v,H')->∀Prot w0 ρ w (vs:Array Value),bF Prot w0 ρ H w->aq ρ args vs.toList ->
  Calls P f vs w fun e w'=>∃ρ' u,ρ.le ρ'/\e=.returned u/\bF Prot w0 ρ' H' w'/\ah ρ' v u
end
theorem yY{P:Program}{n:Nat}{ops:Array Oper}:∀{rest:List Oper} {l:List al},cz P n ops rest=some l->l.length=rest.length/\∀(j:Nat) (o:Oper),rest[j]?=some o->∃a,l[j]?=some a/\dB P n ops o=some a:=by
 intro rest
 induction rest with
 | nil=>intro l h; simp only[cz,sJ]at h; subst h; exact⟨rfl,fun j o h=>by simp at h⟩
 | cons o r ih=>
  intro l h
  simp only[cz]at h
  split at h
  ·rename_i a l' h1 h2
   simp only[sJ]at h
   subst h
   obtain⟨q1,q2⟩:=ih h2
   refine⟨by simp[q1],fun j o' hj=>?_⟩
   cases j with
   | zero=>simp only[SL,sJ]at hj; subst hj; exact⟨a,rfl,h1⟩
   | succ j=>simpa using q2 j o' (by simpa using hj)
  ·simp at h
theorem dY(m:Nat->Bool):∀(l:List al) (k:Nat),k<=aE m k l/\aE m k l<=k+l.length/\(∀c o,l[c]?=some o->aJ o.op=true->k+c<aE m k l->m (k+c)=true) /\
  (∀o,aE m k l<k+l.length->l[aE m k l-k]?=some o->aJ o.op=true/\m (aE m k l)=false):=by
 intro l
 induction l with
 | nil=>intro k; exact⟨Nat.le_refl _,Nat.le_refl _,fun c o h=>by simp at h,fun o h=>by simp[aE]at h⟩
 | cons o r ih=>
  intro k
  simp only[aE]
  cases hb:(aJ o.op&&!m k) with
  | true=>
   simp only[cond_true,SE,Bool.not_eq_true']at hb ⊢
   refine⟨Nat.le_refl _,by simp,fun c o' _ _ h=>om,fun o' _ h=>?_⟩
   simp only[Nat.sub_self,SL,sJ]at h
   subst h
   exact hb
  | false=>
   simp only[cond_false]
   obtain⟨h1,h2,h3,h4⟩:=ih (k+1)
   refine⟨om,by simp only[SF]; omega,fun c o' hc hch hlt=>?_,fun o' hlt ho=>?_⟩
   ·cases c with
    | zero=>
     simp only[SL,sJ]at hc
     subst hc
     rw[hch]at hb
     simpa using hb
    | succ c=>
     rw[show k+(c+1)=k+1+c by omega]
     exact h3 c o' (by simpa using hc) hch om
   ·simp only[SF]at hlt
    refine h4 o' om ?_
    rw[show aE m (k+1) r-k=(aE m (k+1) r-(k+1))+1 by omega]at ho
    simpa using ho
end Go.Abs
namespace Go.Abs
def cG:gL->Option (List aa×Option (Nat×Nat))
 | .new z=>some (z,none)
 | .mkSlice by_ z (.c l) (.c c)=>match kz l,kz c with
  | some l,some c=>bif Nat.ble l c&&Nat.ble (by_*c) 281474976710656 then some (rD z c,some (l,c)) else none
  | _,_=>none
 | .hf (.fill _ _) _=>some ([],none)
 | .hf .mkMap []=>some ([],some (1,0))
 | _=>none
def rl(b:Nat)(z:List aa)(s:Option (Nat×Nat)):gL->gL
 | .hf (.fill _ k) xs=>.hf (.fill b k) xs
 | _=>.claim b z s
def eJ:gL->Bool
 | .hf (.fill _ _) _=>true
 | _=>false
theorem Dm{b:Nat}{z:List aa}{s:Option (Nat×Nat)}{o:gL}(h:eJ o=false):rl b z s o=.claim b z s:=by
 unfold rl
 split
 ·simp[eJ]at h
 ·rfl
def aB:Nat->List al->List al
 | _,[]=>[]
 | b,o::r=>match cG o.op with
  | some (z,s)=>⟨o.dst,rl b z s o.op,o.guard⟩::aB (b+1) r
  | none=>o::aB b r
def aQ:ae->List al->ae
 | H,[]=>H
 | H,o::r=>match cG o.op with
  | some (z,s)=>aQ (H.push (sY z s)) r
  | none=>aQ H r
structure ux(a b:al):Prop where
 dst:a.dst=b.dst
 chain:aJ a.op=aJ b.op
 load:dn a.op=dn b.op
 reads:hY a=hY b
theorem ux.refl(a:al):ux a a:=⟨rfl,rfl,rfl,rfl⟩
structure qo(l m:List al):Prop where
 len:l.length=m.length
 at_:∀(i:Nat) (a:al),l[i]?=some a->∃b,m[i]?=some b/\ux a b
theorem qo.cons{a b:al}{l m:List al}(h:ux a b)(k:qo l m):qo (a::l) (b::m):=by
 refine⟨by simp[k.len],fun i x hx=>?_⟩
 cases i with
 | zero=>simp at hx; subst hx; exact⟨b,by simp,h⟩
 | succ i=>simp at hx; simpa using k.at_ i x hx
theorem g8:∀(l:List al) (b c:Nat),qo (aB b l) (aB c l)
 | [],b,c=>⟨rfl,fun i a h=>by simp[aB]at h⟩
 | o::r,b,c=>by
  simp only[aB]
  cases cG o.op with
  | none=>exact qo.cons (ux.refl _) (g8 r _ _)
  | some p=>
   obtain⟨z,s⟩:=p
   refine qo.cons ?_ (g8 r _ _)
   unfold rl
   split <;> exact⟨rfl,rfl,rfl,rfl⟩
theorem qo.none{l m:List al}(h:qo l m){i:Nat}(hi:l[i]?=none):m[i]?=none:=by
 rw[List.getElem?_eq_none_iff]at hi ⊢
 rw[<- h.len]; exact hi
theorem za{ms:List Nat}{i j:Nat}{a b a' b':al}(h:ux a a')(k:ux b b'):gw ms i j a b=gw ms i j a' b':=by
 unfold gw uV
 rw[h.chain,k.chain,h.dst,k.dst,h.reads,k.reads]
theorem oF{l m:List al}(h:qo l m)(ms:List Nat):eu l ms=eu m ms:=by
 unfold eu
 rw[h.len]
 congr 1
 funext j
 cases hj:l[j]? with
 | none=>rw[h.none hj]
 | some b=>
  obtain⟨b',hb',kb⟩:=h.at_ j b hj
  rw[hb']
  simp only
  congr 1
  funext i
  cases hi:l[i]? with
  | none=>rw[h.none hi]
  | some a=>
   obtain⟨a',ha',ka⟩:=h.at_ i a hi
   rw[ha']
   simp only
   exact za ka kb
theorem xL{l m:List al}(h:qo l m)(p:Nat):mA l p=mA m p:=by
 unfold mA
 cases hj:l[p]? with
 | none=>rw[h.none hj,h.len]
 | some b=>
  obtain⟨b',hb',kb⟩:=h.at_ p b hj
  rw[hb']
  exact kb.chain
theorem Bl{l m:List al}(h:qo l m)(ms:List Nat)(j p:Nat):vR l ms j p=vR m ms j p:=by
 unfold vR
 rw[xL h,h.len]
 congr 2
 funext c
 cases hj:l[c]? with
 | none=>rw[h.none hj]
 | some b=>
  obtain⟨b',hb',kb⟩:=h.at_ c b hj
  rw[hb']
  simp only[kb.chain]
theorem AZ{l m:List al}(h:qo l m)(j p:Nat):qD l j p=qD m j p:=by
 unfold qD
 congr 2
 funext c
 cases hj:l[c]? with
 | none=>rw[h.none hj]
 | some b=>
  obtain⟨b',hb',kb⟩:=h.at_ c b hj
  rw[hb']
  simp only[kb.chain]
theorem nL{l m:List al}(h:qo l m)(ms:List Nat)(j:Nat):dV l ms j=dV m ms j:=by
 unfold dV
 cases hj:l[j]? with
 | none=>rw[h.none hj]
 | some b=>
  obtain⟨b',hb',kb⟩:=h.at_ j b hj
  rw[hb']
  simp only[kb.load,h.len]
  congr 1
  congr 1
  funext p
  rw[AZ h,Bl h]
theorem xY{P:Program}{c:Call}{z:List aa}(h:iR P c=some (.new z)):False:=by
 unfold iR at h
 repeat' split at h
 all_goals first
  | (simp at h; done)
  | (cases hb:(Nat.beq _ _&&lu P _) <;> simp[hb]at h; done)
  | skip
 all_goals (revert h; intro h; simp only[cond_eq_ite]at h; split at h <;> simp at h)
theorem x6{P:Program}{o:Op}{z:List aa}(h:nN P o=some (.new z)):False:=by
 unfold nN at h
 repeat' split at h
 all_goals first
  | (simp at h; done)
  | (simp only[cond_eq_ite]at h; split at h <;> first | (simp at h; done) | (split at h <;> simp at h))
theorem HW{P:Program}{o:Op}{z:List aa}(h:uG P o=some (.new z)):∃e,o=.alloc e/\dH P e=some z:=by
 unfold uG at h
 split at h
 ·rename_i a ha
  simp only[sJ]at h
  subst h
  exact (x6 ha).elim
 ·split at h
  ·rename_i a ha
   simp only[sJ]at h
   subst h
   cases o <;> simp only[ya,reduceCtorEq]at ha
   case alloc e _=>
    split at ha
    ·rename_i z' hz
     simp only[sJ,gL.new.injEq]at ha
     subst ha
     exact⟨e,rfl,hz⟩
    ·simp at ha
   case call c=>exact (xY ha).elim
   all_goals
    exfalso
    repeat' split at ha
    all_goals first
     | (simp at ha; done)
     | (simp only[cond_eq_ite]at ha; split at ha <;> simp at ha)
  ·simp at h
theorem z7{P:Program}{c:Call}{b:Nat}{z:List aa}{x y:a8}(h:iR P c=some (.mkSlice b z x y)):False:=by
 unfold iR at h
 repeat' split at h
 all_goals first
  | (simp at h; done)
  | (cases hb:(Nat.beq _ _&&lu P _) <;> simp[hb]at h; done)
  | skip
 all_goals (revert h; intro h; simp only[cond_eq_ite]at h; split at h <;> simp at h)
theorem Aa{P:Program}{o:Op}{b:Nat}{z:List aa}{x y:a8}(h:nN P o=some (.mkSlice b z x y)):False:=by
 unfold nN at h
 repeat' split at h
 all_goals first
  | (simp at h; done)
  | (simp only[cond_eq_ite]at h; split at h <;> first | (simp at h; done) | (split at h <;> simp at h))
theorem Mz{P:Program}{o:Op}{b:Nat}{z:List aa}{x y:a8}(h:uG P o=some (.mkSlice b z x y)) :
  ∃t l c e m,o=.makeSlice t l c/\P.underlying t=some (.slice e)/\pY P e=some (m,b)/\dH P e=some z/\bT l=some x/\bT c=some y:=by
 unfold uG at h
 split at h
 ·rename_i a ha
  simp only[sJ]at h
  subst h
  exact (Aa ha).elim
 ·split at h
  ·rename_i a ha
   simp only[sJ]at h
   subst h
   cases o <;> simp only[ya,reduceCtorEq]at ha
   case makeSlice t l c _=>
    split at ha
    ·rename_i e hu
     split at ha
     ·rename_i m b' z' l' c' h1 h2 h3 h4
      simp only[sJ,gL.mkSlice.injEq]at ha
      obtain⟨rfl,rfl,rfl,rfl⟩:=ha
      exact⟨t,l,c,e,m,rfl,hu,h1,h2,h3,h4⟩
     ·simp at ha
    ·simp at ha
   case call c=>exact (z7 ha).elim
   all_goals
    exfalso
    repeat' split at ha
    all_goals first
     | (simp at ha; done)
     | (simp only[cond_eq_ite]at ha; split at ha <;> simp at ha)
  ·simp at h
theorem z6{P:Program}{c:Call}{l:List a8}(h:iR P c=some (.hf .mkMap l)):False:=by
 unfold iR at h
 repeat' split at h
 all_goals first
  | (simp at h; done)
  | (cases hb:(Nat.beq _ _&&lu P _) <;> simp[hb]at h; done)
  | skip
 all_goals (revert h; intro h; simp only[cond_eq_ite]at h; split at h <;> simp at h)
theorem Lz{P:Program}{o:Op}{l:List a8}(h:nN P o=some (.hf .mkMap l)):∃t,o=.makeMap t none:=by
 unfold nN at h
 split at h
 all_goals first
  | exact⟨_,rfl⟩
  | exfalso
 all_goals
  repeat' split at h
  all_goals first
   | (simp at h; done)
   | (simp only[cond_eq_ite]at h; split at h <;> first | (simp at h; done) | (split at h <;> simp at h))
theorem My{P:Program}{o:Op}{l:List a8}(h:uG P o=some (.hf .mkMap l)):∃t,o=.makeMap t none:=by
 unfold uG at h
 split at h
 ·rename_i a ha
  simp only[sJ]at h
  subst h
  exact Lz ha
 ·split at h
  ·rename_i a ha
   simp only[sJ]at h
   subst h
   cases o <;> simp only[ya,reduceCtorEq]at ha
   case call c=>exact (z6 ha).elim
   all_goals
    exfalso
    repeat' split at ha
    all_goals first
     | (simp at ha; done)
     | (simp only[cond_eq_ite]at ha; split at ha <;> simp at ha)
  ·simp at h
def yj(P:Program)(o:Op)(z:List aa)(s:Option (Nat×Nat)):Prop:=
 (∃e,o=.alloc e/\dH P e=some z/\s=none) ∨
 (∃t l c e m by_ z0 x y ln cn,o=.makeSlice t l c/\P.underlying t=some (.slice e)/\pY P e=some (m,by_)/\dH P e=some z0/\bT l=some (.c x)/\bT c=some (.c y) /\
  kz x=some ln/\kz y=some cn/\(ln<=cn/\by_*cn<=281474976710656)/\z=rD z0 cn/\s=some (ln,cn)) ∨
 ∃t,o=.makeMap t none/\z=[]/\s=some (1,0)
theorem uX{P:Program}{c:Call}{b:Nat}{k:jR}{xs:List a8}(h:iR P c=some (.hf (.fill b k) xs)):False:=by
 unfold iR at h
 repeat' split at h
 all_goals first
  | (simp at h; done)
  | (simp only[cond_eq_ite]at h; split at h <;> simp at h)
theorem uZ{P:Program}{o:Op}{b:Nat}{k:jR}{xs:List a8}(h:nN P o=some (.hf (.fill b k) xs)):False:=by
 unfold nN at h
 repeat' split at h
 all_goals first
  | (simp at h; done)
  | (simp only[cond_eq_ite]at h; split at h <;> first | (simp at h; done) | (split at h <;> simp at h))
theorem oV{P:Program}{o:Op}{b:Nat}{k:jR}{xs:List a8}(h:uG P o=some (.hf (.fill b k) xs)):False:=by
 unfold uG at h
 split at h
 ·rename_i a ha
  simp only[sJ]at h
  subst h
  exact uZ ha
 ·split at h
  ·rename_i a ha
   simp only[sJ]at h
   subst h
   cases o <;> simp only[ya,reduceCtorEq]at ha
   case call c _=>exact uX ha
   all_goals
    exfalso
    repeat' split at ha
    all_goals first
     | (simp at ha; done)
     | (simp only[cond_eq_ite]at ha; split at ha <;> simp at ha)
  ·simp at h
theorem tW{P:Program}{o:Op}{a:gL}(h:uG P o=some a):eJ a=false:=by
 unfold eJ
 split
 ·exact (oV h).elim
 ·rfl
theorem HX{P:Program}{o:Op}{a:gL}{z:List aa}{s:Option (Nat×Nat)}(h:uG P o=some a)(hn:cG a=some (z,s)):yj P o z s:=by
 unfold cG at hn
 split at hn
 ·simp only[sJ,pJ]at hn
  obtain⟨rfl,rfl⟩:=hn
  obtain⟨e,he,hz⟩:=HW h
  exact .inl ⟨e,he,hz,rfl⟩
 ·rename_i by_ z0 x y
  obtain⟨t,l,c,e,m,h1,h2,h3,h4,h5,h6⟩:=Mz h
  split at hn
  ·rename_i ln cn hl hc
   cases hb:(Nat.ble ln cn&&Nat.ble (by_*cn) 281474976710656) with
   | false=>rw[hb]at hn; simp at hn
   | true=>
    rw[hb]at hn
    simp only[cond_true,sJ,pJ]at hn
    obtain⟨rfl,rfl⟩:=hn
    simp only[SE,Nat.ble_eq]at hb
    exact .inr (.inl ⟨t,l,c,e,m,by_,z0,x,y,ln,cn,h1,h2,h3,h4,h5,h6,hl,hc,hb,rfl,rfl⟩)
  ·simp at hn
 ·exact (oV h).elim
 ·simp only[sJ,pJ]at hn
  obtain⟨rfl,rfl⟩:=hn
  obtain⟨t,ht⟩:=My h
  exact .inr (.inr ⟨t,ht,rfl,rfl⟩)
 ·simp at hn
def Gr(P:Program)(n:Nat)(ops:Array Oper)(o:Oper)(a:al)(b:Nat):Prop:=
 ∃z s g,yj P o.op z s/\iQ n ops o.guard=some g/\dQ n o.dst=true/\a=⟨o.dst,.claim b z s,g⟩
theorem mD{P:Program}{n:Nat}{ops:Array Oper}:∀{rest:List Oper} {l:List al},cz P n ops rest=some l->∀b,(aB b l).length=rest.length /\
  ∀(j:Nat) (o:Oper),rest[j]?=some o->∃a,(aB b l)[j]?=some a/\(dB P n ops o=some a∨∃c,b<=c/\Gr P n ops o a c):=by
 intro rest
 induction rest with
 | nil=>intro l h b; simp only[cz,sJ]at h; subst h; exact⟨rfl,fun j o h=>by simp at h⟩
 | cons o r ih=>
  intro l h b
  simp only[cz]at h
  split at h
  ·rename_i a l' ha hl'
   simp only[sJ]at h
   subst h
   have key:∀(x:al) (b':Nat),b<=b'->(dB P n ops o=some x∨∃c,b<=c/\Gr P n ops o x c)->aB b (a::l')=x::aB b' l' ->
     (aB b (a::l')).length=(o::r).length/\∀(j:Nat) (o':Oper),(o::r)[j]?=some o'->∃a',(aB b (a::l'))[j]?=some a'/\(dB P n ops o'=some a'∨∃c,b<=c/\Gr P n ops o' a' c):=by
    intro x b' hb hx he
    rw[he]
    obtain⟨i1,i2⟩:=ih hl' b'
    refine⟨by simp[i1],fun j o' hj=>?_⟩
    cases j with
    | zero=>simp at hj; subst hj; exact⟨x,by simp,hx⟩
    | succ j=>
     simp at hj
     obtain⟨a',h1,h2⟩:=i2 j o' hj
     refine⟨a',by simpa using h1,?_⟩
     rcases h2 with h2 | ⟨c,h2,h3⟩
     ·exact .inl h2
     ·exact .inr ⟨c,om,h3⟩
   cases hop:cG a.op with
   | some p=>
    obtain⟨z,s⟩:=p
    refine key ⟨a.dst,rl b z s a.op,a.guard⟩ (b+1) om ?_ (by simp only[aB,hop])
    unfold dB at ha
    split at ha
    ·rename_i ax g hopc hg
     cases hdst:dQ n o.dst with
     | false=>rw[hdst]at ha; simp at ha
     | true=>
      rw[hdst]at ha
      simp only[cond_true,sJ]at ha
      subst ha
      rw[Dm (tW hopc)]
      exact .inr ⟨b,Nat.le_refl _,z,s,g,HX hopc hop,hg,hdst,rfl⟩
    ·simp at ha
   | none=>exact key a b rL (.inl ha) (by simp only[aB,hop])
  ·simp at h
end Go.Abs
