/- Part of a proof (A11d A11e A11f A11g A11h A11i A12 S1); no condition. -/
import Derived.Test.YteabnpheoiakdaaGreatP6
set_option linter.unusedSimpArgs false
set_option linter.unusedVariables false
set_option linter.unnecessarySimpa false
namespace Go.Abs
section
variable {P:Program} {Prot:Gh} {w0:World} {ρ:Pl} {H H':ae} {w:World}
theorem HA{f:Nat}{args:Array Operand}{ats:Array TypeId}{o:Oper}(hoe:o.op=.call ⟨.value (.func f),args,ats⟩)(hb:bO P f=true)(a:Act):(execOp a.eval o).run P w=.ok (.enter f (args.map a.eval)) w:=by
 have:=fO (P:=P) (w:=w) hb (args.map a.eval)
 obtain⟨dst,op,type,pos,after,guard⟩:=o
 simp only at hoe
 subst hoe
 simp[execOp,resolve,Act.eval,Deferred.ofValue,invoke,this]
theorem vE{ps:List Nat}{o:Op}{f:Nat}{l:List Operand}(h:tB ps o=some (f,l)):∃args ats,o=.call ⟨.value (.func f),args,ats⟩/\l=args.toList:=by
 unfold tB at h
 split at h
 ·rename_i c
  split at h
  ·rename_i g hg
   obtain⟨cal,args,ats⟩:=c
   simp only at hg
   subst hg
   cases hp:ps.any (Nat.beq g) with
   | false=>rw[hp]at h; simp at h
   | true=>
    rw[hp]at h
    simp only[cond_true,sJ,pJ]at h
    obtain⟨rfl,rfl⟩:=h
    exact⟨args,ats,rfl,rfl⟩
  ·simp at h
 ·simp at h
theorem Bb(a:Act)(d:Option Nat)(v:Value):(a.put d v).defers=a.defers:=by cases d <;> rfl
theorem GT.put{n:Nat}{T:Tr aa}{a:Act}(g:GT ρ n T a){d:Option Nat}(hd:dQ n d=true){x:aa}{v:Value}(hv:ah ρ x v):GT ρ n (cR T d x) (a.put d v):=by
 obtain⟨U,h1,h2⟩:=g.t
 refine⟨⟨cR U d x,h1.put hd x,cf h2 hd hv⟩,?_⟩
 rw[Bb,lV.put hd x (n+1) om]
 exact g.d
theorem rT.put{n:Nat}{T:Tr aa}{a:Act}(g:rT ρ n T a){d:Option Nat}(hd:dQ n d=true){x:aa}{v:Value}(hv:ah ρ x v):rT ρ n (cR T d x) (a.put d v):=
 ⟨g.1.put hd hv,by rw[lV.put hd x n rL]; exact g.2⟩
theorem rT.mono{ρ ρ':Pl}(h:ρ.le ρ'){n:Nat}{T:Tr aa}{a:Act}(g:rT ρ n T a):rT ρ' n T a:=⟨g.1.mono h,g.2⟩
theorem rT.ghost{n:Nat}{T:Tr aa}{a:Act}(g:rT ρ n T a){d:Nat}(hd:n+2<=d)(v:aa):rT ρ n (T.set d v) a:=
 ⟨g.1.ghost om om v,by rw[aT,if_neg om]; exact g.2⟩
theorem ci{tb:FuncId->Bool}{call:FuncId->List aa->ae->Option (aa×ae)}(d:Option Nat)(op:gL)(T:Tr aa)(H:ae):br tb call ⟨d,op,none⟩ T H=match bW tb T H op with
  | some (.val v,H')=>some (v,H')
  | some (.enter f args,H')=>call f args H'
  | none=>none:=rfl
theorem qj{tb:FuncId->Bool}{call:FuncId->List aa->ae->Option (aa×ae)}{o:al}{T T':Tr aa}{H H':ae}(h:bh tb call [o] T H=some (T',H')):∃v,br tb call o T H=some (v,H')/\T'=cR T o.dst v:=by
 rw[bB]at h
 cases hs:br tb call o T H with
 | none=>rw[hs]at h; simp at h
 | some p=>
  obtain⟨v,H1⟩:=p
  rw[hs]at h
  simp only[bh,sJ,pJ]at h
  obtain⟨rfl,rfl⟩:=h
  exact⟨v,rfl,rfl⟩
theorem KI{tb:FuncId->Bool}(htb:∀f,Nat.blt f cj=true->tb f=true->bO P f=true){call:FuncId->List aa->ae->Option (aa×ae)}(hcall:iW P call){n:Nat}{ops:Array Oper}{o:Oper}{ao:al}
  (hco:dB P n ops o=some ao) (haT:dK n ao=true) {ρ0:Pl} {T:Tr aa} {a:Act} (hle:ρ0.le ρ) (R:bF Prot w0 ρ H w) (hP:rT ρ n T a) {v:aa} {H1:ae} (hs:br tb call ao T H=some (v,H1)) {rest:List Nat} {Q:Exit->Act->World->Prop} {i:Nat} (ho:ops[i]?=some o)
  (hnext:∀(ρ1:Pl) (a':Act) (w':World),ρ0.le ρ1->bF Prot w0 ρ1 H1 w'->rT ρ1 n (cR T ao.dst v) a'->wpOps P ops Q rest a' w'):wpOps P ops Q (i::rest) a w:=by
 obtain⟨U,hG,ht⟩:=hP.1.t
 rw[Am hG haT]at hs
 unfold dB at hco
 split at hco
 ·rename_i ax g hop hg
  cases hdst:dQ n o.dst with
  | false=>rw[hdst]at hco; simp at hco
  | true=>
   rw[hdst]at hco
   simp only[cond_true,sJ]at hco
   subst hco
   simp only[wpOps,ho]
   simp only[br]at hs
   rw[fZ ht hg]
   cases hgo:gY U g with
   | false=>
    rw[hgo]at hs
    simp only[cond_false,sJ,pJ]at hs
    obtain⟨rfl,rfl⟩:=hs
    simp only[SO,if_false]
    exact hnext ρ _ w hle R (hP.put hdst eg)
   | true=>
    rw[hgo]at hs
    simp only[cond_true]at hs
    simp only[if_true]
    left
    split at hs
    ·rename_i v' H2 hv
     simp only[sJ,pJ]at hs
     obtain⟨rfl,rfl⟩:=hs
     obtain⟨ρ1,w1,nx,q1,q2,q3,q4⟩:=jw htb R ht o hop hv
     simp only[Oper.wp,q2]
     cases nx <;> simp only[jQ]at q4
     case value u=>exact hnext ρ1 _ w1 (Pl.le_trans hle q1) q3 ((hP.mono q1).put hdst q4)
     case skip=>exact hnext ρ1 _ w1 (Pl.le_trans hle q1) q3 ((hP.mono q1).put hdst q4)
    ·rename_i f args H2 hv
     obtain⟨ρ1,w1,nx,q1,q2,q3,q4⟩:=jw htb R ht o hop hv
     simp only[Oper.wp,q2]
     cases nx <;> simp only[jQ]at q4
     case enter g vs=>
      obtain⟨rfl,hbig,q5⟩:=q4
      simp only[Oper.upon]
      refine (hcall _ _ _ _ _ hbig hs Prot w0 ρ1 w1 vs q3 q5).mono fun e w' hr=>?_
      obtain⟨ρ2,u,r1,rfl,r3,r4⟩:=hr
      exact hnext ρ2 _ w' (Pl.le_trans hle (Pl.le_trans q1 r1)) r3 ((hP.mono (Pl.le_trans q1 r1)).put hdst r4)
    ·simp at hs
 ·simp at hco
theorem Fz{tb:FuncId->Bool}(htb:∀f,Nat.blt f cj=true->tb f=true->bO P f=true)(htbP:∀f,Nat.blt f cj=true->tb (cj+f)=true->bO P f=true){call:FuncId->List aa->ae->Option (aa×ae)}(hcall:iW P call)(hcallP:AB P call)
  {n k:Nat} {ps:List Nat} {ops:Array Oper}:∀(rest:List Oper) (i:Nat) (its:List wR),(∀j,rest[j]?=ops[i+j]?)->tY P n ps ops rest=some its->∀(ρ0 ρ:Pl) (T T':Tr aa) (H H':ae) (e:uD) (a:Act) (w:World),ρ0.le ρ ->
   bF Prot w0 ρ H w->rT ρ n T a->aM tb call k (gk n its []) T H=some (e,T',H')->wpOps P ops (Gm Prot w0 ρ0 n e T' H') (List.range' i rest.length) a w:=by
 intro rest
 induction rest with
 | nil=>
  intro i its _ hc ρ0 ρ T T' H H' e a w hle R hP h
  simp only[tY,sJ]at hc
  subst hc
  simp only[gk,aM,List.reverse_nil,bh,sJ,pJ]at h
  obtain⟨rfl,rfl,rfl⟩:=h
  exact⟨ρ,hle,R,rfl,hP⟩
 | cons o rest ih=>
  intro i its hi hc ρ0 ρ T T' H H' e a w hle R hP h
  simp only[tY]at hc
  split at hc
  ·rename_i it l' ha hl
   simp only[sJ]at hc
   subst hc
   have ho:ops[i]?=some o:=by have:=hi 0; simpa using this.symm
   have hnx:∀j,rest[j]?=ops[i+1+j]?:=fun j=>by have:=hi (j+1); simp only[SN]at this; rw[this]; congr 1; omega
   rw[SF,List.range'_succ]
   unfold MQ at ha
   split at ha
   ·-- a panic
    rename_i x hox
    split at ha
    ·rename_i y hg hy
     cases hT:dt n y with
     | false=>rw[hT]at ha; simp at ha
     | true=>
      rw[hT]at ha
      simp only[cond_true,sJ]at ha
      subst ha
      simp only[gk,aM,List.reverse_nil,List.nil_append]at h
      split at h
      ·rename_i T1 H1 h1
       split at h1
       ·rename_i T2 H2 h2
        simp only[sJ,pJ]at h1
        obtain⟨_,rfl,rfl⟩:=h1
        simp only[sJ,pJ]at h
        obtain⟨rfl,rfl,rfl⟩:=h
        obtain⟨v,hs,rfl⟩:=qj h2
        obtain⟨U,hG,ht⟩:=hP.1.t
        rw[ci]at hs
        simp only[bW,fT,gJ,vv]at hs
        have hx:=aG ht hy
        rw[<- hG.x hT]at hx
        generalize ev T y=q at hs hx
        unfold Qz at hs
        split at hs
        ·rename_i v' H3 hv
         split at hv
         ·rename_i v2 hv2
          split at hv2
          ·rename_i t z heq
           simp only[List.cons.injEq,and_true]at heq
           subst heq
           simp only[sJ]at hv2
           subst hv2
           simp only[sJ,pJ,Nx.val.injEq]at hv hs
           obtain⟨rfl,rfl⟩:=hv
           obtain⟨rfl,rfl⟩:=hs
           simp only[wpOps,ho]
           have hw:Region.wanted o (yielded ops a.tmps)=true:=by simp[Region.wanted,hg]
           rw[if_pos hw]
           left
           have hx':=hx
           simp only[ah]at hx'
           obtain⟨yv,e1,e2⟩:=hx'
           have hrun:(execOp a.eval o).run P w=.halt (.panic (.iface t yv)) w:=by
            obtain⟨dst,op,type,pos,after,guard⟩:=o
            simp only at hox
            subst hox
            show (do pure (Next.value (<- Instr.panic (a.eval x))):Sem Next).run P w=_
            rw[e1]
            rfl
           simp only[Oper.wp,hrun,Oper.upon]
           refine⟨ρ,hle,R,.inr ⟨rfl,.inr ⟨_,rfl,.iface t z,?_,?_,.inr ?_⟩⟩⟩
           ·simp only[cR,aT,if_true]
           ·rw[<- e1]; exact hx
           ·exact hP.1.ghost rL om _
          ·simp at hv2
         ·simp at hv
        ·rename_i f args H3 hv
         split at hv <;> simp at hv
        ·simp at hs
       ·simp at h1
      ·rename_i e1 T1 H1 hne h1
       split at h1
       ·simp only[sJ,pJ]at h1
        exact (hne h1.1.symm).elim
       ·simp at h1
      ·simp at h
    ·simp at ha
   ·-- a call laid lP
    rename_i c hox
    split at ha
    ·rename_i x hg hd hcal
     split at ha
     ·rename_i y hargs hy
      cases hT:dt n y with
      | false=>rw[hT]at ha; simp at ha
      | true=>
       rw[hT]at ha
       simp only[cond_true,sJ]at ha
       subst ha
       simp only[gk]at h
       rw[gD]at h
       split at h
       ·rename_i T1 H1 h1
        simp only[List.reverse_cons,List.reverse_nil,List.nil_append]at h1
        obtain⟨v,hs,rfl⟩:=qj h1
        obtain⟨U,hG,ht⟩:=hP.1.t
        rw[ci]at hs
        simp only[bW,fT,gJ,vv]at hs
        have hx:=aG ht hy
        rw[<- hG.x hT]at hx
        have hdf:=hP.1.d
        generalize ev T (.t (n+1))=z at hs hdf
        generalize ev T y=q at hs hx
        unfold Na at hs
        split at hs
        ·rename_i v' H3 hv
         split at hv
         ·rename_i v2 hv2
          split at hv2
          ·rename_i f fa fb heq
           simp only[List.cons.injEq,and_true]at heq
           obtain⟨rfl,rfl⟩:=heq
           simp only[sJ]at hv2
           subst hv2
           simp only[sJ,pJ,Nx.val.injEq]at hv hs
           obtain⟨rfl,rfl⟩:=hv
           obtain⟨rfl,rfl⟩:=hs
           have hds:a.defers=[]:=by
            rcases hdf with⟨_,h9⟩ | ⟨f',a',b',d',cap',h9,_⟩
            ·exact h9
            ·simp at h9
           simp only[wpOps,ho]
           have hw:Region.wanted o (yielded ops a.tmps)=true:=by simp[Region.wanted,hg]
           rw[if_pos hw]
           left
           simp only[ah]at hx
           obtain⟨fv,cv,hfv,hv1,hv2⟩:=hx
           have hrun:(execOp a.eval o).run P w=.ok (.defer { target:=.fn (.func f) cv,args:=fv }) w:=by
            obtain⟨dst,op,type,pos,after,guard⟩:=o
            obtain⟨cal,args,ats⟩:=c
            simp only at hox hcal hargs hd
            subst hox hcal hd
            have:args=#[]:=by simpa using hargs
            subst this
            simp[execOp,resolve,hfv,Deferred.ofValue]
           simp only[Oper.wp,hrun,Oper.upon,hd]
           refine ih (i+1) l' hnx hl ρ0 ρ _ _ _ _ _ _ _ hle R ⟨⟨⟨U,hG.ghost om _,ht⟩,?_⟩,?_⟩ h
           ·simp only[cR,aT,if_true,Act.put,hds]
            exact .inr ⟨f,fa,fb,_,cv,rfl,rfl,rfl,hv2,hv1⟩
           ·simp only[cR,aT]
            rw[if_neg om]
            exact hP.2
          ·simp at hv2
         ·simp at hv
        ·rename_i f args H3 hv
         split at hv <;> simp at hv
        ·simp at hs
       ·simp at h
     ·simp at ha
    ·simp at ha
   ·-- a call that may panic,or whatever is ordinary
    split at ha
    ·rename_i f lo hraw
     obtain⟨args,ats,hoe,rfl⟩:=vE hraw
     split at ha
     ·rename_i lx g hlx hgc
      cases hcnd:Nat.blt f cj&&(kY n lx&&(Lr n g&&dQ n o.dst)) with
      | false=>rw[hcnd]at ha; simp at ha
      | true=>
       rw[hcnd]at ha
       simp only[cond_true,sJ]at ha
       subst ha
       simp only[SE]at hcnd
       obtain⟨hbig,hlT,hgT,hdst⟩:=hcnd
       obtain⟨U,hG,ht⟩:=hP.1.t
       have key:∃(v:aa) (H1:ae),br tb call ⟨some (n+3),.call (cj+f) lx,g⟩ T H=some (v,H1) /\
         ((fY v = true /\ e = .exit PB /\ T' = (((T.set (n + 3) v).set (n + 2) (.bool true)).set n v) /\ H' = H1) ∨
          (fY v = false /\ aM tb call k (gk n l' []) (cR ((T.set (n + 3) v).set (n + 2) (.bool false)) o.dst v) H1 = some (e, T', H'))) := by
        simp only[gk,aM,List.reverse_nil,List.nil_append]at h
        rw[bB]at h
        cases hs:br tb call ⟨some (n+3),.call (cj+f) lx,g⟩ T H with
        | none=>rw[hs]at h; simp at h
        | some p=>
         obtain⟨v,H1⟩:=p
         rw[hs]at h
         refine⟨v,H1,rfl,?_⟩
         simp only[cR]at h
         rw[bB,ci]at h
         have e3:ev (T.set (n+3) v) (.t (n+3))=v:=by rw[aT,if_pos rfl]
         simp only[bW,fT,gJ,vv,Ou,e3,bh,cR]at h
         have e2:ev ((T.set (n+3) v).set (n+2) (.bool (fY v))) (.t (n+2))=.bool (fY v):=by rw[aT,if_pos rfl]
         have e33:ev ((T.set (n+3) v).set (n+2) (.bool (fY v))) (.t (n+3))=v:=by rw[aT,if_neg om,aT,if_pos rfl]
         rw[e2]at h
         cases hp:fY v with
         | true=>
          rw[hp]at h e33
          simp only[gY,cond_true,e33,sJ,pJ]at h
          obtain⟨rfl,rfl,rfl⟩:=h
          exact .inl ⟨rfl,rfl,rfl,rfl⟩
         | false=>
          rw[hp]at h e33
          simp only at h
          rw[gD]at h
          simp only[List.reverse_cons,List.reverse_nil,List.nil_append]at h
          rw[bB,ci]at h
          simp only[bW,e33,bh]at h
          exact .inr ⟨rfl,h⟩
       obtain⟨v,H1,hs,hk⟩:=key
       simp only[wpOps,ho]
       rw[fZ ht hgc]
       simp only[br,Bv hG hgT]at hs
       have hgg:∀(ρ':Pl),ρ.le ρ'->∀b,rT ρ' n ((T.set (n+3) v).set (n+2) b) a:=fun ρ' hl b=>((hP.mono hl).ghost om v).ghost rL b
       cases hgo:gY U g with
       | false=>
        rw[hgo]at hs
        simp only[cond_false,sJ,pJ]at hs
        obtain⟨rfl,rfl⟩:=hs
        simp only[SO,if_false]
        rcases hk with⟨hp,_⟩ | ⟨_,hk⟩
        ·simp[fY,aR]at hp
        ·exact ih (i+1) l' hnx hl ρ0 ρ _ _ _ _ _ _ w hle R ((hgg ρ (Pl.le_refl _) _).put hdst eg) hk
       | true=>
        rw[hgo]at hs
        simp only[cond_true]at hs
        simp only[if_true]
        left
        simp only[bW]at hs
        cases hb:tb (cj+f) with
        | false=>rw[hb]at hs; simp at hs
        | true=>
         rw[hb]at hs
         simp only[cond_true]at hs
         rw[hG.xs hlT]at hs
         simp only[Oper.wp,HA hoe (htbP f hbig hb) a,Oper.upon]
         refine (hcallP f _ _ _ _ hbig hs Prot w0 ρ w (args.map a.eval) R (by simpa using gI ht hlx)).mono fun e' w' hr=>?_
         obtain⟨ρ2,r1,r3,⟨u,rfl,r4⟩ | ⟨x,u,rfl,rfl,r4⟩⟩:=hr
         ·rcases hk with⟨hp,_⟩ | ⟨_,hk⟩
          ·rw[Iq r4]at hp; simp at hp
          ·exact ih (i+1) l' hnx hl ρ0 ρ2 _ _ _ _ _ _ w' (Pl.le_trans hle r1) r3 ((hgg ρ2 r1 _).put hdst r4) hk
         ·rcases hk with⟨_,rfl,rfl,rfl⟩ | ⟨hp,_⟩
          ·refine⟨ρ2,Pl.le_trans hle r1,r3,.inr ⟨rfl,.inr ⟨u,rfl,x,by rw[aT,if_pos rfl],r4,.inr ?_⟩⟩⟩
           exact (hgg ρ2 r1 _).1.ghost rL om _
          ·simp[fY,kX]at hp
     ·simp at ha
    ·unfold P5 at ha
     split at ha
     ·rename_i ao hco
      cases haT:dK n ao with
      | false=>rw[haT]at ha; simp at ha
      | true=>
       rw[haT]at ha
       simp only[cond_true,sJ]at ha
       subst ha
       simp only[gk]at h
       rw[gD]at h
       split at h
       ·rename_i T1 H1 h1
        simp only[List.reverse_cons,List.reverse_nil,List.nil_append]at h1
        obtain⟨v,hs,rfl⟩:=qj h1
        exact KI htb hcall hco haT hle R hP hs ho fun ρ1 a' w' q1 q2 q3=>ih (i+1) l' hnx hl ρ0 ρ1 _ _ _ _ _ a' w' q1 q2 q3 h
       ·simp at h
     ·simp at ha
  ·simp at hc
end
end Go.Abs
namespace Go.Abs
section
variable {P:Program} {n:Nat} {ps:List Nat} {ops:Array Oper}
def Sy(P:Program)(n:Nat)(ops:Array Oper)(c d:Nat)(j:Nat)(o:Oper)(a:al):Prop:=
 (j=c/\Eh P n ops o a)∨(j≠c/\jz (aV [] (ops.toList.map aU)) j c=false/\dB P n ops o=some a)∨(j≠c/\jz (aV [] (ops.toList.map aU)) j c=true/\∃a',dB P n ops o=some a'/\a'.guard=none/\cG a'.op=none/\a=⟨a'.dst,a'.op,some (SK+d,false)⟩)
theorem FU{c d j:Nat}{o:Oper}{a:al}(h:N8 P n ps ops (aV [] (ops.toList.map aU)) c d j o=some a):Sy P n ops c d j o a/\a.dst=o.dst:=by
 have hdst:∀{a},dB P n ops o=some a->a.dst=o.dst:=by
  intro a h
  unfold dB at h
  split at h
  ·cases hd:dQ n o.dst with
   | false=>rw[hd]at h; simp at h
   | true=>rw[hd]at h; simp only[cond_true,sJ]at h; subst h; rfl
  ·simp at h
 unfold N8 at h
 cases hb:Nat.beq j c with
 | true=>
  rw[hb]at h
  simp only[cond_true,P4]at h
  split at h
  ·rename_i f lo hraw
   obtain⟨args,ats,hoe,rfl⟩:=vE hraw
   split at h
   ·rename_i lx g hlx hg
    cases hc:Nat.blt f cj&&dQ n o.dst with
    | false=>rw[hc]at h; simp at h
    | true=>
     rw[hc]at h
     simp only[cond_true,sJ]at h
     subst h
     simp only[SE]at hc
     exact⟨.inl ⟨SI hb,f,args,ats,lx,g,hoe,hlx,hg,hc.2,hc.1,rfl⟩,rfl⟩
   ·simp at h
  ·simp at h
 | false=>
  have hne:j≠c:=fun e=>by subst e; rw[Nat.beq_refl]at hb; simp at hb
  rw[hb]at h
  simp only[cond_false]at h
  split at h
  ·rename_i a' ha'
   cases hbt:jz (aV [] (ops.toList.map aU)) j c with
   | false=>rw[hbt]at h; simp only[cond_false,sJ]at h; subst h; exact⟨.inr (.inl ⟨hne,hbt,ha'⟩),hdst ha'⟩
   | true=>
    rw[hbt]at h
    simp only[cond_true,PW]at h
    split at h
    ·rename_i hg hnw
     simp only[sJ]at h
     subst h
     exact⟨.inr (.inr ⟨hne,hbt,a',ha',hg,hnw,rfl⟩),(hdst ha':a'.dst=o.dst)⟩
    ·simp at h
  ·simp at h
theorem BQ{c d:Nat}:∀{rest:List Oper} {l:List al} {j:Nat},z8 P n ps ops (aV [] (ops.toList.map aU)) c d j rest=some l->l.length=rest.length/\∀k o,rest[k]?=some o->∃a,l[k]?=some a/\Sy P n ops c d (j+k) o a/\a.dst=o.dst:=by
 intro rest
 induction rest with
 | nil=>intro l j h; simp only[z8,sJ]at h; subst h; exact⟨rfl,fun k o h=>by simp at h⟩
 | cons o r ih=>
  intro l j h
  simp only[z8]at h
  split at h
  ·rename_i a l' ha hl
   simp only[sJ]at h
   subst h
   obtain⟨q1,q2⟩:=ih hl
   refine⟨by simp[q1],fun k o' hk=>?_⟩
   cases k with
   | zero=>
    simp only[SL,sJ]at hk
    subst hk
    exact⟨a,rfl,by rw[Nat.add_zero]; exact FU ha⟩
   | succ k=>
    simp only[SN]at hk ⊢
    obtain⟨a',z1,z2⟩:=q2 k o' hk
    exact⟨a',z1,by rw[show j+(k+1)=j+1+k by omega]; exact z2⟩
  ·simp at h
theorem Bf{c d:Nat}:∀{l:List al} {k:Nat},y6 c d k l=true->∀i b,l[i]?=some b->b.dst=some d->k+i=c:=by
 intro l
 induction l with
 | nil=>intro k _ i b h; simp at h
 | cons a r ih=>
  intro k h i b hb hd
  simp only[y6,SE,Bool.or_eq_true,Bool.not_eq_true',beq_eq_false_iff_ne,ne_eq]at h
  cases i with
  | zero=>
   simp only[SL,sJ]at hb
   subst hb
   rcases h.1 with h1 | h1
   ·exact SI h1
   ·exact absurd hd h1
  | succ i=>
   simp only[SN]at hb
   have:=ih h.2 i b hb hd
   omega
theorem Ba{c d:Nat}:∀{rest:List Oper} {j:Nat},yT ps j rest=some (c,d)->∃k o,c=j+k/\rest[k]?=some o/\o.dst=some d:=by
 intro rest
 induction rest with
 | nil=>intro j h; simp[yT]at h
 | cons o r ih=>
  intro j h
  simp only[yT]at h
  split at h
  ·rename_i d' _ hd
   simp only[sJ,pJ]at h
   obtain⟨rfl,rfl⟩:=h
   exact⟨0,o,rfl,rfl,hd⟩
  ·obtain⟨k,o',h1,h2,h3⟩:=ih h
   exact⟨k+1,o',om,by simpa using h2,h3⟩
theorem iP{rest:List Oper}{l:List al}{st:Option (Nat×Nat)}(h:Dn P n ps ops rest=some (l,st)):(st=none/\cz P n ops rest=some l) ∨
  ∃c d ac,st=some (c,d)/\l.length=rest.length/\(∀k o,rest[k]?=some o->∃a,l[k]?=some a/\Sy P n ops c d k o a)/\l[c]?=some ac/\ac.dst=some d/\(∀i b,l[i]?=some b->b.dst=some d->i=c):=by
 have hp:tV P n ops rest=some (l,st)->st=none/\cz P n ops rest=some l:=by
  intro h
  unfold tV at h
  split at h
  ·rename_i l' hl
   simp only[sJ,pJ]at h
   obtain⟨rfl,rfl⟩:=h
   exact⟨rfl,hl⟩
  ·simp at h
 unfold Dn at h
 split at h
 ·rename_i c d hr
  split at h
  ·rename_i l' hl
   cases hw:y6 c d 0 l' with
   | false=>rw[hw]at h; exact .inl (hp h)
   | true=>
    rw[hw]at h
    simp only[cond_true,sJ,pJ]at h
    obtain⟨rfl,rfl⟩:=h
    obtain⟨q1,q2⟩:=BQ hl
    obtain⟨k,o,hc,ho,hd⟩:=Ba hr
    rw[Nat.zero_add]at hc
    subst hc
    obtain⟨ac,z1,_,z2⟩:=q2 c o ho
    exact .inr ⟨c,d,ac,rfl,q1,fun k o hk=>by have:=q2 k o hk; rw[Nat.zero_add]at this; obtain⟨a,y1,y2,_⟩:=this; exact⟨a,y1,y2⟩,z1,by rw[z2]; exact hd,fun i b hb hbd=>by have:=Bf hw i b hb hbd; omega⟩
  ·exact .inl (hp h)
 ·exact .inl (hp h)
theorem kj:∀(m:List al) (b:Nat),(aB b m).length=m.length
 | [],_=>rfl
 | o::r,b=>by simp only[aB]; cases cG o.op <;> simp[kj r]
theorem fE:∀(l:List al) (b k:Nat) (a:al),l[k]?=some a->∃c,b<=c/\(aB b l)[k]?=(aB c [a])[0]?
 | [],_,_,_,h=>by simp at h
 | o::r,b,0,a,h=>by
  simp only[SL,sJ]at h
  subst h
  refine⟨b,Nat.le_refl _,?_⟩
  simp only[aB]
  cases cG o.op with
  | none=>rfl
  | some p=>rfl
 | o::r,b,k+1,a,h=>by
  simp only[SN]at h
  simp only[aB]
  cases cG o.op with
  | none=>simp only[SN]; exact fE r b k a h
  | some p=>
   obtain⟨c,h1,h2⟩:=fE r (b+1) k a h
   exact⟨c,om,by simp only[SN]; exact h2⟩
theorem Bg{l:List al}{ms:List Nat}(hp:eu l ms=true){i j:Nat}{a b:al}(hij:i<j)(hi:l[i]?=some a)(hj:l[j]?=some b):gw ms i j a b=true:=by
 unfold eu at hp
 rw[List.all_eq_true]at hp
 have h1:=hp j (List.mem_range.2 (SC.1 hj).1)
 rw[hj]at h1
 simp only at h1
 rw[List.all_eq_true]at h1
 have h2:=h1 i (List.mem_range.2 hij)
 rw[hi]at h2
 exact h2
theorem nJ{l:List al}{b k:Nat}{a:al}(h:(aB b l)[k]?=some a):∃a',l[k]?=some a'/\a'.dst=a.dst:=by
 have hkl:k<l.length:=by have:=(SC.1 h).1; rwa [kj]at this
 obtain⟨b4,_,hg4⟩:=fE l b k _ (SB hkl)
 refine⟨_,SB hkl,?_⟩
 rw[h]at hg4
 simp only[aB]at hg4
 cases hz:cG (l[k]).op with
 | none=>rw[hz]at hg4; simp only[SL,sJ]at hg4; rw[hg4]
 | some p=>rw[hz]at hg4; simp only[SL,sJ]at hg4; rw[hg4]
theorem j9{a:al}(h:cG a.op=none)(b:Nat):aB b [a]=[a]:=by simp[aB,h]
theorem Bt{tb:FuncId->Bool}{call:FuncId->List aa->ae->Option (aa×ae)}{m:List al}{U:Tr aa}{K:ae}{ss:List (aa×ae)}(htr:cQ tb call m U K=some ss){c:Nat}{H1:ae}{v:aa}(hs:ss[c]?=some (v,H1))
  (h:∀k b,c<k->m[k]?=some b->aJ b.op=false∨gY (bj (fun i=>Nat.blt i (0+k)) 0 m ss U) b.guard=false):ew K ss m.length=H1:=by
 obtain⟨hl,hat⟩:=gN m U K ss 0 htr
 have hc:c<ss.length:=(SC.1 hs).1
 have key:∀e,c+1+e<=m.length->ew K ss (c+1+e)=H1:=by
  intro e
  induction e with
  | zero=>intro _; simp only[Nat.add_zero,ew,hs]
  | succ e ih=>
   intro he
   have h0:=ih om
   have hb:m[c+1+e]?=some (m[c+1+e]'om):=SB om
   rcases h _ _ om hb with h1 | h1
   ·have:=de htr 1 (c+1+e) om fun q o q1 q2 q3=>by
     have:q=c+1+e:=om
     subst this
     rw[hb,sJ]at q3
     subst q3
     exact h1
    rw[<- Nat.add_assoc,this,h0]
   ·obtain⟨v',H',z1,z2⟩:=hat _ _ hb
    simp only[br,h1,cond_false,sJ,pJ]at z2
    rw[<- Nat.add_assoc]
    simp only[ew,z1]
    rw[<- z2.2,h0]
 have:=key (m.length-(c+1)) om
 rwa [show c+1+(m.length-(c+1))=m.length by omega]at this
end
section
variable {P:Program} {Prot:Gh} {w0:World} {ρ:Pl} {H H':ae} {w:World}
theorem wo(hfol:P.follows .mixedOrders=true){tb:FuncId->Bool}(htb:∀f,Nat.blt f cj=true->tb f=true->bO P f=true)(htbP:∀f,Nat.blt f cj=true->tb (cj+f)=true->bO P f=true)
  {call:FuncId->List aa->ae->Option (aa×ae)} (hcall:iW P call) (hcallP:AB P call) {n id:Nat} {ps:List Nat} {ops:Array Oper} {l:List al} {st:Option (Nat×Nat)}
  (hl:Dn P n ps ops ops.toList=some (l,st)) (hok:gz (ops.toList.map aU) (aV [] (ops.toList.map aU))=true) (hokp:eu (aB 0 l) (aV [] (ops.toList.map aU))=true) (hlT:l.all (dK n)=true)
  {T T1:Tr aa} {H1:ae} {e:uD} {a:Act} (R:bF Prot w0 ρ H w) (hP:rT ρ n T a)
  (h:lR tb call (aB H.next l) ((List.range l.length).map (dV (aB 0 l) (aV [] (ops.toList.map aU)))) T (aQ H l)=some (e,T1,H1)) :
  e=.normal/\(Code.region id ops true).wp P (fun e' a' w'=>∃ρ',ρ.le ρ'/\bF Prot w0 ρ' H1 w' /\
   ((e'=.normal/\rT ρ' n T1 a')∨∃c d' x u,st=some (c,d')/\e'=.panic [{ v:=u,recovered:=false }]/\ev T1 (.t d')=kX x/\ah ρ' x u/\a'.defers=a.defers/\ev T1 (.t (n+1))=ev T (.t (n+1)))) a w:=by
 obtain⟨U,hG,ht⟩:=hP.1.t
 obtain⟨he,U1,hU,hG1,hS⟩:=Jv hG (tR l H.next hlT) h
 refine⟨he,?_⟩
 have hPn:∀(ρ':Pl) (a':Act),ρ.le ρ'->be ρ' n U1 a'.tmps->a'.defers=a.defers->rT ρ' n T1 a':=fun ρ' a' hle ht' hd'=>
  ⟨⟨⟨U1,hG1,ht'⟩,by rw[hd',hS (n+1) om]; exact hP.1.d.mono hle⟩,by rw[hS n rL]; exact hP.2⟩
 have hlen0:(aB 0 l).length=l.length:=kj l 0
 have hlk:=g8 l H.next 0
 have hok2:eu (aB H.next l) (aV [] (ops.toList.map aU))=true:=by rw[oF hlk]; exact hokp
 have hbase:∀d,Prot.dead d->d<H.next:=fun d hd=>(R.dead d hd).1
 have hone:∀{o a},dB P n ops o=some a->cz P n ops [o]=some [a]:=fun ho=>by simp only[cz,ho]
 have hnc:dM l:=by
  rcases iP hl with⟨_,h2⟩ | ⟨c,d,ac,_,h2,h3,_⟩
  ·exact dI h2
  ·refine⟨fun x hx c' z s hcl=>?_,fun x hx=>?_⟩
   ·obtain⟨k,hk⟩:=List.getElem?_of_mem hx
    have hkl:=(SC.1 hk).1
    obtain⟨a,y1,y2⟩:=h3 k _ (SB om)
    rw[hk,sJ]at y1
    subst y1
    rcases y2 with⟨_,f,args,ats,lx,g,_,_,_,_,_,rfl⟩ | ⟨_,_,y2⟩ | ⟨_,_,a',y2,_,_,rfl⟩
    ·simp at hcl
    ·exact (dI (hone y2)).1 x (by simp) c' z s hcl
    ·exact (dI (hone y2)).1 a' (by simp) c' z s hcl
   ·obtain⟨k,hk⟩:=List.getElem?_of_mem hx
    have hkl:=(SC.1 hk).1
    obtain⟨a,y1,y2⟩:=h3 k _ (SB om)
    rw[hk,sJ]at y1
    subst y1
    rcases y2 with⟨_,f,args,ats,lx,g,_,_,_,_,_,rfl⟩ | ⟨_,_,y2⟩ | ⟨_,_,a',y2,_,_,rfl⟩
    ·rfl
    ·exact (dI (hone y2)).2 x (by simp)
    ·exact (dI (hone y2)).2 a' (by simp)
 have hrp:∃rp:Nat->Prop,(∀c,rp c->∃d,st=some (c,d))/\(∀c d,st=some (c,d)->rp c):=⟨fun c=>∃d,st=some (c,d),fun c h=>h,fun c d h=>⟨d,h⟩⟩
 obtain⟨rp,hrp1,hrp2⟩:=hrp
 have hopers:(aB H.next l).length=ops.toList.length/\∀(j:Nat) (o:Oper),ops.toList[j]?=some o->∃a,(aB H.next l)[j]?=some a/\((¬rp j/\(dB P n ops o=some a∨(∃c,H.next<=c/\Gr P n ops o a c)∨QE P n ops (aB H.next l) (aV [] (ops.toList.map aU)) rp o a j))∨(st≠none/\rp j/\Eh P n ops o a)):=by
  rcases iP hl with⟨rfl,h2⟩ | ⟨c,d,ac,rfl,h2,h3,h4,h5,h6⟩
  ·obtain⟨q1,q2⟩:=mD h2 H.next
   exact⟨q1,fun j o hj=>let ⟨a,z1,z2⟩:=q2 j o hj; ⟨a,z1,.inl ⟨fun hr=>by obtain⟨d,hd⟩:=hrp1 j hr; simp at hd,z2.imp_right .inl⟩⟩⟩
  ·refine⟨by rw[kj]; exact h2,fun j o hj=>?_⟩
   obtain⟨a,y1,y2⟩:=h3 j o hj
   obtain⟨b,hb,hget⟩:=fE l H.next j a y1
   have hnr:j≠c->¬rp j:=fun hne hr=>by obtain⟨d',hd⟩:=hrp1 j hr; simp only[sJ,pJ]at hd; exact hne hd.1.symm
   rcases y2 with⟨rfl,y2⟩ | ⟨hne,_,y2⟩ | ⟨hne,hbit,a',y2,y3,y4,rfl⟩
   ·have hz:cG a.op=none:=by obtain⟨f,args,ats,lx,g,_,_,_,_,_,rfl⟩:=y2; rfl
    rw[j9 hz]at hget
    exact⟨a,by simpa using hget,.inr ⟨by simp,hrp2 _ _ rfl,y2⟩⟩
   ·obtain⟨_,q2⟩:=mD (hone y2) b
    obtain⟨a2,z1,z2⟩:=q2 0 o rfl
    refine⟨a2,by rw[hget,z1],.inl ⟨hnr hne,z2.imp_right fun ⟨c',w1,w2⟩=>.inl ⟨c',om,w2⟩⟩⟩
   ·rw[j9 (a:=⟨a'.dst,a'.op,some (SK+d,false)⟩) y4]at hget
    have hcz:∃ac2,(aB H.next l)[c]?=some ac2/\ac2.dst=some d/\ac2.dst=ac.dst:=by
     obtain⟨b2,_,hg2⟩:=fE l H.next c ac h4
     simp only[aB]at hg2
     cases hz:cG ac.op with
     | none=>rw[hz]at hg2; exact⟨ac,by simpa using hg2,h5,rfl⟩
     | some p=>rw[hz]at hg2; exact⟨⟨ac.dst,rl b2 p.1 p.2 ac.op,ac.guard⟩,by simpa using hg2,h5,rfl⟩
    obtain⟨ac2,w1,w2,_⟩:=hcz
    refine⟨_,by simpa using hget,.inl ⟨hnr hne,.inr (.inr ⟨a',c,d,ac2,y2,y3,rfl,hbit,hrp2 _ _ rfl,w1,w2,fun k b' hk hbd=>?_⟩)⟩⟩
    obtain⟨b3,w3,w4⟩:=nJ hk
    exact h6 k b3 w3 (w4.trans hbd)
 have hraw:∀c d,st=some (c,d)->∃ac,(aB H.next l)[c]?=some ac/\ac.dst=some d/\aJ ac.op=true/\d<n/\(∀k b,(aB H.next l)[k]?=some b->b.dst=some d->k=c)/\∀k b,c<k->(aB H.next l)[k]?=some b->aJ b.op=true->b.guard=some (SK+d,false):=by
  intro c d hst
  rcases iP hl with⟨h0,_⟩ | ⟨c',d',ac,h1,h2,h3,h4,h5,h6⟩
  ·rw[hst]at h0; simp at h0
  ·rw[hst,sJ,pJ]at h1
   obtain⟨rfl,rfl⟩:=h1
   have hcl:=(SC.1 h4).1
   obtain⟨a,y1,y2⟩:=h3 c _ (SB om)
   rw[h4,sJ]at y1
   subst y1
   rcases y2 with⟨_,f,args,ats,lx,g,_,_,_,q4,_,rfl⟩ | ⟨hne,_⟩ | ⟨hne,_⟩
   ·simp only at h5
    rw[h5]at q4
    obtain⟨b,_,hget⟩:=fE l H.next c _ h4
    rw[j9 rfl]at hget
    have hc2:=hget
    simp only[SL]at hc2
    refine⟨_,hc2,h5,rfl,eQ q4,fun k b' hk hbd=>?_,fun k b' hck hk hch=>?_⟩
    ·obtain⟨b3,w3,w4⟩:=nJ hk
     exact h6 k b3 w3 (w4.trans hbd)
    ·have hpr:=Bg hok2 hck hc2 hk
     simp only[gw,Bool.or_eq_true,SE,Bool.not_eq_true']at hpr
     have hbit:jz (aV [] (ops.toList.map aU)) k c=true:=by
      rcases hpr with hpr | ⟨hpr,_⟩
      ·exact hpr
      ·rw[hch]at hpr; simp[aJ,jx,dn]at hpr
     obtain⟨b3,w3,_⟩:=nJ hk
     have hkl:=(SC.1 w3).1
     obtain⟨a2,z1,z2⟩:=h3 k _ (SB om)
     rcases z2 with⟨rfl,_⟩ | ⟨_,hb0,_⟩ | ⟨_,_,a',_,_,x4,rfl⟩
     ·omega
     ·rw[hbit]at hb0; simp at hb0
     ·obtain⟨b5,_,hg5⟩:=fE l H.next k _ z1
      rw[j9 (a:=⟨a'.dst,a'.op,some (SK+d,false)⟩) x4,hk]at hg5
      simp only[SL,sJ]at hg5
      rw[hg5]
   ·exact (hne rfl).elim
   ·exact (hne rfl).elim
 have R':=il (pr:=Prot.prot) l Prot.dead H hnc R
 have hchk:(List.range l.length).map (dV (aB 0 l) (aV [] (ops.toList.map aU)))=(List.range (aB H.next l).length).map (dV (aB H.next l) (aV [] (ops.toList.map aU))):=by
  have:l.length=(aB H.next l).length:=by rw[<- hlen0]; exact (hlk.len).symm
  rw[this]
  exact List.map_congr_left fun j _=>(nL hlk _ j).symm
 have hdis:=kl l H.next hnc
 rw[hchk]at hU h
 generalize hcl:aB H.next l=m at *
 generalize hrv:aQ H l=K at *
 unfold lR at hU
 cases hss:cQ tb call m U K with
 | none=>rw[hss]at hU; simp at hU
 | some ss=>
  rw[hss]at hU
  simp only at hU
  cases hr:fF tb (K::ss.map (·.2)) m ((List.range m.length).map (dV m (aV [] (ops.toList.map aU)))) ss U with
  | false=>rw[hr]at hU; simp at hU
  | true=>
   rw[hr]at hU
   simp only[cond_true,sJ,pJ,true_and]at hU
   obtain⟨rfl,rfl⟩:=hU
   refine wp_region_any hfol ?_
   have hN:m.length=ops.size:=by simpa using hopers.1
   have hrep:∀i,(Array.replicate ops.size false).getD i false=false:=fun i=>by
    rw[Array.getD_eq_getD_getElem?,Array.getElem?_replicate]; split <;> rfl
   have hm0:(fun i=>(Array.replicate ops.size false).getD i false)=fun _=>false:=funext hrep
   have hst:aE (fun i=>(Array.replicate ops.size false).getD i false) 0 m=aE (fun _=>false) 0 m:=gP m 0 fun c o _ _=>by simp only[hrep]
   have hH:ew K ss (aE (fun _=>false) 0 m)=K:=by
    obtain⟨q1,q2,q3,q4⟩:=dY (fun _=>false) m 0
    have:=de hss (aE (fun _=>false) 0 m) 0 om fun c o _ hlt ho=>by
     cases hx:aJ o.op with
     | false=>rfl
     | true=>have:=q3 c o ho hx om; simp at this
    rw[Nat.zero_add]at this
    rw[this]; rfl
   have htl:be ρ n (bj (fun i=>(Array.replicate ops.size false).getD i false) 0 m ss U) a.tmps:=by
    refine ht.congr fun t=>?_
    rw[hm0]
    have:∀(l:List al) (ss:List (aa×ae)) (k:Nat) (T:Tr aa),bj (fun _=>false) k l ss T=T:=by
     intro l
     induction l with
     | nil=>intro ss k T; cases ss <;> rfl
     | cons o r ih=>intro ss k T; cases ss with
      | nil=>rfl
      | cons s ss=>obtain⟨x,y⟩:=s; simp only[bj,cond_false,ih]
    rw[this]
   refine zT (RAW:=st≠none) (rp:=rp) (ds:=a.defers) (Prot:=Prot) (w0:=w0) htb hcall (fun _=>htbP) (fun _=>hcallP) (base:=H.next) hopers.1 hopers.2 hbase hdis hok hok2 hss hr (ρ0:=ρ) (fun a' w' hx=>?_) (fun hd c a' w' ρ' x u hrc hle hx hv hda=>?_) ops.size _ a _ (by simp) ?_ (fun j _ hj=>by rw[hrep]at hj; simp at hj) (fun j _ hj=>by rw[hrep]at hj; simp at hj) ⟨ρ,Pl.le_refl _,?_,htl,rfl⟩
   ·obtain⟨ρ',q1,q2,q3,q4⟩:=hx
    exact⟨ρ',q1,q2,.inl ⟨rfl,hPn ρ' a' q1 q3 q4⟩⟩
   ·obtain⟨d',hst'⟩:=hrp1 c hrc
    obtain⟨ac,g1,g2,g3,g4,g5,g6⟩:=hraw c d' hst'
    obtain⟨H9,hx,R1⟩:=hx
    have hsel:∀mk:Nat->Bool,mk (0+c)=true->(bj mk 0 m ss U).get d'=some (kX x):=fun mk hmk=>
     jC m ss 0 c U ac (kX x) H9 g1 hx g2 hmk fun k b hk hkb hbd=>absurd (g5 k b hkb hbd) om
    have hstill:ew K ss m.length=H9:=Bt hss hx fun k b hk hkb=>by
     cases hch:aJ b.op with
     | false=>exact .inl rfl
     | true=>
      right
      obtain⟨k1,k2⟩:=MB d'
      rw[g6 k b hk hkb hch]
      simp only[gY,gV,k1,k2,cond_true,ev]
      rw[hsel _ (by simp only[Nat.zero_add]; exact SD hk)]
      rfl
    refine⟨ρ',hle,by rw[hstill]; exact R1,.inr ⟨c,d',x,u,hst',rfl,?_,hv,hda,hS (n+1) om⟩⟩
    rw[hG1.1 d' g4]
    simp only[ev,hsel (fun _=>true) rfl]
   ·rw[hm0]
    have:∀k,uI (fun _=>false) k=k:=by
     intro k
     induction k with
     | zero=>rfl
     | succ k ih=>simp only[uI,ih,cond_false]
    exact this _
   ·rw[hst,hH,hm0]; exact R'.drew
end
end Go.Abs
namespace Go.Abs
section
variable {P:Program} {Prot:Gh} {w0:World} {ρ:Pl} {H H':ae} {w:World}
theorem FO(hfol:P.follows .mixedOrders=true){tb:FuncId->Bool}(htb:∀f,Nat.blt f cj=true->tb f=true->bO P f=true)(htbP:∀f,Nat.blt f cj=true->tb (cj+f)=true->bO P f=true)
  {call:FuncId->List aa->ae->Option (aa×ae)} (hcall:iW P call) (hcallP:AB P call) {n k:Nat} {ps:List Nat} :
  ∀(c:Code) (ac:cS),d7 P n ps c=some ac->∀(ρ:Pl) (T T':Tr aa) (H H':ae) (e:uD) (a:Act) (w:World),
   bF Prot w0 ρ H w->rT ρ n T a->aM tb call k ac T H=some (e,T',H')->c.wp P (Gm Prot w0 ρ n e T' H') a w:=by
 intro c
 induction c with
 | skip=>
  intro ac hc ρ T T' H H' e a w R hP h
  simp only[d7,sJ]at hc; subst hc
  simp only[aM,sJ,pJ]at h
  obtain⟨rfl,rfl,rfl⟩:=h
  exact wp_skip ⟨ρ,Pl.le_refl _,R,rfl,hP⟩
 | region id ops draw=>
  intro ac hc ρ T T' H H' e a w R hP h
  cases draw with
  | false=>
   simp only[d7]at hc
   split at hc
   ·rename_i its hl
    simp only[sJ]at hc; subst hc
    refine wp_region ?_
    have:=Fz (Prot:=Prot) (w0:=w0) htb htbP hcall hcallP ops.toList 0 its (fun j=>by simp) hl ρ ρ T T' H H' e a w (Pl.le_refl _) R hP h
    rw[List.range_eq_range']
    simpa using this
   ·simp at hc
  | true=>
   simp only[d7,I7]at hc
   split at hc
   ·rename_i l st hl
    cases hck:gz (ops.toList.map aU) (aV [] (ops.toList.map aU))&&eu (aB 0 l) (aV [] (ops.toList.map aU))&&l.all (dK n) with
    | false=>
     rw[hck]at hc
     simp only[cond_false,sJ]at hc; subst hc
     simp[jW]at h
    | true=>
     rw[hck]at hc
     simp only[cond_true]at hc
     simp only[SE]at hck
     obtain⟨⟨hk1,hk2⟩,hk3⟩:=hck
     cases st with
     | none=>
      simp only[sJ]at hc; subst hc
      simp only[aM]at h
      obtain⟨rfl,hw⟩:=wo (id:=id) hfol htb htbP hcall hcallP hl hk1 hk2 hk3 R hP h
      refine wp_mono hw ?_
      rintro e' a' w' ⟨ρ',q1,q2,⟨rfl,q3⟩ | ⟨c',d',x,u,hd,_⟩⟩
      ·exact⟨ρ',q1,q2,rfl,q3⟩
      ·simp at hd
     | some cd=>
      obtain⟨cc,d⟩:=cd
      simp only[sJ]at hc; subst hc
      simp only[aM]at h
      cases hdr:lR tb call (aB H.next l) ((List.range l.length).map (dV (aB 0 l) (aV [] (ops.toList.map aU)))) T (aQ H l) with
      | none=>rw[hdr]at h; simp at h
      | some r=>
       obtain⟨e1,T1,H1⟩:=r
       rw[hdr]at h
       obtain⟨rfl,hw⟩:=wo (id:=id) hfol htb htbP hcall hcallP hl hk1 hk2 hk3 R hP hdr
       simp only at h
       rw[bB,ci]at h
       simp only[bW,fT,gJ,vv,Ou,bh,cR]at h
       have e2:ev (T1.set (n+2) (.bool (fY (ev T1 (.t d))))) (.t (n+2))=.bool (fY (ev T1 (.t d))):=by rw[aT,if_pos rfl]
       rw[e2]at h
       refine wp_mono hw ?_
       rintro e' a' w' ⟨ρ',q1,q2,⟨rfl,q3⟩ | ⟨c',d',x,u,hd,rfl,q3,q4,q5,q6⟩⟩
       ·cases hp:fY (ev T1 (.t d)) with
        | false=>
         rw[hp]at h
         simp only[sJ,pJ]at h
         obtain⟨rfl,rfl,rfl⟩:=h
         exact⟨ρ',q1,q2,rfl,q3.ghost rL _⟩
        | true=>
         exfalso
         obtain⟨U,hG,ht⟩:=q3.1.t
         obtain⟨y,hy⟩:=nD hp
         by_cases hdn:d<n
         ·have:=ht.at_ d
          rw[<- hG.1 d hdn]at this
          exact Bd this hy
         ·rcases iP hl with⟨h0,_⟩ | ⟨c2,d2,ao,h4,_,_,h6',h6,_⟩
          ·simp at h0
          ·simp only[sJ,pJ]at h4
           obtain⟨rfl,rfl⟩:=h4
           have:=List.all_eq_true.1 hk3 ao (SJ h6')
           simp only[dK,SE,h6]at this
           exact hdn (eQ this.2.2)
       ·simp only[sJ,pJ]at hd
        obtain⟨rfl,rfl⟩:=hd
        have hp:fY (ev T1 (.t d))=true:=by rw[q3]; rfl
        rw[hp]at h
        simp only[gY,cond_true,LQ]at h
        have e3:ev ((T1.set (n+2) (.bool true)).set (n+2) (.bool (isU (ev (T1.set (n+2) (.bool true)) (.t (n+1)))))) (.t (n+2))=.bool (isU (ev (T1.set (n+2) (.bool true)) (.t (n+1)))):=by rw[aT,if_pos rfl]
        rw[e3]at h
        have e4:ev (T1.set (n+2) (.bool true)) (.t (n+1))=ev T1 (.t (n+1)):=by rw[aT,if_neg om]
        rw[e4]at h
        cases hu:isU (ev T1 (.t (n+1))) with
        | false=>rw[hu]at h; simp[gu,aM,bh,gY,bW]at h
        | true=>
         rw[hu]at h
         simp only[bh,gY,cond_true,bW,cR]at h
         simp only[sJ,pJ]at h
         obtain⟨rfl,rfl,rfl⟩:=h
         have hund:ev T1 (.t (n+1))=aR:=by
          unfold isU at hu
          split at hu
          ·rename_i h9; rw[h9]; rfl
          ·simp at hu
         have hdn:∃v,ev ((T1.set (n+2) (.bool true)).set (n+2) (.bool true)) (.t d)=v:=⟨_,rfl⟩
         have hdlt:d<n:=by
          rcases iP hl with⟨h0,_⟩ | ⟨c2,d2,ao,h4,_,_,h6',h6,_⟩
          ·simp at h0
          ·simp only[sJ,pJ]at h4
           obtain⟨rfl,rfl⟩:=h4
           have:=List.all_eq_true.1 hk3 ao (SJ h6')
           simp only[dK,SE,h6]at this
           exact eQ this.2.2
         refine⟨ρ',q1,q2,.inr ⟨rfl,.inr ⟨u,rfl,x,?_,q4,.inl ⟨?_,?_⟩⟩⟩⟩
         ·rw[aT,if_pos rfl,aT,if_neg om,aT,if_neg om]; exact q3
         ·rw[q5]
          have:=hP.1.d
          rw[<- q6,hund]at this
          rcases this with⟨_,h9⟩ | ⟨f,fa,fb,d9,cap,h9,_⟩
          ·exact h9
          ·simp[aR]at h9
         ·rw[aT,if_neg om,aT,if_neg om,aT,if_neg om]; exact hund
   ·simp at hc
 | seq x y ihx ihy=>
  intro ac hc ρ T T' H H' e a w R hP h
  simp only[d7]at hc
  split at hc
  ·rename_i ax ay hx hy
   simp only[sJ]at hc; subst hc
   simp only[aM]at h
   split at h
   ·rename_i T1 H1 h1
    refine wp_seq (wp_mono (ihx _ hx ρ T T1 H H1 .normal a w R hP h1) ?_)
    rintro e1 a1 w1 ⟨ρ1,hl,R1,rfl,hP1⟩
    exact wp_mono (ihy _ hy ρ1 T1 T' H1 H' e a1 w1 R1 hP1 h) fun _ _ _ q=>q.weaken hl
   ·rename_i e1 T1 H1 hne h1
    simp only[sJ,pJ]at h
    obtain⟨rfl,rfl,rfl⟩:=h
    refine wp_seq (wp_mono (ihx _ hx ρ T T1 H H1 e1 a w R hP h1) ?_)
    rintro e2 a1 w1 q
    obtain⟨ρ1,q1,q2,q3⟩:=q
    cases e1 with
    | normal=>exact (hne rfl).elim
    | ret=>exact q3.elim
    | exit id=>
     rcases q3 with⟨z1,rfl,z2⟩ | ⟨z1,⟨rfl,z2⟩ | ⟨u,rfl,z2⟩⟩
     ·exact⟨ρ1,q1,q2,.inl ⟨z1,rfl,z2⟩⟩
     ·exact⟨ρ1,q1,q2,.inr ⟨z1,.inl ⟨rfl,z2⟩⟩⟩
     ·exact⟨ρ1,q1,q2,.inr ⟨z1,.inr ⟨u,rfl,z2⟩⟩⟩
   ·simp at h
  ·simp at hc
 | cond c x y ihx ihy=>
  intro ac hc ρ T T' H H' e a w R hP h
  simp only[d7]at hc
  split at hc
  ·rename_i c' ax ay hcc hx hy
   cases hT:dt n c' with
   | false=>rw[hT]at hc; simp at hc
   | true=>
    rw[hT]at hc
    simp only[cond_true,sJ]at hc; subst hc
    simp only[aM]at h
    obtain⟨U,hG,ht⟩:=hP.1.t
    have hv:=aG ht hcc
    rw[<- hG.x hT]at hv
    split at h
    ·rename_i hb
     rw[hb]at hv
     simp only[ah]at hv
     exact wp_cond_true hv (ihx _ hx ρ T T' H H' e a w R hP h)
    ·rename_i hb
     rw[hb]at hv
     simp only[ah]at hv
     exact wp_cond_false hv (ihy _ hy ρ T T' H H' e a w R hP h)
    ·simp at h
  ·simp at hc
 | block id c ih=>
  intro ac hc ρ T T' H H' e a w R hP h
  simp only[d7]at hc
  split at hc
  ·rename_i ax hx
   cases hid:Nat.beq id PB with
   | true=>rw[hid]at hc; simp at hc
   | false=>
    rw[hid]at hc
    simp only[cond_false,sJ]at hc; subst hc
    have hidn:¬id=PB:=fun e=>by rw[e,Nat.beq_refl]at hid; simp at hid
    simp only[aM]at h
    split at h
    ·rename_i j T1 H1 h1
     refine wp_block (wp_mono (ih _ hx ρ T T1 H H1 (.exit j) a w R hP h1) ?_)
     rintro e1 a1 w1 ⟨ρ1,q1,q2,q3⟩
     cases hb:Nat.beq j id with
     | true=>
      rw[hb]at h
      simp only[cond_true,sJ,pJ]at h
      obtain⟨rfl,rfl,rfl⟩:=h
      have:=SI hb
      subst this
      rcases q3 with⟨_,rfl,z2⟩ | ⟨z1,_⟩
      ·simp only[Exit.inBlock,if_true]
       exact⟨ρ1,q1,q2,rfl,z2⟩
      ·exact (hidn z1).elim
     | false=>
      rw[hb]at h
      simp only[cond_false,sJ,pJ]at h
      obtain⟨rfl,rfl,rfl⟩:=h
      have:¬j=id:=fun e=>by rw[e,Nat.beq_refl]at hb; simp at hb
      rcases q3 with⟨z1,rfl,z2⟩ | ⟨z1,⟨rfl,z2⟩ | ⟨u,rfl,z2⟩⟩
      ·simp only[Exit.inBlock,this,if_false]
       exact⟨ρ1,q1,q2,.inl ⟨z1,rfl,z2⟩⟩
      ·exact⟨ρ1,q1,q2,.inr ⟨z1,.inl ⟨rfl,z2⟩⟩⟩
      ·exact⟨ρ1,q1,q2,.inr ⟨z1,.inr ⟨u,rfl,z2⟩⟩⟩
    ·rename_i e1 T1 H1 hne h1
     simp only[sJ,pJ]at h
     obtain⟨rfl,rfl,rfl⟩:=h
     refine wp_block (wp_mono (ih _ hx ρ T T1 H H1 e1 a w R hP h1) ?_)
     rintro e2 a1 w1 ⟨ρ1,q1,q2,q3⟩
     cases e1 with
     | normal=>obtain⟨rfl,z⟩:=q3; exact⟨ρ1,q1,q2,rfl,z⟩
     | exit j=>exact (hne _ rfl).elim
     | ret=>exact q3.elim
    ·simp at h
  ·simp at hc
 | loop c ih=>
  intro ac hc ρ T T' H H' e a w R hP h
  simp only[d7]at hc
  split at hc
  ·rename_i ax hx
   simp only[sJ]at hc; subst hc
   simp only[aM]at h
   refine wp_loop_rounds k ?_
   have key:∀(m:Nat) (T:Tr aa) (H:ae) (ρ1:Pl) (a:Act) (w:World),ρ.le ρ1->bF Prot w0 ρ1 H w->rT ρ1 n T a ->
     jr (aM tb call k ax) m T H=some (e,T',H')->Code.rounds P c (Gm Prot w0 ρ n e T' H') m a w:=by
    intro m
    induction m with
    | zero=>intro T H ρ1 a w _ _ _ h; simp[jr]at h
    | succ m ihm=>
     intro T H ρ1 a w hl R hP h
     rw[rounds_succ]
     simp only[jr]at h
     split at h
     ·rename_i T1 H1 h1
      refine wp_mono (ih _ hx ρ1 T T1 H H1 .normal a w R hP h1) ?_
      rintro e1 a1 w1 ⟨ρ2,hl2,R1,rfl,hP1⟩
      exact ihm T1 H1 ρ2 a1 w1 (Pl.le_trans hl hl2) R1 hP1 h
     ·rename_i e1 T1 H1 hne h1
      simp only[sJ,pJ]at h
      obtain⟨rfl,rfl,rfl⟩:=h
      refine wp_mono (ih _ hx ρ1 T T1 H H1 e1 a w R hP h1) ?_
      rintro e2 a1 w1 q
      obtain⟨ρ2,q1,q2,q3⟩:=q.weaken hl
      cases e1 with
      | normal=>exact (hne rfl).elim
      | ret=>exact q3.elim
      | exit id=>
       rcases q3 with⟨z1,rfl,z2⟩ | ⟨z1,⟨rfl,z2⟩ | ⟨u,rfl,z2⟩⟩
       ·exact⟨ρ2,q1,q2,.inl ⟨z1,rfl,z2⟩⟩
       ·exact⟨ρ2,q1,q2,.inr ⟨z1,.inl ⟨rfl,z2⟩⟩⟩
       ·exact⟨ρ2,q1,q2,.inr ⟨z1,.inr ⟨u,rfl,z2⟩⟩⟩
     ·simp at h
   exact key k T H ρ a w (Pl.le_refl _) R hP h
  ·simp at hc
 | exit id=>
  intro ac hc ρ T T' H H' e a w R hP h
  simp only[d7]at hc
  cases hid:Nat.beq id PB with
  | true=>rw[hid]at hc; simp at hc
  | false=>
   rw[hid]at hc
   simp only[cond_false,sJ]at hc; subst hc
   have hidn:¬id=PB:=fun e=>by rw[e,Nat.beq_refl]at hid; simp at hid
   simp only[aM,sJ,pJ]at h
   obtain⟨rfl,rfl,rfl⟩:=h
   exact wp_exit ⟨ρ,Pl.le_refl _,R,.inl ⟨hidn,rfl,hP⟩⟩
 | ret=>
  intro ac hc ρ T T' H H' e a w R hP h
  simp only[d7,sJ]at hc; subst hc
  simp only[aM,sJ,pJ]at h
  obtain⟨rfl,rfl,rfl⟩:=h
  exact wp_ret ⟨ρ,Pl.le_refl _,R,.inr ⟨rfl,.inl ⟨rfl,hP⟩⟩⟩
 | _=>
  intro ac hc ρ T T' H H' e a w R hP h
  simp only[d7,sJ]at hc; subst hc
  simp[jW]at h
end
end Go.Abs
namespace Go.Abs
def uM(n:Nat):List mN->Bool
 | []=>true
 | .t i::r=>Nat.blt i n&&uM n r
 | .cell _ _ i::r=>Nat.blt i n&&uM n r
def kW(b:Nat):List mN->List al
 | []=>[]
 | .t i::r=>⟨some b,.mv (.t i),none⟩::kW (b+1) r
 | .cell g m i::r=>⟨some b,.load g m (.t i),none⟩::kW (b+1) r
def kV(b:Nat):Nat->List a8
 | 0=>[]
 | k+1=>.t b::kV (b+1) k
def FH(n:Nat)(res:List mN):cS:=.seq (.reg (kW (n+4) res++[⟨some (n+3),.pf .tup (kV (n+4) res.length),none⟩])) .ret
def tT(n b i:Nat):Nat->List al
 | 0=>[]
 | k+1=>⟨some b,.pf (.capt i) [.t (n+1)],none⟩::tT n (b+1) (i+1) k
def wx(n G k:Nat):List al:=⟨some (n+2),.pf (.isF G k) [.t (n+1)],none⟩::tT n (n+4) 0 k
def yE(n:Nat)(res:List mN)(raw:Bool)(df:Option (Nat×Nat×Bool)):cS:=
 .seq (.reg [⟨some (n+2),.pf .isU [.t (n+1)],none⟩]) (.cond (.t (n+2))
  (.seq (.reg [⟨some (n+2),.pf .isU [.t n],none⟩]) (.cond (.t (n+2)) (FH n res) (bif raw then .seq (.reg [⟨some (n+3),.mv (.t n),none⟩]) .ret else gu)))
  (match df with
   | none=>gu
   | some (G,k,false)=>.seq (.reg [⟨some (n+2),.pf .isU [.t n],none⟩]) (.cond (.t (n+2)) (.seq (.reg (wx n G k++[⟨none,.call (3*cj+G) (kV (n+4) k),none⟩])) (FH n res)) gu)
   | some (G,k,true)=>.seq (.reg (⟨some (n+3),.pf .unP [.t n],none⟩::(wx n G k++[⟨none,.call (2*cj+G) (kV (n+4) k++[.t (n+3)]),none⟩]))) (FH n res)))
section
variable {tb:FuncId->Bool} {call:FuncId->List aa->ae->Option (aa×ae)} {n:Nat}
theorem Kc(l:List aa):Pw l=iS l:=by
 match l with
 | []=>rfl
 | [x]=>rfl
 | x::y::r=>rfl
theorem nl{U:Tr aa}{H H1:ae}:∀(res:List mN) (b:Nat) {T T1:Tr aa},GE n T U->n<=b->uM n res=true->bh tb call (kW b res) T H=some (T1,H1) ->
  H1=H/\∃xs,jN U H res=some xs/\fT T1 (kV b res.length)=xs/\∀t,t<b->ev T1 (.t t)=ev T (.t t)
 | [],b,T,T1,_,_,_,h=>by
  simp only[kW,bh,sJ,pJ]at h
  obtain⟨rfl,rfl⟩:=h
  exact⟨rfl,[],rfl,rfl,fun _ _=>rfl⟩
 | .t i::r,b,T,T1,hG,hb,hr,h=>by
  simp only[uM,SE]at hr
  simp only[kW]at h
  rw[bB,ci]at h
  simp only[bW]at h
  obtain⟨q1,xs,q2,q3,q4⟩:=nl r (b+1) (hG.ghost hb _) om hr.2 h
  refine⟨q1,ev U (.t i)::xs,by simp only[jN,q2],?_,fun t ht=>?_⟩
  ·simp only[SF,kV,fT,q3]
   rw[q4 b om,aT,if_pos rfl,hG.1 i (eQ hr.1)]
  ·rw[q4 t om,aT,if_neg om]
 | .cell g m i::r,b,T,T1,hG,hb,hr,h=>by
  simp only[uM,SE]at hr
  simp only[kW]at h
  rw[bB,ci]at h
  simp only[bW,vv]at h
  cases hl:au g m H (ev T (.t i)) with
  | none=>rw[hl]at h; simp at h
  | some v=>
   rw[hl]at h
   simp only at h
   obtain⟨q1,xs,q2,q3,q4⟩:=nl r (b+1) (hG.ghost hb _) om hr.2 h
   rw[hG.1 i (eQ hr.1)]at hl
   refine⟨q1,v::xs,by simp only[jN,hl,q2],?_,fun t ht=>?_⟩
   ·simp only[SF,kV,fT,q3]
    rw[q4 b om,aT,if_pos rfl]
   ·rw[q4 t om,aT,if_neg om]
theorem Db{U T T':Tr aa}{H H':ae}{e:uD}{k:Nat}{res:List mN}(hG:GE n T U)(hr:uM n res=true)(h:aM tb call k (FH n res) T H=some (e,T',H')) :
  e=.ret/\H'=H/\∃xs,jN U H res=some xs/\ev T' (.t (n+3))=iS xs:=by
 simp only[FH,aM]at h
 rw[fP]at h
 cases hs:bh tb call (kW (n+4) res) T H with
 | none=>rw[hs]at h; simp at h
 | some p=>
  obtain⟨T1,H1⟩:=p
  rw[hs]at h
  obtain⟨rfl,xs,q2,q3,q4⟩:=nl res (n+4) hG om hr hs
  simp only at h
  rw[bB,ci]at h
  simp only[bW,gJ,vv,q3,bh,cR,sJ,pJ]at h
  obtain⟨rfl,rfl,rfl⟩:=h
  exact⟨rfl,rfl,xs,q2,by rw[aT,if_pos rfl,Kc]⟩
theorem tS{f:Fn}{l:List aa}{H H1:ae}:∀(k b i:Nat) {T T1:Tr aa},ev T (.t (n+1))=.func f [] l->n+1<b->bh tb call (tT n b i k) T H=some (T1,H1) ->
  H1=H/\fT T1 (kV b k)=(l.drop i).take k/\∀t,t<b->ev T1 (.t t)=ev T (.t t)
 | 0,b,i,T,T1,_,_,h=>by
  simp only[tT,bh,sJ,pJ]at h
  obtain⟨rfl,rfl⟩:=h
  exact⟨rfl,by simp[kV,fT],fun _ _=>rfl⟩
 | k+1,b,i,T,T1,hd,hb,h=>by
  simp only[tT]at h
  rw[bB,ci]at h
  simp only[bW,fT,gJ,vv,hd,Nb]at h
  cases hx:l[i]? with
  | none=>rw[hx]at h; simp at h
  | some x=>
   rw[hx]at h
   simp only[cR]at h
   obtain⟨q1,q2,q3⟩:=tS k (b+1) (i+1) (T:=T.set b x) (by rw[aT,if_neg om]; exact hd) om h
   refine⟨q1,?_,fun t ht=>by rw[q3 t om,aT,if_neg om]⟩
   simp only[kV,fT,q2]
   rw[q3 b om,aT,if_pos rfl]
   obtain⟨hi,hxi⟩:=SC.1 hx
   rw[List.drop_eq_getElem_cons hi,List.take_succ_cons,hxi]
theorem zZ{G k:Nat}{H H1:ae}{T T1:Tr aa}(h:bh tb call (wx n G k) T H=some (T1,H1)) :
  ∃l,ev T (.t (n+1))=.func (.func G) [] l/\l.length=k/\H1=H/\fT T1 (kV (n+4) k)=l/\∀t,t<n+4->t≠n+2->ev T1 (.t t)=ev T (.t t):=by
 unfold wx at h
 rw[bB,ci]at h
 simp only[bW,fT,gJ,vv]at h
 cases hd:JD G k [ev T (.t (n+1))] with
 | none=>rw[hd]at h; simp at h
 | some v=>
  rw[hd]at h
  simp only[cR]at h
  unfold JD at hd
  split at hd
  ·rename_i f l heq
   simp only[List.cons.injEq,and_true]at heq
   cases hb:Nat.beq f G&&Nat.beq l.length k with
   | false=>rw[hb]at hd; simp at hd
   | true=>
    simp only[SE]at hb
    have e1:=SI hb.1
    have e2:=SI hb.2
    subst e1
    obtain⟨q1,q2,q3⟩:=tS k (n+4) 0 (f:=.func f) (l:=l) (by rw[aT,if_neg om]; exact heq) om h
    refine⟨l,heq,e2,q1,?_,fun t ht hne=>by rw[q3 t ht,aT,if_neg hne]⟩
    rw[q2,List.drop_zero,List.take_of_length_le om]
  ·simp at hd
end
section
def mU(P:Program)(G:Nat):Nat:=match P.funcs[G]? with
 | some f=>f.params.size+f.nfree
 | none=>0
def Ni(P:Program)(call:FuncId->List aa->ae->Option (aa×ae)):Prop:=
 ∀G args H v H',Nat.blt G cj=true->call (3*cj+G) args H=some (v,H')->∀Prot w0 ρ w (vs:Array Value),bF Prot w0 ρ H w->aq ρ args vs.toList ->
  CallsD P G vs .returning w fun e u' w'=>u'=.returning/\∃ρ' y,ρ.le ρ'/\e=.returned y/\bF Prot w0 ρ' H' w'
def OB(u:FrameMode)(xv:Value):Prop:=(u=.returning/\xv=.nilIface)∨u=.panicking [{ v:=xv,recovered:=false }]
def Nh(P:Program)(call:FuncId->List aa->ae->Option (aa×ae)):Prop:=
 ∀G args x H v H',Nat.blt G cj=true->args.length=mU P G->call (2*cj+G) (args++[x]) H=some (v,H')->∀Prot w0 ρ w (vs:Array Value) xv u,bF Prot w0 ρ H w->aq ρ args vs.toList->ah ρ x xv->OB u xv ->
  CallsD P G vs u w fun e u' w'=>settle u'=.returning/\∃ρ' y,ρ.le ρ'/\e=.returned y/\bF Prot w0 ρ' H' w'
variable {P:Program} {Prot:Gh} {w0:World} {ρ:Pl} {H H':ae} {w:World} {n:Nat}
def Nc(Prot:Gh)(w0:World)(raw:Bool)(ρ:Pl)(H:ae)(v:aa):Ending->World->Prop:=fun e w'=>
 ∃ρ',ρ.le ρ'/\bF Prot w0 ρ' H w'/\((∃y,e=.returned y/\ah ρ' v y)∨(raw=true/\∃x y,v=kX x/\e=.panicked [{ v:=y,recovered:=false }]/\ah ρ' x y))
def FN(P:Program):Option (Nat×Nat×Bool)->Bool
 | none=>true
 | some (G,k,true)=>Nat.blt G cj&&Nat.beq k (mU P G)
 | some (G,_,false)=>Nat.blt G cj
theorem Ip{x:aa}(h:isU x=true):x=aR:=by
 unfold isU at h
 split at h
 ·rfl
 ·simp at h
theorem G1{tb:FuncId->Bool}{call:FuncId->List aa->ae->Option (aa×ae)}{k:Nat}(hcD:Ni P call)(hcR:Nh P call)(hbD:∀f,Nat.blt f cj=true->tb (3*cj+f)=true->bO P f=true)(hbR:∀f,Nat.blt f cj=true->tb (2*cj+f)=true->bO P f=true)
  {fc:Func} {res:List mN} (hres:rn P fc.results.toList=some res) (hrT:uM n res=true) {raw:Bool} {df:Option (Nat×Nat×Bool)} (hdf:FN P df=true) {T T':Tr aa} {e:uD}
  (h:aM tb call k (yE n res raw df) T H=some (e,T',H')) (R:bF Prot w0 ρ H w) {a:Act} {u:FrameMode} (hst:(rT ρ n T a/\u=.returning)∨∃uv,OC ρ n T a uv/\u=.panicking [{ v:=uv,recovered:=false }]) :
  e=.ret/\Leaves P fc a.tmps (Nc Prot w0 raw ρ H' (ev T' (.t (n+3)))) a.defers u w:=by
 simp only[yE,aM]at h
 rw[bB,ci]at h
 simp only[bW,fT,gJ,vv,LQ,bh,cR]at h
 rw[aT,if_pos rfl]at h
 have e1:∀b,ev (T.set (n+2) b) (.t n)=ev T (.t n):=fun b=>by rw[aT,if_neg om]
 have e11:∀b c,ev ((T.set (n+2) b).set (n+2) c) (.t (n+2))=c:=fun b c=>by rw[aT,if_pos rfl]
 have e12:∀b c,ev ((T.set (n+2) b).set (n+2) c) (.t n)=ev T (.t n):=fun b c=>by rw[aT,if_neg om,e1]
 have isP:∀x,isU (kX x)=false:=fun x=>rfl
 cases hu:isU (ev T (.t (n+1))) with
 | true=>
  rw[hu]at h
  have hund:=Ip hu
  simp only[gY,cond_true,e1,e11]at h
  cases hu2:isU (ev T (.t n)) with
  | true=>
   rw[hu2]at h
   rcases hst with⟨hP,rfl⟩ | ⟨uv,⟨x,q1,_⟩,_⟩
   ·obtain⟨U,hG,ht⟩:=hP.1.t
    obtain⟨rfl,rfl,xs,z1,z2⟩:=Db ((hG.ghost (d:=n+2) om _).ghost (d:=n+2) om _) hrT h
    have hds:a.defers=[]:=by
     have:=hP.1.d
     rw[hund]at this
     rcases this with⟨_,h9⟩ | ⟨f,fa,fb,d,cap,h9,_⟩
     ·exact h9
     ·simp[aR]at h9
    obtain⟨v,r1,r2⟩:=kU (P:=P) R ht hres z1
    refine⟨rfl,?_⟩
    rw[hds]
    exact⟨v,r1,ρ,Pl.le_refl _,R,.inl ⟨v,rfl,by rw[z2]; exact r2⟩⟩
   ·rw[q1,isP]at hu2; simp at hu2
  | false=>
   rw[hu2]at h
   rcases hst with⟨hP,rfl⟩ | ⟨uv,⟨x,q1,q2,q3⟩,rfl⟩
   ·rw[hP.2]at hu2; simp[isU,aR]at hu2
   ·cases raw with
    | false=>simp[gu,aM,bh,gY,bW]at h
    | true=>
     simp only[cond_true,aM,bh,gY,bW,cR,e12,sJ,pJ]at h
     obtain⟨rfl,rfl,rfl⟩:=h
     have hds:a.defers=[]:=by
      rcases q3 with⟨h9,_⟩ | hg
      ·exact h9
      ·have:=hg.d
       rw[hund]at this
       rcases this with⟨_,h9⟩ | ⟨f,fa,fb,d,cap,h9,_⟩
       ·exact h9
       ·simp[aR]at h9
     refine⟨rfl,?_⟩
     rw[hds]
     exact⟨ρ,Pl.le_refl _,R,.inr ⟨rfl,x,uv,by rw[aT,if_pos rfl]; exact q1,rfl,q2⟩⟩
 | false=>
  rw[hu]at h
  have hnu:ev T (.t (n+1))≠aR:=fun e=>by rw[e]at hu; simp[isU,aR]at hu
  have hGT:GT ρ n T a:=by
   rcases hst with⟨hP,_⟩ | ⟨uv,⟨x,q1,q2,⟨_,q3⟩ | q3⟩,_⟩
   ·exact hP.1
   ·exact (hnu q3).elim
   ·exact q3
  obtain⟨U,hG,ht⟩:=hGT.t
  obtain⟨f,fa,fb,d,cap,d1,d2,d3,d4,d5⟩:∃f a' b d cap,ev T (.t (n+1))=.func (.func f) a' b/\a.defers=[d]/\d.target=.fn (.func f) cap/\aq ρ b cap.toList/\aq ρ a' d.args.toList:=by
   rcases hGT.d with⟨h9,_⟩ | h9
   ·exact (hnu h9).elim
   ·exact h9
  have rest:∀{T5:Tr aa} {H5:ae} {e5:uD},GE n T5 U->aM tb call k (FH n res) T5 H5=some (e5,T',H')->e5=.ret/\∀(ρ':Pl) (w':World),ρ.le ρ'->bF Prot w0 ρ' H5 w'->Leaves P fc a.tmps (Nc Prot w0 raw ρ H' (ev T' (.t (n+3)))) [] .returning w':=by
   intro T5 H5 e5 hG5 h5
   obtain⟨rfl,rfl,xs,z1,z2⟩:=Db hG5 hrT h5
   refine⟨rfl,fun ρ' w' hle R'=>?_⟩
   obtain⟨v,r1,r2⟩:=kU (P:=P) R' (ht.mono hle) hres z1
   exact⟨v,r1,ρ',hle,R',.inl ⟨v,rfl,by rw[z2]; exact r2⟩⟩
  rcases df with _ | ⟨G,kk,_ | _⟩
  ·simp[gu,aM,bh,gY,bW]at h
  ·skip
   simp only[FN]at hdf
   simp only[aM]at h
   rw[bB,ci]at h
   simp only[bW,fT,gJ,vv,LQ,bh,cR,e1,e11]at h
   cases hu2:isU (ev T (.t n)) with
   | false=>rw[hu2]at h; simp[gu,aM,bh,gY,bW]at h
   | true=>
    rw[hu2]at h
    simp only at h
    rw[fP]at h
    cases hs:bh tb call (wx n G kk) ((T.set (n+2) (.bool false)).set (n+2) (.bool true)) H with
    | none=>rw[hs]at h; simp at h
    | some p=>
     obtain⟨T4,H4⟩:=p
     rw[hs]at h
     obtain⟨l,c1,c2,rfl,c4,c5⟩:=zZ hs
     have c1':ev T (.t (n+1))=.func (.func G) [] l:=by rw[<- c1,aT,if_neg om,aT,if_neg om]
     rw[c1']at d1
     simp only[aa.func.injEq,Fn.func.injEq]at d1
     obtain⟨rfl,rfl,rfl⟩:=d1
     simp only at h
     rw[bB,ci]at h
     simp only[bW,c4]at h
     cases hb:tb (3*cj+G) with
     | false=>rw[hb]at h; simp at h
     | true=>
      rw[hb]at h
      simp only[cond_true]at h
      cases hcl:call (3*cj+G) l H4 with
      | none=>rw[hcl]at h; simp at h
      | some q=>
       obtain⟨v,H5⟩:=q
       rw[hcl]at h
       simp only[cR,bh]at h
       have hG4:GE n T4 U:=⟨fun t ht'=>by rw[c5 t om om,aT,if_neg om,aT,if_neg om]; exact hG.1 t ht',hG.2⟩
       obtain⟨rfl,hrest⟩:=rest hG4 h
       refine⟨rfl,?_⟩
       have hur:u=.returning:=by
        rcases hst with⟨_,h9⟩ | ⟨uv,⟨x,q1,_⟩,_⟩
        ·exact h9
        ·rw[q1,isP]at hu2; simp at hu2
       subst hur
       simp only[aq]at d5
       rw[d2]
       refine⟨by simp,.func G,cap,G,d.args++cap,d3,?_,?_⟩
       ·rw[d3]; exact fO (hbD G hdf hb) _
       ·refine (hcD G l H4 v H5 hdf hcl Prot w0 ρ w (d.args++cap) R (by simpa[d5] using d4)).mono ?_
        rintro e' u' w' ⟨rfl,ρ',y,q1,rfl,q2⟩
        exact hrest ρ' w' q1 q2
  ·skip
   simp only[FN,SE]at hdf
   obtain⟨hG1,hk1⟩:=hdf
   have hk:=SI hk1
   simp only[aM]at h
   rw[bB,ci]at h
   simp only[bW,fT,gJ,vv,e1]at h
   cases hun:LM [ev T (.t n)] with
   | none=>rw[hun]at h; simp at h
   | some x=>
    rw[hun]at h
    simp only[cR]at h
    rw[fP]at h
    cases hs:bh tb call (wx n G kk) ((T.set (n+2) (.bool false)).set (n+3) x) H with
    | none=>rw[hs]at h; simp at h
    | some p=>
     obtain⟨T4,H4⟩:=p
     rw[hs]at h
     obtain⟨l,c1,c2,rfl,c4,c5⟩:=zZ hs
     have c1':ev T (.t (n+1))=.func (.func G) [] l:=by rw[<- c1,aT,if_neg om,aT,if_neg om]
     have c3:ev T4 (.t (n+3))=x:=by rw[c5 (n+3) om om,aT,if_pos rfl]
     rw[c1']at d1
     simp only[aa.func.injEq,Fn.func.injEq]at d1
     obtain⟨rfl,rfl,rfl⟩:=d1
     have evapp:∀(m:List a8),fT T4 (m++[.t (n+3)])=fT T4 m++[x]:=by
      intro m
      induction m with
      | nil=>simp only[List.nil_append,fT,c3]
      | cons y m ih=>simp only[SX,fT,ih]
     simp only at h
     rw[bB,ci]at h
     simp only[bW,evapp,c4]at h
     cases hb:tb (2*cj+G) with
     | false=>rw[hb]at h; simp at h
     | true=>
      rw[hb]at h
      simp only[cond_true]at h
      cases hcl:call (2*cj+G) (l++[x]) H4 with
      | none=>rw[hcl]at h; simp at h
      | some q=>
       obtain⟨v,H5⟩:=q
       rw[hcl]at h
       simp only[cR,bh]at h
       have hG4:GE n T4 U:=⟨fun t ht'=>by rw[c5 t om om,aT,if_neg om,aT,if_neg om]; exact hG.1 t ht',hG.2⟩
       obtain⟨rfl,hrest⟩:=rest hG4 h
       refine⟨rfl,?_⟩
       have hx:∃xv,ah ρ x xv/\OB u xv/\u≠.run:=by
        rcases hst with⟨hP,rfl⟩ | ⟨uv,⟨x',q1,q2,_⟩,rfl⟩
        ·rw[hP.2]at hun
         simp only[aR,LM,sJ]at hun
         subst hun
         exact⟨.nilIface,rfl,.inl ⟨rfl,rfl⟩,by simp⟩
        ·rw[q1]at hun
         simp only[kX,LM,sJ]at hun
         subst hun
         exact⟨uv,q2,.inr rfl,by simp⟩
       obtain⟨xv,x1,x2,x3⟩:=hx
       simp only[aq]at d5
       rw[d2]
       refine⟨x3,.func G,cap,G,d.args++cap,d3,?_,?_⟩
       ·rw[d3]; exact fO (hbR G hG1 hb) _
       ·refine (hcR G l x H4 v H5 hG1 om hcl Prot w0 ρ w (d.args++cap) xv u R (by simpa[d5] using d4) x1 x2).mono ?_
        rintro e' u' w' ⟨hu',ρ',y,q1,rfl,q2⟩
        show Leaves P fc a.tmps _ [] (settle u') w'
        rw[hu']
        exact hrest ρ' w' q1 q2
end
end Go.Abs
namespace Go.Abs
section
variable (P:Program)
def BR(md:Eg)(raw:Bool)(f:FuncId):Option bY:=match P.funcs[f]? with
 | some fn=>match fn.body with
  | some c => bif fn.name == "runtime.NumGoroutine" then none else
   match d7 P fn.ntmps md.ps c,rn P fn.results.toList with
   | some b,some r=>bif uM fn.ntmps r&&FN P md.df then some ⟨fn.ntmps,.seq (.block PB b) (yE fn.ntmps r raw md.df),[.t (fn.ntmps+3)]⟩ else none
   | _,_=>none
  | none=>none
 | none=>none
def ow:Code->Option (Array Oper×Nat×List Oper×Code)
 | .seq (.region _ ops false) rest=>match ops.toList with
  | o::os=>match o.op,o.dst,o.guard with
   | .call c,some d,none=>match c.callee with
    | .builtin .recover=>some (ops,d,os,rest)
    | _=>none
   | _,_,_=>none
  | []=>none
 | _=>none
def xn(n k d:Nat):List al:=[⟨some n,.mv (.t k),none⟩,⟨some k,.mv (.c aR),none⟩,⟨some d,.mv (.t n),none⟩,⟨some n,.mv (.c aR),none⟩]
def I6(g:FuncId):Option bY:=match P.funcs[g]? with
 | some fn=>match fn.body with
  | some c => bif fn.name == "runtime.NumGoroutine" || !(Nat.beq fn.results.size 0) then none else
   match ow c with
   | some (ops,d,os,rest)=>match cz P fn.ntmps ops os,fo P fn.ntmps rest with
    | some l,some r=>bif Nat.blt d fn.ntmps&&Nat.ble (mU P g) d then some ⟨fn.ntmps,.seq (.reg (xn fn.ntmps (mU P g) d)) (.seq (.reg l) r),[]⟩ else none
    | _,_=>none
   | none=>none
  | none=>none
 | none=>none
def xU(md:Option Eg)(i:Nat):Option bY:=
 bif Nat.blt i cj then (match md with | none=>J1 P i | some md=>BR P md false i)
 else bif Nat.blt i (2*cj) then (match md with | some md=>BR P md true (i-cj) | none=>none)
 else bif Nat.blt i (3*cj) then I6 P (i-2*cj)
 else bif Nat.blt i (4*cj) then J1 P (i-3*cj) else none
def JI(tab:Tr bY):Prop:=∀f fn,tab.get f=some fn->∃md,xU P md f=some fn
end
section
variable {P:Program} {Prot:Gh} {w0:World} {ρ:Pl} {H H':ae} {w:World}
theorem fu(a b:Nat):Nat.blt a b=decide (a<b):=by
 cases h:Nat.blt a b with
 | true=>exact (decide_eq_true (eQ h)).symm
 | false=>exact (decide_eq_false fun q=>by rw[show Nat.blt a b=true from SD q]at h; simp at h).symm
theorem MO{md:Option Eg}{f:Nat}(hf:Nat.blt f cj=true){fn:bY}(h:xU P md f=some fn):J1 P f=some fn∨∃m,BR P m false f=some fn:=by
 unfold xU at h
 rw[hf]at h
 simp only[cond_true]at h
 cases md with
 | none=>exact .inl h
 | some m=>exact .inr ⟨m,h⟩
theorem MN{md:Option Eg}{f:Nat}(hf:Nat.blt f cj=true){fn:bY}(h:xU P md (cj+f)=some fn):∃m,BR P m true f=some fn:=by
 have hlt:=eQ hf
 unfold xU at h
 have h1:Nat.blt (cj+f) cj=false:=by rw[fu]; exact decide_eq_false om
 have h2:Nat.blt (cj+f) (2*cj)=true:=by rw[fu]; exact decide_eq_true om
 rw[h1,h2]at h
 simp only[cond_true,cond_false,Nat.add_sub_cancel_left]at h
 cases md with
 | none=>simp at h
 | some m=>exact⟨m,h⟩
theorem MM{md:Option Eg}{f:Nat}(hf:Nat.blt f cj=true){fn:bY}(h:xU P md (2*cj+f)=some fn):I6 P f=some fn:=by
 have hlt:=eQ hf
 unfold xU at h
 have h1:Nat.blt (2*cj+f) cj=false:=by rw[fu]; exact decide_eq_false om
 have h2:Nat.blt (2*cj+f) (2*cj)=false:=by rw[fu]; exact decide_eq_false om
 have h3:Nat.blt (2*cj+f) (3*cj)=true:=by rw[fu]; exact decide_eq_true om
 rw[h1,h2,h3]at h
 simpa only [cond_true,cond_false,Nat.add_sub_cancel_left] using h
theorem ML{md:Option Eg}{f:Nat}(hf:Nat.blt f cj=true){fn:bY}(h:xU P md (3*cj+f)=some fn):J1 P f=some fn:=by
 have hlt:=eQ hf
 unfold xU at h
 have h1:Nat.blt (3*cj+f) cj=false:=by rw[fu]; exact decide_eq_false om
 have h2:Nat.blt (3*cj+f) (2*cj)=false:=by rw[fu]; exact decide_eq_false om
 have h3:Nat.blt (3*cj+f) (3*cj)=false:=by rw[fu]; exact decide_eq_false om
 have h4:Nat.blt (3*cj+f) (4*cj)=true:=by rw[fu]; exact decide_eq_true om
 rw[h1,h2,h3,h4]at h
 simpa only [cond_true,cond_false,Nat.add_sub_cancel_left] using h
theorem pZ {md : Eg} {raw : Bool} {f : FuncId} {fn : bY} (h : BR P md raw f = some fn) : ∃ fc c b r, P.funcs[f]? = some fc ∧ fc.body = some c ∧ (fc.name == "runtime.NumGoroutine") = false ∧ d7 P fc.ntmps md.ps c = some b ∧ rn P fc.results.toList = some r ∧
  uM fc.ntmps r=true/\FN P md.df=true/\fn=⟨fc.ntmps,.seq (.block PB b) (yE fc.ntmps r raw md.df),[.t (fc.ntmps+3)]⟩:=by
 unfold BR at h
 split at h
 ·rename_i fc hf
  split at h
  ·rename_i c hb
   cases hn : (fc.name == "runtime.NumGoroutine") with
   | true=>rw[hn]at h; simp at h
   | false=>
    rw[hn]at h
    simp only[cond_false]at h
    split at h
    ·rename_i b r h1 h2
     cases h3:uM fc.ntmps r&&FN P md.df with
     | false=>rw[h3]at h; simp at h
     | true=>
      rw[h3]at h
      simp only[cond_true,sJ]at h
      simp only[SE]at h3
      exact⟨fc,c,b,r,hf,hb,hn,h1,h2,h3.1,h3.2,h.symm⟩
    ·simp at h
  ·simp at h
 ·simp at h
theorem uN{c:Code}{ops:Array Oper}{d:Nat}{os:List Oper}{rest:Code}(h:ow c=some (ops,d,os,rest)):∃i o args ats,c=.seq (.region i ops false) rest/\ops.toList=o::os/\o.op=.call ⟨.builtin .recover,args,ats⟩/\o.dst=some d/\o.guard=none:=by
 unfold ow at h
 split at h
 ·rename_i i ops' rest'
  split at h
  ·rename_i o os' ho
   split at h
   ·rename_i c' d' h1 h2 h3
    split at h
    ·rename_i hcal
     simp only[sJ,pJ]at h
     obtain⟨rfl,rfl,rfl,rfl⟩:=h
     obtain⟨cal,args,ats⟩:=c'
     simp only at hcal
     subst hcal
     exact⟨i,o,args,ats,rfl,ho,h1,h2,h3⟩
    ·simp at h
   ·simp at h
  ·simp at h
 ·simp at h
theorem wy {g : FuncId} {fn : bY} (h : I6 P g = some fn) : ∃ fc c ops d os rest l r, P.funcs[g]? = some fc ∧ fc.body = some c ∧ (fc.name == "runtime.NumGoroutine") = false ∧ fc.results = #[] ∧ ow c = some (ops, d, os, rest) ∧ cz P fc.ntmps ops os = some l ∧ fo P fc.ntmps rest = some r ∧
  d<fc.ntmps/\mU P g<=d/\fn=⟨fc.ntmps,.seq (.reg (xn fc.ntmps (mU P g) d)) (.seq (.reg l) r),[]⟩:=by
 unfold I6 at h
 split at h
 ·rename_i fc hf
  split at h
  ·rename_i c hb
   cases hn : (fc.name == "runtime.NumGoroutine" || !(Nat.beq fc.results.size 0)) with
   | true=>rw[hn]at h; simp at h
   | false=>
    rw[hn]at h
    simp only[Bool.or_eq_false_iff,Bool.not_eq_false']at hn
    simp only[cond_false]at h
    split at h
    ·rename_i ops d os rest hsp
     split at h
     ·rename_i l r h1 h2
      cases h3:Nat.blt d fc.ntmps&&Nat.ble (mU P g) d with
      | false=>rw[h3]at h; simp at h
      | true=>
       rw[h3]at h
       simp only[cond_true,sJ]at h
       simp only[SE]at h3
       exact⟨fc,c,ops,d,os,rest,l,r,hf,hb,hn.1,Array.eq_empty_of_size_eq_zero (SI hn.2),hsp,h1,h2,eQ h3.1,SH h3.2,h.symm⟩
     ·simp at h
    ·simp at h
  ·simp at h
 ·simp at h
theorem oY {f : Nat} (hf : Nat.blt f cj = true) {fc : Func} {c : Code} (h1 : P.funcs[f]? = some fc) (h2 : fc.body = some c) (h3 : (fc.name == "runtime.NumGoroutine") = false) : bO P f = true := by
 simp[bO,hf,h1,h2,h3]
structure El(P:Program)(call:FuncId->List aa->ae->Option (aa×ae)):Prop where
 ok:iW P call
 pan:AB P call
 dfd:Ni P call
 rcv:Nh P call
structure LR(P:Program)(tb:FuncId->Bool):Prop where
 h0:∀f,Nat.blt f cj=true->tb f=true->bO P f=true
 h1:∀f,Nat.blt f cj=true->tb (cj+f)=true->bO P f=true
 h2:∀f,Nat.blt f cj=true->tb (2*cj+f)=true->bO P f=true
 h3:∀f,Nat.blt f cj=true->tb (3*cj+f)=true->bO P f=true
theorem IC(hfol:P.follows .mixedOrders=true){tb:FuncId->Bool}(hb:LR P tb){call:FuncId->List aa->ae->Option (aa×ae)}(hc:El P call){k:Nat}{md:Eg}{raw:Bool}{f:FuncId}{fn:bY}(hfn:BR P md raw f=some fn)
  {args:List aa} (hlen:args.length<=fn.nt) {e:uD} {T:Tr aa} {H1:ae} (hx:aM tb call k fn.body (dc args 0 .e) H=some (e,T,H1)) (hne:∀i,e≠.exit i) {xs:List aa} (hxs:jN T H1 fn.res=some xs) {vs:Array Value} (R:bF Prot w0 ρ H w) (hv:aq ρ args vs.toList) :
  Calls P f vs w (Nc Prot w0 raw ρ H1 (iS xs)):=by
 obtain⟨fc,c,b,r,h1,h2,h3,h4,h5,h6,h7,rfl⟩:=pZ hfn
 simp only at hlen
 have hst:=pI (ρ:=ρ) hv hlen
 have hgh:∀t,fc.ntmps<=t->ev (dc args 0 .e) (.t t)=aR:=fun t ht=>by
  have:=hst.at_ t
  have hsz:=hst.size
  rw[Array.getD_eq_getD_getElem?,Array.getElem?_eq_none om]at this
  exact GI this
 have hP:rT ρ fc.ntmps (dc args 0 .e) { tmps:=vs++Array.replicate (fc.ntmps-vs.size) undef,defers:=[] }:=
  ⟨⟨⟨_,⟨fun _ _=>rfl,hgh⟩,hst⟩,.inl ⟨hgh _ om,rfl⟩⟩,hgh _ rL⟩
 simp only[aM]at hx
 refine calls_of_wp_defers h1 h2 ?_
 cases hb1:aM tb call k b (dc args 0 .e) H with
 | none=>rw[hb1]at hx; simp at hx
 | some q=>
  obtain⟨e1,T1,H2⟩:=q
  rw[hb1]at hx
  have hsim:=FO hfol hb.h0 hb.h1 hc.ok hc.pan c b h4 ρ _ _ _ _ e1 _ w R hP hb1
  have hval:∀v,ev T (.t (fc.ntmps+3))=v->iS xs=v:=fun v h9=>by
   simp only[jN,sJ]at hxs
   subst hxs
   exact h9
  have hout:∀{ρ':Pl} {a':Act} {w':World} {u:FrameMode},ρ.le ρ'->bF Prot w0 ρ' H2 w'->((rT ρ' fc.ntmps T1 a'/\u=.returning)∨∃uv,OC ρ' fc.ntmps T1 a' uv/\u=.panicking [{ v:=uv,recovered:=false }]) ->
    aM tb call k (yE fc.ntmps r raw md.df) T1 H2=some (e,T,H1)->Leaves P fc a'.tmps (Nc Prot w0 raw ρ H1 (iS xs)) a'.defers u w':=by
   intro ρ' a' w' u hle R' hs' ht'
   obtain⟨_,hL⟩:=G1 (fc:=fc) hc.dfd hc.rcv hb.h3 hb.h2 h5 h6 h7 ht' R' hs'
   rw[hval _ rfl]
   have:∀(ds:List Deferred) (u:FrameMode) (w:World),Leaves P fc a'.tmps (Nc Prot w0 raw ρ' H1 (ev T (.t (fc.ntmps+3)))) ds u w->Leaves P fc a'.tmps (Nc Prot w0 raw ρ H1 (ev T (.t (fc.ntmps+3)))) ds u w:=by
    have hO:∀e w',Nc Prot w0 raw ρ' H1 (ev T (.t (fc.ntmps+3))) e w'->Nc Prot w0 raw ρ H1 (ev T (.t (fc.ntmps+3))) e w':=fun e w' ⟨ρ2,q1,q2⟩=>⟨ρ2,Pl.le_trans hle q1,q2⟩
    intro ds
    induction ds with
    | nil=>
     intro u w hL
     cases u with
     | run=>exact hL
     | returning=>obtain⟨v,q1,q2⟩:=hL; exact⟨v,q1,hO _ _ q2⟩
     | panicking ch=>exact hO _ _ hL
    | cons d ds ih=>
     intro u w hL
     obtain⟨q1,fv,cap,g,ar,q2,q3,q4⟩:=hL
     refine⟨q1,fv,cap,g,ar,q2,q3,q4.mono fun e' u' w' hh=>?_⟩
     cases e' with
     | returned v=>exact ih _ _ hh
     | panicked ch=>exact ih _ _ hh
     | outgrown=>exact hO _ _ hh
   exact this _ _ _ hL
  refine wp_mono hsim ?_
  rintro e' a' w' ⟨ρ',q1,q2,q3⟩
  cases e1 with
  | normal=>
   obtain⟨rfl,z⟩:=q3
   exact hout q1 q2 (.inl ⟨z,rfl⟩) hx
  | ret=>exact q3.elim
  | exit id=>
   simp only at hx
   cases hid:Nat.beq id PB with
   | false=>
    rw[hid]at hx
    simp only[cond_false,sJ,pJ]at hx
    exact (hne id hx.1.symm).elim
   | true=>
    rw[hid]at hx
    simp only[cond_true]at hx
    have:=SI hid
    rcases q3 with⟨z1,_⟩ | ⟨_,⟨rfl,z2⟩ | ⟨u,rfl,z2⟩⟩
    ·exact (z1 this).elim
    ·exact hout q1 q2 (.inl ⟨z2,rfl⟩) hx
    ·exact hout q1 q2 (.inr ⟨u,z2,rfl⟩) hx
theorem ME(hfol:P.follows .mixedOrders=true){tb:FuncId->Bool}(hb:LR P tb){call:FuncId->List aa->ae->Option (aa×ae)}(hc:El P call){k:Nat}{f:FuncId}{fn:bY}(hfn:J1 P f=some fn)
  {args:List aa} (hlen:args.length<=fn.nt) {e:uD} {T:Tr aa} {H1:ae} (hx:aM tb call k fn.body (dc args 0 .e) H=some (e,T,H1)) (hne:∀i,e≠.exit i) {xs:List aa} (hxs:jN T H1 fn.res=some xs) {vs:Array Value} (R:bF Prot w0 ρ H w) (hv:aq ρ args vs.toList) :
  ∃fc c,P.funcs[f]?=some fc/\fc.body=some c/\c.wp P (bodyPost P fc fun e w'=>∃ρ' u,ρ.le ρ'/\e=.returned u/\bF Prot w0 ρ' H1 w'/\ah ρ' (iS xs) u) { tmps:=vs++Array.replicate (fc.ntmps-vs.size) undef,defers:=[] } w:=by
 obtain⟨fc,c,h1,h2,h3,h4,h5,h6⟩:=tZ hfn
 refine⟨fc,c,h1,h2,?_⟩
 have hst:=pI (ρ:=ρ) hv hlen
 rw[h4]
 refine wp_mono (zW hfol (Prot:=Prot) (w0:=w0) (ds:=[]) hb.h0 hc.ok _ _ h5 ρ _ T H H1 e _ w R hst rfl hx) ?_
 rintro e' a' w' ⟨he,ρ',hl,R',ht',hd'⟩
 obtain⟨u,r1,r2⟩:=kU (P:=P) R' ht' h6 hxs
 cases e with
 | normal=>simp only at he; subst he; exact⟨hd',u,r1,ρ',u,hl,rfl,R',r2⟩
 | exit id=>exact (hne _ rfl).elim
 | ret=>simp only at he; subst he; exact⟨hd',u,r1,ρ',u,hl,rfl,R',r2⟩
theorem lY{ops:Array Oper}{cs:List Frame}{Q:Exit->Act->List Frame->World->Prop}(hno:¬LetsOut fun e a w=>Q e a cs w):∀(l:List Nat) (a:Act) (w:World),wpOps P ops (fun e a w=>Q e a cs w) l a w->wpOpsS P ops Q l a cs w
 | [],a,w,h=>h
 | i::rest,a,w,h=>by
  simp only[wpOps]at h
  simp only[wpOpsS]
  cases ho:ops[i]? with
  | none=>rw[ho]at h; exact lY hno rest a w h
  | some o=>
   rw[ho]at h
   simp only at h ⊢
   split at h
   ·rename_i hw
    rw[if_pos hw]
    rcases h with h | ⟨_,h⟩
    ·have h':=Oper.wp_mono (K':=fun a' w'=>wpOpsS P ops Q rest a' cs w') (fun a' w' hh=>lY hno rest a' w' hh) h
     unfold Oper.wp at h'
     generalize (execOp a.eval o).run P w=r at h'
     split
     ·simp only[Oper.upon]at h'
     ·exact h'
    ·exact (hno h).elim
   ·rename_i hw
    rw[if_neg hw]
    exact lY hno rest _ w h
end
end Go.Abs
namespace Go.Abs
section
variable {P:Program} {Prot:Gh} {w0:World} {ρ:Pl} {H H':ae} {w:World}
theorem A0{tb:FuncId->Bool}{call:FuncId->List aa->ae->Option (aa×ae)}{n k d:Nat}(hd:d<n)(hk:k<=d)(T:Tr aa)(H:ae):∃T1,bh tb call (xn n k d) T H=some (T1,H) /\
  ∀t,ev T1 (.t t)=if t=n then aR else if t=d then ev T (.t k) else if t=k then aR else ev T (.t t):=by
 refine⟨_,by simp only[xn,bh,gY,cond_true,bW,cR]; rfl,fun t=>?_⟩
 by_cases h1:t=n
 ·rw[aT,if_pos h1,if_pos h1]; rfl
 ·rw[aT,if_neg h1,if_neg h1]
  by_cases h2:t=d
  ·rw[aT,if_pos h2,if_pos h2,aT,if_neg om,aT,if_pos rfl]
  ·rw[aT,if_neg h2,if_neg h2]
   by_cases h3:t=k
   ·rw[aT,if_pos h3,if_pos h3]; rfl
   ·rw[aT,if_neg h3,if_neg h3,aT,if_neg h1]
theorem NX(hfol:P.follows .mixedOrders=true){tb:FuncId->Bool}(hb:LR P tb){call:FuncId->List aa->ae->Option (aa×ae)}(hc:El P call){k:Nat}{G:FuncId}{fn:bY}(hfn:I6 P G=some fn)
  {args:List aa} {x:aa} (hlen:args.length=mU P G) {e:uD} {T:Tr aa} {H1:ae} (hx:aM tb call k fn.body (dc (args++[x]) 0 .e) H=some (e,T,H1)) (hne:∀i,e≠.exit i) {vs:Array Value} {xv:Value} {u:FrameMode} (R:bF Prot w0 ρ H w) (hv:aq ρ args vs.toList) (hxv:ah ρ x xv) (hu:OB u xv) :
  CallsD P G vs u w fun e u' w'=>settle u'=.returning/\∃ρ' y,ρ.le ρ'/\e=.returned y/\bF Prot w0 ρ' H1 w':=by
 obtain⟨fc,c,ops,d,os,rest,l,r,h1,h2,h3,h4,h5,h6,h7,hd,hkd,rfl⟩:=wy hfn
 obtain⟨i0,o,oa,ots,rfl,hops,hop,hod,hog⟩:=uN h5
 have hvl:args.length=vs.size:=by have:=aq.len hv; simpa using this
 obtain⟨T1,t1,t2⟩:=A0 (tb:=tb) (call:=call) hd hkd (dc (args++[x]) 0 .e) H
 simp only[aM,t1]at hx
 cases hl:bh tb call l T1 H with
 | none=>rw[hl]at hx; simp at hx
 | some q=>
  obtain⟨T2,H2⟩:=q
  rw[hl]at hx
  simp only at hx
  have hst:=pI (ρ:=ρ) hv (show args.length<=fc.ntmps by omega)
  have hput:be ρ fc.ntmps T1 ((({ tmps:=vs++Array.replicate (fc.ntmps-vs.size) undef,defers:=[] }:Act).put (some d) xv).tmps):=by
   have hp:=cf (a:={ tmps:=vs++Array.replicate (fc.ntmps-vs.size) undef,defers:=[] }) (n:=fc.ntmps) hst (dst:=some d) (SD hd) hxv
   refine⟨hp.size,fun t=>?_⟩
   have hat:=hp.at_ t
   have e:ev T1 (.t t)=ev (cR (dc args 0 .e) (some d) x) (.t t):=by
    rw[t2 t,oS,pg args vs.toList 0 .e hv (fun _ _=>rfl) t]
    have hvx:aq ρ (args++[x]) (vs.push xv).toList:=by
     rw[Array.toList_push]
     exact aq.append hv (by simp only[aq]; exact⟨_,_,rfl,hxv,rfl⟩)
    rw[pg (args++[x]) _ 0 .e hvx (fun _ _=>rfl) t,pg (args++[x]) _ 0 .e hvx (fun _ _=>rfl) (mU P G)]
    simp only[Nat.not_lt_zero,if_false,Nat.sub_zero,sJ]
    by_cases q1:t=fc.ntmps
    ·subst q1
     rw[if_pos rfl,if_neg om,SV om]
    ·rw[if_neg q1]
     by_cases q2:t=d
     ·subst q2
      rw[if_pos rfl,if_pos rfl,<- hlen,SU rL,Nat.sub_self]
      rfl
     ·rw[if_neg q2,if_neg (show ¬d=t from fun q=>q2 q.symm)]
      by_cases q3:t=mU P G
      ·rw[if_pos q3,SV om]
      ·rw[if_neg q3]
       by_cases q4:t<args.length
       ·rw[SS q4]
       ·rw[SV (by simp; omega),SV om]
   rw[e]
   exact hat
  refine callsD_of_wpS h1 h2 fun c₀ cs hcu=>?_
  refine wpS_seq (wpS_region ?_)
  have hsz:ops.size=os.length+1:=by have:=congrArg List.length hops; simpa using this
  have ho:ops[0]?=some o:=by
   have:ops.toList[0]?=some o:=by rw[hops]; rfl
   simpa using this
  have hnx:∀j,os[j]?=ops[1+j]?:=fun j=>by
   have:ops.toList[1+j]?=os[j]?:=by rw[hops,show 1+j=j+1 by omega,SN]
   rw[<- this]; simp
  rw[List.range_eq_range',hsz,List.range'_succ]
  simp only[wpOpsS,ho]
  have hw:Region.wanted o (yielded ops (vs++Array.replicate (fc.ntmps-vs.size) undef))=true:=by simp[Region.wanted,hog]
  rw[if_pos hw]
  have hrun:∀a:Act,(execOp a.eval o).run P w=.ok .recover w:=fun a=>by
   obtain⟨dst,op,type,pos,after,guard⟩:=o
   simp only at hop
   subst hop
   rfl
  rw[hrun]
  simp only
  have key:∀(u':FrameMode),settle u'=.returning->wpOpsS P ops (Exit.thenS (rest.wpS P (bodyPostS P fc c₀ cs fun e u' w'=>settle u'=.returning/\∃ρ' y,ρ.le ρ'/\e=.returned y/\bF Prot w0 ρ' H1 w')) (bodyPostS P fc c₀ cs fun e u' w'=>settle u'=.returning/\∃ρ' y,ρ.le ρ'/\e=.returned y/\bF Prot w0 ρ' H1 w')) (List.range' (0+1) os.length)
    (({ tmps:=vs++Array.replicate (fc.ntmps-vs.size) undef,defers:=[] }:Act).put o.dst xv) ({ c₀ with mode:=u' }::cs) w:=by
   intro u' hset
   refine lY ?_ _ _ _ ?_
   ·rintro ⟨a,w',u2,_,ρ',y,_,hh,_⟩
    simp at hh
   ·rw[hod]
    refine yR (Prot:=Prot) (w0:=w0) (ds:=[]) hb.h0 hc.ok os (0+1) l hnx h6 ρ ρ T1 T2 H H2 _ w (Pl.le_refl _) R hput rfl hl ?_
    rintro a' w' ⟨ρ',q1,q2,q3,q4⟩
    show rest.wpS P _ a' _ w'
    refine wpS_of_wp (wp_mono (zW hfol (Prot:=Prot) (w0:=w0) (ds:=[]) hb.h0 hc.ok rest r h7 ρ' T2 T H2 H1 e a' w' q2 q3 q4 hx) ?_)
    rintro e' a2 w2 ⟨he,ρ2,z1,z2,z3,z4⟩
    have hfin:a2.defers=[]/\∃u2,({ c₀ with mode:=u' }::cs:List Frame)={ c₀ with mode:=u2 }::cs/\∃v,(results fc a2.tmps).run P w2=.ok v w2/\(settle u2=.returning/\∃ρ' y,ρ.le ρ'/\Ending.returned v=.returned y/\bF Prot w0 ρ' H1 w2):=
     ⟨z4,u',rfl,.tuple #[],by simp[results,h4],hset,ρ2,.tuple #[],Pl.le_trans q1 z1,rfl,z2⟩
    cases e with
    | normal=>simp only at he; subst he; exact hfin
    | exit id=>exact (hne _ rfl).elim
    | ret=>simp only at he; subst he; exact hfin
  rcases hu with⟨rfl,rfl⟩ | rfl
  ·have hrec:recoverD (c₀::cs)=none:=by simp[recoverD,hcu]
   rw[hrec]
   have:=key .returning rfl
   rwa [show ({ c₀ with mode:=.returning }:Frame)=c₀ by rw[<- hcu]]at this
  ·have hrec:recoverD (c₀::cs)=some (xv,{ c₀ with mode:=.panicking [{ v:=xv,recovered:=true }] }::cs):=by simp[recoverD,hcu]
   rw[hrec]
   exact key _ rfl
theorem mI{N:gH}{tab:Tr bY}{n:Nat}{f:FuncId}{args:List aa}{v:aa}(hi:N.is f=false)(h:dp N tab (n+1) f args H=some (v,H')) :
  ∃fn e T xs,tab.get f=some fn/\args.length<=fn.nt/\aM (AD N tab) (dp N tab n) n fn.body (dc args 0 .e) H=some (e,T,H')/\(∀i,e≠.exit i)/\jN T H' fn.res=some xs/\v=iS xs:=by
 simp only[dp,hi,cond_false]at h
 split at h
 ·rename_i fn hf
  cases hb:Nat.ble args.length fn.nt with
  | false=>rw[hb]at h; simp at h
  | true=>
   rw[hb]at h
   simp only[cond_true]at h
   split at h
   ·simp at h
   ·rename_i e T H1 hne hx
    split at h
    ·rename_i xs hxs
     simp only[sJ,pJ]at h
     obtain⟨rfl,rfl⟩:=h
     exact⟨fn,e,T,xs,hf,SH hb,hx,fun i q=>hne i q,hxs,rfl⟩
    ·simp at h
   ·simp at h
 ·simp at h
theorem Ge(hfol:P.follows .mixedOrders=true){N:gH}(hN:uC P N){tab:Tr bY}(hT:JI P tab):∀n,El P (dp N tab n):=by
 have hnat:∀(m f:Nat),0<m->N.is (m*cj+f)=false:=fun m f hm=>by
  cases hi:N.is (m*cj+f) with
  | false=>rfl
  | true=>
   have:=hN.body _ hi
   simp only[bO,SE]at this
   have:=eQ this.1
   have:cj<=m*cj:=Nat.le_mul_of_pos_left _ hm
   omega
 have hget:∀f,N.is f=false->AD N tab f=true->∃fn,tab.get f=some fn:=fun f hi h=>by
  unfold AD at h
  rw[hi]at h
  simp only[cond_false]at h
  split at h
  ·rename_i fn hf; exact⟨fn,hf⟩
  ·simp at h
 have e1:∀f:Nat,cj+f=1*cj+f:=fun f=>om
 have htb:LR P (AD N tab):=by
  refine⟨fun f hf h=>?_,fun f hf h=>?_,fun f hf h=>?_,fun f hf h=>?_⟩
  ·cases hi:N.is f with
   | true=>exact hN.body f hi
   | false=>
    obtain⟨fn,hg⟩:=hget f hi h
    obtain⟨md,he⟩:=hT _ _ hg
    rcases MO hf he with h9 | ⟨m,h9⟩
    ·obtain⟨fc,c,q1,q2,q3,_⟩:=tZ h9; exact oY hf q1 q2 q3
    ·obtain⟨fc,c,b,r,q1,q2,q3,_⟩:=pZ h9; exact oY hf q1 q2 q3
  ·obtain⟨fn,hg⟩:=hget _ (by rw[e1]; exact hnat 1 f om) h
   obtain⟨md,he⟩:=hT _ _ hg
   obtain⟨m,h9⟩:=MN hf he
   obtain⟨fc,c,b,r,q1,q2,q3,_⟩:=pZ h9; exact oY hf q1 q2 q3
  ·obtain⟨fn,hg⟩:=hget _ (hnat 2 f om) h
   obtain⟨md,he⟩:=hT _ _ hg
   have h9:=MM hf he
   obtain⟨fc,c,ops,d,os,rest,l,r,q1,q2,q3,_⟩:=wy h9; exact oY hf q1 q2 q3
  ·obtain⟨fn,hg⟩:=hget _ (hnat 3 f om) h
   obtain⟨md,he⟩:=hT _ _ hg
   have h9:=ML hf he
   obtain⟨fc,c,q1,q2,q3,_⟩:=tZ h9; exact oY hf q1 q2 q3
 intro n
 induction n with
 | zero=>
  refine⟨fun f args H v H' _ h=>by simp[dp]at h,fun f args H v H' _ h=>by simp[dp]at h,fun f args H v H' _ h=>by simp[dp]at h,fun f args x H v H' _ _ h=>by simp[dp]at h⟩
 | succ n ih=>
  refine⟨fun f args H v H' hf h Prot w0 ρ w vs R hv=>?_,fun f args H v H' hf h Prot w0 ρ w vs R hv=>?_,fun f args H v H' hf h Prot w0 ρ w vs R hv=>?_,fun f args x H v H' hf hlen h Prot w0 ρ w vs xv u R hv hxv hu=>?_⟩
  ·cases hi:N.is f with
   | true=>simp only[dp,hi,cond_true]at h; exact hN.run f args H v H' hf h Prot w0 ρ w vs R hv
   | false=>
    obtain⟨fn,e,T,xs,hg,hl,hx,hne,hxs,rfl⟩:=mI hi h
    obtain⟨md,he⟩:=hT _ _ hg
    rcases MO hf he with h9 | ⟨m,h9⟩
    ·obtain⟨fc,c,q1,q2,q3⟩:=ME hfol htb ih h9 hl hx hne hxs R hv
     exact calls_of_wp q1 q2 q3
    ·refine (IC hfol htb ih h9 hl hx hne hxs R hv).mono fun e' w' hr=>?_
     obtain⟨ρ',r1,r2,⟨y,rfl,r3⟩ | ⟨h8,_⟩⟩:=hr
     ·exact⟨ρ',y,r1,rfl,r2,r3⟩
     ·simp at h8
  ·obtain⟨fn,e,T,xs,hg,hl,hx,hne,hxs,rfl⟩:=mI (by rw[e1]; exact hnat 1 f om) h
   obtain⟨md,he⟩:=hT _ _ hg
   obtain⟨m,h9⟩:=MN hf he
   refine (IC hfol htb ih h9 hl hx hne hxs R hv).mono fun e' w' hr=>?_
   obtain⟨ρ',r1,r2,⟨y,rfl,r3⟩ | ⟨_,x,y,r3,rfl,r4⟩⟩:=hr
   ·exact⟨ρ',r1,r2,.inl ⟨y,rfl,r3⟩⟩
   ·exact⟨ρ',r1,r2,.inr ⟨x,y,r3,rfl,r4⟩⟩
  ·obtain⟨fn,e,T,xs,hg,hl,hx,hne,hxs,rfl⟩:=mI (hnat 3 f om) h
   obtain⟨md,he⟩:=hT _ _ hg
   obtain⟨fc,c,q1,q2,q3⟩:=ME hfol htb ih (ML hf he) hl hx hne hxs R hv
   refine (callsD_of_wp q1 q2 q3).mono ?_
   rintro e' u' w' ⟨rfl,ρ',y,r1,rfl,r2,_⟩
   exact⟨rfl,ρ',y,r1,rfl,r2⟩
  ·obtain⟨fn,e,T,xs,hg,hl,hx,hne,hxs,rfl⟩:=mI (hnat 2 f om) h
   obtain⟨md,he⟩:=hT _ _ hg
   exact NX hfol htb ih (MM hf he) hlen hx hne R hv hxv hu
theorem Jw(hfol:P.follows .mixedOrders=true){N:gH}(hN:uC P N){tab:Tr bY}(hT:JI P tab)(n:Nat):iW P (dp N tab n):=(Ge hfol hN hT n).ok
end
end Go.Abs
namespace Go.Abs
section
variable {P:Program}
def H0:ae:=⟨0,.e⟩
theorem bF.below{w0:World}{ρ:Pl}{H:ae}{w:World}(R:bF ⟨fun c=>c<w0.heap.size,fun _=>False⟩ w0 ρ H w):RowKit.Below w0.heap.size w0 w:=
 ⟨R.os,R.tape,R.output,R.size,fun k hk=>(R.prot k hk).2⟩
end
end Go.Abs
namespace Go.Abs.S
open Go.Abs
abbrev cD:=Nat->aa
def en(T:Tr aa):cD:=fun i=>ev T (.t i)
def up(T:cD)(i:Nat)(v:aa):cD:=fun j=>bif Nat.beq j i then v else T j
def iY(T:cD):Option Nat->aa->cD
 | some d,v=>up T d v
 | none,_=>T
theorem IW(T:Tr aa)(i:Nat)(v:aa):en (T.set i v)=up (en T) i v:=by
 funext j
 simp only[en,up,ev,Tr.get_set,cE]
 by_cases h:j=i
 ·rw[if_pos h,decide_eq_true h]; rfl
 ·rw[if_neg h,decide_eq_false h]; rfl
theorem BG(T:Tr aa)(d:Option Nat)(v:aa):en (cR T d v)=iY (en T) d v:=by
 cases d <;> simp only[cR,iY,IW]
def sX(T:cD):a8->aa
 | .t i=>T i
 | .c v=>v
 | .f id=>.func (.func id) [] []
def jA(T:cD):List a8->List aa
 | []=>[]
 | x::r=>sX T x::jA T r
def jc(T:cD):Option a8->Option aa
 | none=>none
 | some x=>some (sX T x)
def pu(T:cD):List (Nat×Nat×a8)->List (Nat×Nat×aa)
 | []=>[]
 | (o,n,x)::r=>(o,n,sX T x)::pu T r
theorem qE(T:Tr aa)(x:a8):sX (en T) x=ev T x:=by cases x <;> rfl
theorem xi(T:Tr aa):∀l:List a8,jA (en T) l=fT T l
 | []=>rfl
 | x::r=>by simp only[jA,fT,qE,xi T r]
theorem Nu(T:Tr aa)(x:Option a8):jc (en T) x=zQ T x:=by cases x <;> simp only[jc,zQ,qE]
theorem Hw(T:Tr aa):∀l:List (Nat×Nat×a8),pu (en T) l=AG T l
 | []=>rfl
 | (o,n,x)::r=>by simp only[pu,AG,qE,Hw T r]
abbrev OH(b:Bool):aa->Bool:=QJ b
def sG(T:cD):Option (Nat×Bool)->Bool
 | none=>true
 | some (t,b)=>gV t b (T (gS t))
theorem Hz(T:Tr aa)(g:Option (Nat×Bool)):sG (en T) g=gY T g:=by
 cases g with
 | none=>rfl
 | some p=>rfl
theorem NW{K t:Nat}(h:t<K):Nat.ble K t=false:=by
 cases hb:Nat.ble K t with
 | false=>rfl
 | true=>have:=SH hb; omega
theorem PX{t:Nat}(h:Nat.ble SK t=false):gS t=t:=by unfold gS; rw[h]; rfl
theorem Nv(T:cD){t:Nat}(h:Nat.ble SK t=false)(b:Bool):sG T (some (t,b))=OH b (T t):=by
 simp only[sG,gV,PX h,h,cond_false]
theorem Ms(T:cD){t:Nat}(h:t<1000000)(b:Bool):sG T (some (t,b))=OH b (T t):=Nv T (NW h) b
def dh{α:Type}(o:Option α)(K:α->Prop):Prop:=∃v,o=some v/\K v
theorem aD{α:Type}(x:α)(K:α->Prop):dh (some x) K=K x:=by simp[dh]
theorem dh.mono{α:Type}{o:Option α}{K K':α->Prop}(h:dh o K)(hk:∀v,K v->K' v):dh o K':=by
 obtain⟨v,h1,h2⟩:=h; exact⟨v,h1,hk v h2⟩
abbrev CS:=FuncId->List aa->ae->(aa->ae->Prop)->Prop
section
variable (C:CS)
def Ey(T:cD)(H:ae)(K:aa->ae->Prop):gL->Prop
 | .mv x=>K (sX T x) H
 | .pick c a b=>∃b',sX T c=.bool b'/\K (bif b' then sX T a else sX T b) H
 | .new z=>K (fS H z).1 (fS H z).2
 | .box x=>K (fS H (sX T x).cells).1 (fS H (sX T x).cells).2
 | .build z ps=>dh (aL z (pu T ps)) fun v=>K v H
 | .buildSl n z ps=>dh (cA n z H (pu T ps)) fun p=>K p.1 p.2
 | .load a n x=>dh (au a n H (sX T x)) fun v=>K v H
 | .store n a x=>dh (bu n H (sX T a) (sX T x)) fun H'=>K aR H'
 | .nilChk x=>dh (cF (sX T x)) fun v=>K v H
 | .bin op x y=>dh (bv op (sX T x) (sX T y)) fun v=>K v H
 | .un op x=>dh (LN op (sX T x)) fun v=>K v H
 | .conv k x=>dh (qU k (sX T x)) fun v=>K v H
 | .convSB x=>dh (OQ H (sX T x)) fun p=>K p.1 p.2
 | .convBS x=>dh (OR H (sX T x)) fun v=>K v H
 | .mkFunc fn a b=>K (.func fn (jA T a) (jA T b)) H
 | .mkIface t x=>K (.iface t (sX T x)) H
 | .mkSlice b z l c=>dh (wP b z H (sX T l) (sX T c)) fun p=>K p.1 p.2
 | .sl n x lo hi mx=>dh (LP n (sX T x) (jc T lo) (jc T hi) (jc T mx)) fun v=>K v H
 | .slStr x lo hi=>dh (fG (sX T x) (jc T lo) (jc T hi)) fun v=>K v H
 | .fieldA o x=>dh (ic o (sX T x)) fun v=>K v H
 | .field a n o x=>dh (mJ a n o (sX T x)) fun v=>K v H
 | .idxA n x i=>dh (iU n (sX T x) (sX T i)) fun v=>K v H
 | .idxArr m n x i=>dh (fw m n (sX T x) (sX T i)) fun v=>K v H
 | .idx m n a x i=>dh (B6 m n a (sX T x) (sX T i)) fun v=>K v H
 | .idxS x i=>dh (lT (sX T x) (sX T i)) fun v=>K v H
 | .extract i x=>dh (eR i (sX T x)) fun v=>K v H
 | .append n b s x=>dh (bQ n b H (sX T s) (sX T x)) fun p=>K p.1 p.2
 | .len s x=>dh (iT s (sX T x)) fun v=>K v H
 | .call f args=>C f (jA T args) H K
 | .callv f args=>∃g a b,sX T f=.func (.func g) a b/\Nat.blt g cj=true/\C g (a++jA T args++b) H K
 | .pf f xs=>dh (gJ f (jA T xs)) fun v=>K v H
 | .hf f xs=>dh (mV f H (jA T xs)) fun p=>K p.1 p.2
 | .bad=>False
 | .claim b z s=>dh (dy H b z s) fun v=>K v H
 | .slA m n x lo hi mx=>dh (nR m n (sX T x) (jc T lo) (jc T hi) (jc T mx)) fun v=>K v H
def aY:List al->cD->ae->(cD->ae->Prop)->Prop
 | [],T,H,K=>K T H
 | o::r,T,H,K=>bif sG T o.guard then Ey C T H (fun v H'=>aY r (iY T o.dst v) H' K) o.op else aY r (iY T o.dst aR) H K
def fd:List al->cD->ae->(List (aa×ae)->cD->ae->Prop)->Prop
 | [],T,H,K=>K [] T H
 | o::r,T,H,K=>bif sG T o.guard then Ey C T H (fun v H'=>fd r (iY T o.dst v) H' fun ss=>K ((v,H')::ss)) o.op else fd r (iY T o.dst aR) H fun ss=>K ((aR,H)::ss)
end
def Pt(T:cD)(H:ae):gL->Option aa
 | .load a n x=>au a n H (sX T x)
 | .claim b z s=>dy H b z s
 | _=>none
def AC(hs:List ae):List al->List (List Nat)->List (aa×ae)->cD->Prop
 | o::os,ps::pss,(v,_)::ss,T=>(∀p∈ps,∃Hp,hs[p]?=some Hp/\(sG T o.guard=true->∃u,Pt T Hp o.op=some u/\aeq u v=true))/\AC hs os pss ss (iY T o.dst v)
 | _,_,_,_=>True
def Ca(C:CS)(l:List al)(chk:List (List Nat))(T:cD)(H:ae)(K:cD->ae->Prop):Prop:=fd C l T H fun ss T' H'=>AC (H::ss.map (·.2)) l chk ss T/\K T' H'
abbrev nV:=uD->cD->ae->Prop
def lB(id:Nat)(Q:nV):nV:=fun e T H=>match e with
 | .exit j=>bif Nat.beq j id then Q .normal T H else Q (.exit j) T H
 | e=>Q e T H
def kD(Q:nV)(K:cD->ae->Prop):nV:=fun e T H=>match e with
 | .normal=>K T H
 | e=>Q e T H
def wp(C:CS):cS->nV->cD->ae->Prop
 | .skip,Q,T,H=>Q .normal T H
 | .reg ops,Q,T,H=>aY C ops T H (Q .normal)
 | .draw ops chk,Q,T,H=>Ca C (aB H.next ops) chk T (aQ H ops) (Q .normal)
 | .seq a b,Q,T,H=>wp C a (kD Q (wp C b Q)) T H
 | .cond c a b,Q,T,H=>∃v,sX T c=.bool v/\bif v then wp C a Q T H else wp C b Q T H
 | .block id c,Q,T,H=>wp C c (lB id Q) T H
 | .loop c,Q,T,H=>∃(I:Nat->cD->ae->Prop),(∃m,I m T H)/\∀m T H,I m T H->wp C c (kD Q fun T' H'=>∃m',m'<m/\I m' T' H') T H
 | .exit id,Q,T,H=>Q (.exit id) T H
 | .ret,Q,T,H=>Q .ret T H
section
variable {tb:FuncId->Bool}
def J3(c d:FuncId->List aa->ae->Option (aa×ae)):Prop:=∀f a H r,c f a H=some r->d f a H=some r
theorem J3.refl(c):J3 c c:=fun _ _ _ _ h=>h
theorem kq{c d}(h:J3 c d){o:al}{T:Tr aa}{H:ae}{r}(e:br tb c o T H=some r):br tb d o T H=some r:=by
 unfold br at e ⊢
 cases hg:gY T o.guard with
 | false=>rw[hg]at e; exact e
 | true=>
  rw[hg]at e
  simp only[cond_true]at e ⊢
  split at e
  ·exact e
  ·exact h _ _ _ _ e
  ·simp at e
theorem nP{c d}(h:J3 c d):∀(l:List al) {T:Tr aa} {H:ae} {r},bh tb c l T H=some r->bh tb d l T H=some r
 | [],_,_,_,e=>e
 | o::l,T,H,r,e=>by
  have hs:∀c,bh tb c (o::l) T H=match br tb c o T H with | some (v,H')=>bh tb c l (cR T o.dst v) H' | none=>none:=by
   intro c
   simp only[bh,br]
   cases gY T o.guard with
   | false=>rfl
   | true=>
    simp only[cond_true]
    cases bW tb T H o.op with
    | none=>rfl
    | some p=>obtain⟨nx,H'⟩:=p; cases nx <;> rfl
  rw[hs]at e ⊢
  split at e
  ·rename_i v H' hv
   rw[kq h hv]
   exact nP h l e
  ·simp at e
theorem lN{c d}(h:J3 c d):∀(l:List al) {T:Tr aa} {H:ae} {r},cQ tb c l T H=some r->cQ tb d l T H=some r
 | [],_,_,_,e=>e
 | o::l,T,H,r,e=>by
  simp only[cQ]at e ⊢
  split at e
  ·rename_i v H' hv
   rw[kq h hv]
   split at e
   ·rename_i s hs
    simp only[lN h l hs]
    exact e
   ·simp at e
  ·simp at e
theorem nQ{f g:Tr aa->ae->Option (uD×Tr aa×ae)}(h:∀T H r,f T H=some r->g T H=some r):∀(n m:Nat) (T:Tr aa) (H:ae) (r),n<=m->jr f n T H=some r->jr g m T H=some r
 | 0,_,_,_,_,_,e=>by simp[jr]at e
 | n+1,0,_,_,_,hl,_=>om
 | n+1,m+1,T,H,r,hl,e=>by
  simp only[jr]at e ⊢
  split at e
  ·rename_i T' H' hv
   rw[h _ _ _ hv]
   exact nQ h n m T' H' r om e
  ·rename_i e' T' H' hne hv
   rw[h _ _ _ hv]
   cases e' with
   | normal=>exact absurd rfl hne
   | exit i=>exact e
   | ret=>exact e
  ·simp at e
theorem gE{c d}(h:J3 c d){k k':Nat}(hk:k<=k'):∀(x:cS) (T:Tr aa) (H:ae) (r),aM tb c k x T H=some r->aM tb d k' x T H=some r:=by
 intro x
 induction x with
 | skip=>intro T H r e; exact e
 | reg l=>
  intro T H r e
  simp only[aM]at e ⊢
  split at e
  ·rename_i T' H' hv; rw[nP h l hv]; exact e
  ·simp at e
 | draw l chk=>
  intro T H r e
  simp only[aM,lR]at e ⊢
  split at e
  ·rename_i ss hv; rw[lN h _ hv]; exact e
  ·simp at e
 | seq a b iha ihb=>
  intro T H r e
  simp only[aM]at e ⊢
  split at e
  ·rename_i T' H' hv; rw[iha _ _ _ hv]; exact ihb _ _ _ e
  ·rename_i e' T' H' hne hv
   rw[iha _ _ _ hv]
   cases e' with
   | normal=>exact absurd rfl hne
   | exit i=>exact e
   | ret=>exact e
  ·simp at e
 | cond c a b iha ihb=>
  intro T H r e
  simp only[aM]at e ⊢
  split at e
  ·exact iha _ _ _ e
  ·exact ihb _ _ _ e
  ·simp at e
 | block id c ih=>
  intro T H r e
  simp only[aM]at e ⊢
  split at e
  ·rename_i j T' H' hv; rw[ih _ _ _ hv]; exact e
  ·rename_i e' T' H' hne hv
   rw[ih _ _ _ hv]
   cases e' with
   | exit i=>exact absurd rfl (hne i)
   | normal=>exact e
   | ret=>exact e
  ·simp at e
 | loop c ih=>
  intro T H r e
  simp only[aM]at e ⊢
  exact nQ (fun T H r hr=>ih T H r hr) k k' T H r hk e
 | exit id=>intro T H r e; exact e
 | ret=>intro T H r e; exact e
theorem qT{N:gH}{tab:Tr bY}:∀(n:Nat),J3 (dp N tab n) (dp N tab (n+1))
 | 0=>fun f a H r e=>by simp[dp]at e
 | n+1=>fun f a H r e=>by
  have ih:=qT (N:=N) (tab:=tab) n
  rw[dp]at e ⊢
  cases hn:N.is f with
  | true=>rw[hn]at e; exact e
  | false=>
   rw[hn]at e
   simp only[cond_false]at e ⊢
   split at e
   ·rename_i fn hf
    cases hb:Nat.ble a.length fn.nt with
    | false=>rw[hb]at e; simp at e
    | true=>
     rw[hb]at e
     simp only[cond_true]at e ⊢
     split at e
     ·simp at e
     ·rename_i e' T' H' hne hv
      rw[gE ih (Nat.le_succ n) _ _ _ _ hv]
      cases e' with
      | exit i=>exact (hne i rfl).elim
      | normal=>exact e
      | ret=>exact e
     ·simp at e
   ·simp at e
theorem d8{N:gH}{tab:Tr bY}{n m:Nat}(h:n<=m):J3 (dp N tab n) (dp N tab m):=by
 induction m with
 | zero => obtain rfl : n = 0 := by omega
           exact J3.refl _
 | succ m ih=>
  by_cases e:n=m+1
  ·subst e; exact J3.refl _
  ·exact fun f a H r hr=>qT m _ _ _ _ (ih om _ _ _ _ hr)
end
end Go.Abs.S
