/- Part of a proof (A11d A11e A11f A11g A11h A11i A12 S1); no condition. -/
import Derived.Test.YteabnpheoiakdaaGreatDoorP6
set_option linter.unusedSimpArgs false
set_option linter.unusedVariables false
set_option linter.unnecessarySimpa false
namespace Go.Abs
section
variable {P:Program} {Prot:Gh} {w0:World} {ρ:Pl} {H H':AHeap} {w:World}
theorem run_call{f:Nat}{args:Array Operand}{ats:Array TypeId}{o:Oper}(hoe:o.op=.call ⟨.value (.func f),args,ats⟩)(hb:hasBody P f=true)(a:Act):(execOp a.eval o).run P w=.ok (.enter f (args.map a.eval)) w:=by
 have:=callFunc_ok (P:=P) (w:=w) hb (args.map a.eval)
 obtain⟨dst,op,type,pos,after,guard⟩:=o
 simp only at hoe
 subst hoe
 simp[execOp,resolve,Act.eval,Deferred.ofValue,invoke,this]
theorem rawF_spec{ps:List Nat}{o:Op}{f:Nat}{l:List Operand}(h:isRawF ps o=some (f,l)):∃args ats,o=.call ⟨.value (.func f),args,ats⟩∧l=args.toList:=by
 unfold isRawF at h
 split at h
 ·rename_i c
  split at h
  ·rename_i g hg
   obtain⟨cal,args,ats⟩:=c
   simp only at hg
   subst hg
   cases hp:ps.any (Nat.beq g) with
   | false=>rw[hp]at h; simp at h
   | true=>
    rw[hp]at h
    simp only[cond_true,sJ,pJ]at h
    obtain⟨rfl,rfl⟩:=h
    exact⟨args,ats,rfl,rfl⟩
  ·simp at h
 ·simp at h
theorem put_defers(a:Act)(d:Option Nat)(v:Value):(a.put d v).defers=a.defers:=by cases d <;> rfl
theorem GT.put{n:Nat}{T:Tr AVal}{a:Act}(g:GT ρ n T a){d:Option Nat}(hd:okDst n d=true){x:AVal}{v:Value}(hv:VRel ρ x v):GT ρ n (aput T d x) (a.put d v):=by
 obtain⟨U,h1,h2⟩:=g.t
 refine⟨⟨aput U d x,h1.put hd x,put_rel h2 hd hv⟩,?_⟩
 rw[put_defers,SameG.put hd x (n+1) om]
 exact g.d
theorem PSt.put{n:Nat}{T:Tr AVal}{a:Act}(g:PSt ρ n T a){d:Option Nat}(hd:okDst n d=true){x:AVal}{v:Value}(hv:VRel ρ x v):PSt ρ n (aput T d x) (a.put d v):=
 ⟨g.1.put hd hv,by rw[SameG.put hd x n rL]; exact g.2⟩
theorem PSt.mono{ρ ρ':Pl}(h:ρ.le ρ'){n:Nat}{T:Tr AVal}{a:Act}(g:PSt ρ n T a):PSt ρ' n T a:=⟨g.1.mono h,g.2⟩
theorem PSt.ghost{n:Nat}{T:Tr AVal}{a:Act}(g:PSt ρ n T a){d:Nat}(hd:n+2≤d)(v:AVal):PSt ρ n (T.set d v) a:=
 ⟨g.1.ghost om om v,by rw[ev_set,if_neg om]; exact g.2⟩
theorem astep_none{tb:FuncId→Bool}{call:FuncId→List AVal→AHeap→Option (AVal×AHeap)}(d:Option Nat)(op:AOp)(T:Tr AVal)(H:AHeap):astep tb call ⟨d,op,none⟩ T H=match aop tb T H op with
  | some (.val v,H')=>some (v,H')
  | some (.enter f args,H')=>call f args H'
  | none=>none:=rfl
theorem aregs_one{tb:FuncId→Bool}{call:FuncId→List AVal→AHeap→Option (AVal×AHeap)}{o:AOper}{T T':Tr AVal}{H H':AHeap}(h:aregs tb call [o] T H=some (T',H')):∃v,astep tb call o T H=some (v,H')∧T'=aput T o.dst v:=by
 rw[aregs_step']at h
 cases hs:astep tb call o T H with
 | none=>rw[hs]at h; simp at h
 | some p=>
  obtain⟨v,H1⟩:=p
  rw[hs]at h
  simp only[aregs,sJ,pJ]at h
  obtain⟨rfl,rfl⟩:=h
  exact⟨v,rfl,rfl⟩
theorem ord_sim{tb:FuncId→Bool}(htb:∀f,Nat.blt f BIG=true→tb f=true→hasBody P f=true){call:FuncId→List AVal→AHeap→Option (AVal×AHeap)}(hcall:CallOK P call){n:Nat}{ops:Array Oper}{o:Oper}{ao:AOper}
  (hco:cOper P n ops o=some ao) (haT:aoperT n ao=true) {ρ0:Pl} {T:Tr AVal} {a:Act} (hle:ρ0.le ρ) (R:Rel Prot w0 ρ H w) (hP:PSt ρ n T a) {v:AVal} {H1:AHeap} (hs:astep tb call ao T H=some (v,H1)) {rest:List Nat} {Q:Exit→Act→World→Prop} {i:Nat} (ho:ops[i]?=some o)
  (hnext:∀(ρ1:Pl) (a':Act) (w':World),ρ0.le ρ1→Rel Prot w0 ρ1 H1 w'→PSt ρ1 n (aput T ao.dst v) a'→wpOps P ops Q rest a' w'):wpOps P ops Q (i::rest) a w:=by
 obtain⟨U,hG,ht⟩:=hP.1.t
 rw[astep_ge hG haT]at hs
 unfold cOper at hco
 split at hco
 ·rename_i ax g hop hg
  cases hdst:okDst n o.dst with
  | false=>rw[hdst]at hco; simp at hco
  | true=>
   rw[hdst]at hco
   simp only[cond_true,sJ]at hco
   subst hco
   simp only[wpOps,ho]
   simp only[astep]at hs
   rw[guard_ok ht hg]
   cases hgo:gOK U g with
   | false=>
    rw[hgo]at hs
    simp only[cond_false,sJ,pJ]at hs
    obtain⟨rfl,rfl⟩:=hs
    simp only[Bool.false_eq_true,if_false]
    exact hnext ρ _ w hle R (hP.put hdst undef_rel)
   | true=>
    rw[hgo]at hs
    simp only[cond_true]at hs
    simp only[if_true]
    left
    split at hs
    ·rename_i v' H2 hv
     simp only[sJ,pJ]at hs
     obtain⟨rfl,rfl⟩:=hs
     obtain⟨ρ1,w1,nx,q1,q2,q3,q4⟩:=op_sim htb R ht o hop hv
     simp only[Oper.wp,q2]
     cases nx <;> simp only[NxRel]at q4
     case value u=>exact hnext ρ1 _ w1 (Pl.le_trans hle q1) q3 ((hP.mono q1).put hdst q4)
     case skip=>exact hnext ρ1 _ w1 (Pl.le_trans hle q1) q3 ((hP.mono q1).put hdst q4)
    ·rename_i f args H2 hv
     obtain⟨ρ1,w1,nx,q1,q2,q3,q4⟩:=op_sim htb R ht o hop hv
     simp only[Oper.wp,q2]
     cases nx <;> simp only[NxRel]at q4
     case enter g vs=>
      obtain⟨rfl,hbig,q5⟩:=q4
      simp only[Oper.upon]
      refine (hcall _ _ _ _ _ hbig hs Prot w0 ρ1 w1 vs q3 q5).mono fun e w' hr=>?_
      obtain⟨ρ2,u,r1,rfl,r3,r4⟩:=hr
      exact hnext ρ2 _ w' (Pl.le_trans hle (Pl.le_trans q1 r1)) r3 ((hP.mono (Pl.le_trans q1 r1)).put hdst r4)
    ·simp at hs
 ·simp at hco
theorem items_sim{tb:FuncId→Bool}(htb:∀f,Nat.blt f BIG=true→tb f=true→hasBody P f=true)(htbP:∀f,Nat.blt f BIG=true→tb (BIG+f)=true→hasBody P f=true){call:FuncId→List AVal→AHeap→Option (AVal×AHeap)}(hcall:CallOK P call)(hcallP:CallP P call)
  {n k:Nat} {ps:List Nat} {ops:Array Oper}:∀(rest:List Oper) (i:Nat) (its:List PItem),(∀j,rest[j]?=ops[i+j]?)→cItems P n ps ops rest=some its→∀(ρ0 ρ:Pl) (T T':Tr AVal) (H H':AHeap) (e:AEx) (a:Act) (w:World),ρ0.le ρ →
   Rel Prot w0 ρ H w→PSt ρ n T a→aexec tb call k (codeP n its []) T H=some (e,T',H')→wpOps P ops (SimP Prot w0 ρ0 n e T' H') (List.range' i rest.length) a w:=by
 intro rest
 induction rest with
 | nil=>
  intro i its _ hc ρ0 ρ T T' H H' e a w hle R hP h
  simp only[cItems,sJ]at hc
  subst hc
  simp only[codeP,aexec,List.reverse_nil,aregs,sJ,pJ]at h
  obtain⟨rfl,rfl,rfl⟩:=h
  exact⟨ρ,hle,R,rfl,hP⟩
 | cons o rest ih=>
  intro i its hi hc ρ0 ρ T T' H H' e a w hle R hP h
  simp only[cItems]at hc
  split at hc
  ·rename_i it l' ha hl
   simp only[sJ]at hc
   subst hc
   have ho:ops[i]?=some o:=by have:=hi 0; simpa using this.symm
   have hnx:∀j,rest[j]?=ops[i+1+j]?:=fun j=>by have:=hi (j+1); simp only[List.getElem?_cons_succ]at this; rw[this]; congr 1; omega
   rw[List.length_cons,List.range'_succ]
   unfold cItem at ha
   split at ha
   ·-- a panic
    rename_i x hox
    split at ha
    ·rename_i y hg hy
     cases hT:opdT n y with
     | false=>rw[hT]at ha; simp at ha
     | true=>
      rw[hT]at ha
      simp only[cond_true,sJ]at ha
      subst ha
      simp only[codeP,aexec,List.reverse_nil,List.nil_append]at h
      split at h
      ·rename_i T1 H1 h1
       split at h1
       ·rename_i T2 H2 h2
        simp only[sJ,pJ]at h1
        obtain⟨_,rfl,rfl⟩:=h1
        simp only[sJ,pJ]at h
        obtain⟨rfl,rfl,rfl⟩:=h
        obtain⟨v,hs,rfl⟩:=aregs_one h2
        obtain⟨U,hG,ht⟩:=hP.1.t
        rw[astep_none]at hs
        simp only[aop,evs,aPf,vv]at hs
        have hx:=opd_ok ht hy
        rw[← hG.x hT]at hx
        generalize ev T y=q at hs hx
        unfold aMkP at hs
        split at hs
        ·rename_i v' H3 hv
         split at hv
         ·rename_i v2 hv2
          split at hv2
          ·rename_i t z heq
           simp only[List.cons.injEq,and_true]at heq
           subst heq
           simp only[sJ]at hv2
           subst hv2
           simp only[sJ,pJ,Nx.val.injEq]at hv hs
           obtain⟨rfl,rfl⟩:=hv
           obtain⟨rfl,rfl⟩:=hs
           simp only[wpOps,ho]
           have hw:Region.wanted o (yielded ops a.tmps)=true:=by simp[Region.wanted,hg]
           rw[if_pos hw]
           left
           have hx':=hx
           simp only[VRel]at hx'
           obtain⟨yv,e1,e2⟩:=hx'
           have hrun:(execOp a.eval o).run P w=.halt (.panic (.iface t yv)) w:=by
            obtain⟨dst,op,type,pos,after,guard⟩:=o
            simp only at hox
            subst hox
            show (do pure (Next.value (← Instr.panic (a.eval x))):Sem Next).run P w=_
            rw[e1]
            rfl
           simp only[Oper.wp,hrun,Oper.upon]
           refine⟨ρ,hle,R,.inr ⟨rfl,.inr ⟨_,rfl,.iface t z,?_,?_,.inr ?_⟩⟩⟩
           ·simp only[aput,ev_set,if_true]
           ·rw[← e1]; exact hx
           ·exact hP.1.ghost rL om _
          ·simp at hv2
         ·simp at hv
        ·rename_i f args H3 hv
         split at hv <;> simp at hv
        ·simp at hs
       ·simp at h1
      ·rename_i e1 T1 H1 hne h1
       split at h1
       ·simp only[sJ,pJ]at h1
        exact (hne h1.1.symm).elim
       ·simp at h1
      ·simp at h
    ·simp at ha
   ·-- a call laid aside
    rename_i c hox
    split at ha
    ·rename_i x hg hd hcal
     split at ha
     ·rename_i y hargs hy
      cases hT:opdT n y with
      | false=>rw[hT]at ha; simp at ha
      | true=>
       rw[hT]at ha
       simp only[cond_true,sJ]at ha
       subst ha
       simp only[codeP]at h
       rw[codeP_acc]at h
       split at h
       ·rename_i T1 H1 h1
        simp only[List.reverse_cons,List.reverse_nil,List.nil_append]at h1
        obtain⟨v,hs,rfl⟩:=aregs_one h1
        obtain⟨U,hG,ht⟩:=hP.1.t
        rw[astep_none]at hs
        simp only[aop,evs,aPf,vv]at hs
        have hx:=opd_ok ht hy
        rw[← hG.x hT]at hx
        have hdf:=hP.1.d
        generalize ev T (.t (n+1))=z at hs hdf
        generalize ev T y=q at hs hx
        unfold aDset at hs
        split at hs
        ·rename_i v' H3 hv
         split at hv
         ·rename_i v2 hv2
          split at hv2
          ·rename_i f fa fb heq
           simp only[List.cons.injEq,and_true]at heq
           obtain⟨rfl,rfl⟩:=heq
           simp only[sJ]at hv2
           subst hv2
           simp only[sJ,pJ,Nx.val.injEq]at hv hs
           obtain⟨rfl,rfl⟩:=hv
           obtain⟨rfl,rfl⟩:=hs
           have hds:a.defers=[]:=by
            rcases hdf with⟨_,h9⟩ | ⟨f',a',b',d',cap',h9,_⟩
            ·exact h9
            ·simp at h9
           simp only[wpOps,ho]
           have hw:Region.wanted o (yielded ops a.tmps)=true:=by simp[Region.wanted,hg]
           rw[if_pos hw]
           left
           simp only[VRel]at hx
           obtain⟨fv,cv,hfv,hv1,hv2⟩:=hx
           have hrun:(execOp a.eval o).run P w=.ok (.defer { target:=.fn (.func f) cv,args:=fv }) w:=by
            obtain⟨dst,op,type,pos,after,guard⟩:=o
            obtain⟨cal,args,ats⟩:=c
            simp only at hox hcal hargs hd
            subst hox hcal hd
            have:args=#[]:=by simpa using hargs
            subst this
            simp[execOp,resolve,hfv,Deferred.ofValue]
           simp only[Oper.wp,hrun,Oper.upon,hd]
           refine ih (i+1) l' hnx hl ρ0 ρ _ _ _ _ _ _ _ hle R ⟨⟨⟨U,hG.ghost om _,ht⟩,?_⟩,?_⟩ h
           ·simp only[aput,ev_set,if_true,Act.put,hds]
            exact .inr ⟨f,fa,fb,_,cv,rfl,rfl,rfl,hv2,hv1⟩
           ·simp only[aput,ev_set]
            rw[if_neg om]
            exact hP.2
          ·simp at hv2
         ·simp at hv
        ·rename_i f args H3 hv
         split at hv <;> simp at hv
        ·simp at hs
       ·simp at h
     ·simp at ha
    ·simp at ha
   ·-- a call that may panic,or whatever is ordinary
    split at ha
    ·rename_i f lo hraw
     obtain⟨args,ats,hoe,rfl⟩:=rawF_spec hraw
     split at ha
     ·rename_i lx g hlx hgc
      cases hcnd:Nat.blt f BIG&&(opdsT n lx&&(gdTm n g&&okDst n o.dst)) with
      | false=>rw[hcnd]at ha; simp at ha
      | true=>
       rw[hcnd]at ha
       simp only[cond_true,sJ]at ha
       subst ha
       simp only[Bool.and_eq_true]at hcnd
       obtain⟨hbig,hlT,hgT,hdst⟩:=hcnd
       obtain⟨U,hG,ht⟩:=hP.1.t
       have key:∃(v:AVal) (H1:AHeap),astep tb call ⟨some (n+3),.call (BIG+f) lx,g⟩ T H=some (v,H1) ∧
         ((isPan v = true ∧ e = .exit PB ∧ T' = (((T.set (n + 3) v).set (n + 2) (.bool true)).set n v) ∧ H' = H1) ∨
          (isPan v = false ∧ aexec tb call k (codeP n l' []) (aput ((T.set (n + 3) v).set (n + 2) (.bool false)) o.dst v) H1 = some (e, T', H'))) := by
        simp only[codeP,aexec,List.reverse_nil,List.nil_append]at h
        rw[aregs_step']at h
        cases hs:astep tb call ⟨some (n+3),.call (BIG+f) lx,g⟩ T H with
        | none=>rw[hs]at h; simp at h
        | some p=>
         obtain⟨v,H1⟩:=p
         rw[hs]at h
         refine⟨v,H1,rfl,?_⟩
         simp only[aput]at h
         rw[aregs_step',astep_none]at h
         have e3:ev (T.set (n+3) v) (.t (n+3))=v:=by rw[ev_set,if_pos rfl]
         simp only[aop,evs,aPf,vv,aIsP,e3,aregs,aput]at h
         have e2:ev ((T.set (n+3) v).set (n+2) (.bool (isPan v))) (.t (n+2))=.bool (isPan v):=by rw[ev_set,if_pos rfl]
         have e33:ev ((T.set (n+3) v).set (n+2) (.bool (isPan v))) (.t (n+3))=v:=by rw[ev_set,if_neg om,ev_set,if_pos rfl]
         rw[e2]at h
         cases hp:isPan v with
         | true=>
          rw[hp]at h e33
          simp only[gOK,cond_true,e33,sJ,pJ]at h
          obtain⟨rfl,rfl,rfl⟩:=h
          exact .inl ⟨rfl,rfl,rfl,rfl⟩
         | false=>
          rw[hp]at h e33
          simp only at h
          rw[codeP_acc]at h
          simp only[List.reverse_cons,List.reverse_nil,List.nil_append]at h
          rw[aregs_step',astep_none]at h
          simp only[aop,e33,aregs]at h
          exact .inr ⟨rfl,h⟩
       obtain⟨v,H1,hs,hk⟩:=key
       simp only[wpOps,ho]
       rw[guard_ok ht hgc]
       simp only[astep,gOK_ge hG hgT]at hs
       have hgg:∀(ρ':Pl),ρ.le ρ'→∀b,PSt ρ' n ((T.set (n+3) v).set (n+2) b) a:=fun ρ' hl b=>((hP.mono hl).ghost om v).ghost rL b
       cases hgo:gOK U g with
       | false=>
        rw[hgo]at hs
        simp only[cond_false,sJ,pJ]at hs
        obtain⟨rfl,rfl⟩:=hs
        simp only[Bool.false_eq_true,if_false]
        rcases hk with⟨hp,_⟩ | ⟨_,hk⟩
        ·simp[isPan,undefA]at hp
        ·exact ih (i+1) l' hnx hl ρ0 ρ _ _ _ _ _ _ w hle R ((hgg ρ (Pl.le_refl _) _).put hdst undef_rel) hk
       | true=>
        rw[hgo]at hs
        simp only[cond_true]at hs
        simp only[if_true]
        left
        simp only[aop]at hs
        cases hb:tb (BIG+f) with
        | false=>rw[hb]at hs; simp at hs
        | true=>
         rw[hb]at hs
         simp only[cond_true]at hs
         rw[hG.xs hlT]at hs
         simp only[Oper.wp,run_call hoe (htbP f hbig hb) a,Oper.upon]
         refine (hcallP f _ _ _ _ hbig hs Prot w0 ρ w (args.map a.eval) R (by simpa using opds_ok ht hlx)).mono fun e' w' hr=>?_
         obtain⟨ρ2,r1,r3,⟨u,rfl,r4⟩ | ⟨x,u,rfl,rfl,r4⟩⟩:=hr
         ·rcases hk with⟨hp,_⟩ | ⟨_,hk⟩
          ·rw[isPan_no r4]at hp; simp at hp
          ·exact ih (i+1) l' hnx hl ρ0 ρ2 _ _ _ _ _ _ w' (Pl.le_trans hle r1) r3 ((hgg ρ2 r1 _).put hdst r4) hk
         ·rcases hk with⟨_,rfl,rfl,rfl⟩ | ⟨hp,_⟩
          ·refine⟨ρ2,Pl.le_trans hle r1,r3,.inr ⟨rfl,.inr ⟨u,rfl,x,by rw[ev_set,if_pos rfl],r4,.inr ?_⟩⟩⟩
           exact (hgg ρ2 r1 _).1.ghost rL om _
          ·simp[isPan,panV]at hp
     ·simp at ha
    ·unfold cOrd at ha
     split at ha
     ·rename_i ao hco
      cases haT:aoperT n ao with
      | false=>rw[haT]at ha; simp at ha
      | true=>
       rw[haT]at ha
       simp only[cond_true,sJ]at ha
       subst ha
       simp only[codeP]at h
       rw[codeP_acc]at h
       split at h
       ·rename_i T1 H1 h1
        simp only[List.reverse_cons,List.reverse_nil,List.nil_append]at h1
        obtain⟨v,hs,rfl⟩:=aregs_one h1
        exact ord_sim htb hcall hco haT hle R hP hs ho fun ρ1 a' w' q1 q2 q3=>ih (i+1) l' hnx hl ρ0 ρ1 _ _ _ _ _ a' w' q1 q2 q3 h
       ·simp at h
     ·simp at ha
  ·simp at hc
end
end Go.Abs
namespace Go.Abs
section
variable {P:Program} {n:Nat} {ps:List Nat} {ops:Array Oper}
def AtP(P:Program)(n:Nat)(ops:Array Oper)(c d:Nat)(j:Nat)(o:Oper)(a:AOper):Prop:=
 (j=c∧IsRaw P n ops o a)∨(j≠c∧bit (masksGo [] (ops.toList.map bindE)) j c=false∧cOper P n ops o=some a)∨(j≠c∧bit (masksGo [] (ops.toList.map bindE)) j c=true∧∃a',cOper P n ops o=some a'∧a'.guard=none∧newOf a'.op=none∧a=⟨a'.dst,a'.op,some (SK+d,false)⟩)
theorem cPos_spec{c d j:Nat}{o:Oper}{a:AOper}(h:cPos P n ps ops (masksGo [] (ops.toList.map bindE)) c d j o=some a):AtP P n ops c d j o a∧a.dst=o.dst:=by
 have hdst:∀{a},cOper P n ops o=some a→a.dst=o.dst:=by
  intro a h
  unfold cOper at h
  split at h
  ·cases hd:okDst n o.dst with
   | false=>rw[hd]at h; simp at h
   | true=>rw[hd]at h; simp only[cond_true,sJ]at h; subst h; rfl
  ·simp at h
 unfold cPos at h
 cases hb:Nat.beq j c with
 | true=>
  rw[hb]at h
  simp only[cond_true,cRaw]at h
  split at h
  ·rename_i f lo hraw
   obtain⟨args,ats,hoe,rfl⟩:=rawF_spec hraw
   split at h
   ·rename_i lx g hlx hg
    cases hc:Nat.blt f BIG&&okDst n o.dst with
    | false=>rw[hc]at h; simp at h
    | true=>
     rw[hc]at h
     simp only[cond_true,sJ]at h
     subst h
     simp only[Bool.and_eq_true]at hc
     exact⟨.inl ⟨Nat.eq_of_beq_eq_true hb,f,args,ats,lx,g,hoe,hlx,hg,hc.2,hc.1,rfl⟩,rfl⟩
   ·simp at h
  ·simp at h
 | false=>
  have hne:j≠c:=fun e=>by subst e; rw[Nat.beq_refl]at hb; simp at hb
  rw[hb]at h
  simp only[cond_false]at h
  split at h
  ·rename_i a' ha'
   cases hbt:bit (masksGo [] (ops.toList.map bindE)) j c with
   | false=>rw[hbt]at h; simp only[cond_false,sJ]at h; subst h; exact⟨.inr (.inl ⟨hne,hbt,ha'⟩),hdst ha'⟩
   | true=>
    rw[hbt]at h
    simp only[cond_true,gdOf]at h
    split at h
    ·rename_i hg hnw
     simp only[sJ]at h
     subst h
     exact⟨.inr (.inr ⟨hne,hbt,a',ha',hg,hnw,rfl⟩),(hdst ha':a'.dst=o.dst)⟩
    ·simp at h
  ·simp at h
theorem cPoss_spec{c d:Nat}:∀{rest:List Oper} {l:List AOper} {j:Nat},cPoss P n ps ops (masksGo [] (ops.toList.map bindE)) c d j rest=some l→l.length=rest.length∧∀k o,rest[k]?=some o→∃a,l[k]?=some a∧AtP P n ops c d (j+k) o a∧a.dst=o.dst:=by
 intro rest
 induction rest with
 | nil=>intro l j h; simp only[cPoss,sJ]at h; subst h; exact⟨rfl,fun k o h=>by simp at h⟩
 | cons o r ih=>
  intro l j h
  simp only[cPoss]at h
  split at h
  ·rename_i a l' ha hl
   simp only[sJ]at h
   subst h
   obtain⟨q1,q2⟩:=ih hl
   refine⟨by simp[q1],fun k o' hk=>?_⟩
   cases k with
   | zero=>
    simp only[List.getElem?_cons_zero,sJ]at hk
    subst hk
    exact⟨a,rfl,by rw[Nat.add_zero]; exact cPos_spec ha⟩
   | succ k=>
    simp only[List.getElem?_cons_succ]at hk ⊢
    obtain⟨a',z1,z2⟩:=q2 k o' hk
    exact⟨a',z1,by rw[show j+(k+1)=j+1+k by omega]; exact z2⟩
  ·simp at h
theorem onlyW_spec{c d:Nat}:∀{l:List AOper} {k:Nat},onlyW c d k l=true→∀i b,l[i]?=some b→b.dst=some d→k+i=c:=by
 intro l
 induction l with
 | nil=>intro k _ i b h; simp at h
 | cons a r ih=>
  intro k h i b hb hd
  simp only[onlyW,Bool.and_eq_true,Bool.or_eq_true,Bool.not_eq_true',beq_eq_false_iff_ne,ne_eq]at h
  cases i with
  | zero=>
   simp only[List.getElem?_cons_zero,sJ]at hb
   subst hb
   rcases h.1 with h1 | h1
   ·exact Nat.eq_of_beq_eq_true h1
   ·exact absurd hd h1
  | succ i=>
   simp only[List.getElem?_cons_succ]at hb
   have:=ih h.2 i b hb hd
   omega
theorem rawAt_spec{c d:Nat}:∀{rest:List Oper} {j:Nat},rawAt ps j rest=some (c,d)→∃k o,c=j+k∧rest[k]?=some o∧o.dst=some d:=by
 intro rest
 induction rest with
 | nil=>intro j h; simp[rawAt]at h
 | cons o r ih=>
  intro j h
  simp only[rawAt]at h
  split at h
  ·rename_i d' _ hd
   simp only[sJ,pJ]at h
   obtain⟨rfl,rfl⟩:=h
   exact⟨0,o,rfl,rfl,hd⟩
  ·obtain⟨k,o',h1,h2,h3⟩:=ih h
   exact⟨k+1,o',om,by simpa using h2,h3⟩
theorem cLast_spec{rest:List Oper}{l:List AOper}{st:Option (Nat×Nat)}(h:cLast P n ps ops rest=some (l,st)):(st=none∧cOpers P n ops rest=some l) ∨
  ∃c d ac,st=some (c,d)∧l.length=rest.length∧(∀k o,rest[k]?=some o→∃a,l[k]?=some a∧AtP P n ops c d k o a)∧l[c]?=some ac∧ac.dst=some d∧(∀i b,l[i]?=some b→b.dst=some d→i=c):=by
 have hp:cPlain P n ops rest=some (l,st)→st=none∧cOpers P n ops rest=some l:=by
  intro h
  unfold cPlain at h
  split at h
  ·rename_i l' hl
   simp only[sJ,pJ]at h
   obtain⟨rfl,rfl⟩:=h
   exact⟨rfl,hl⟩
  ·simp at h
 unfold cLast at h
 split at h
 ·rename_i c d hr
  split at h
  ·rename_i l' hl
   cases hw:onlyW c d 0 l' with
   | false=>rw[hw]at h; exact .inl (hp h)
   | true=>
    rw[hw]at h
    simp only[cond_true,sJ,pJ]at h
    obtain⟨rfl,rfl⟩:=h
    obtain⟨q1,q2⟩:=cPoss_spec hl
    obtain⟨k,o,hc,ho,hd⟩:=rawAt_spec hr
    rw[Nat.zero_add]at hc
    subst hc
    obtain⟨ac,z1,_,z2⟩:=q2 c o ho
    exact .inr ⟨c,d,ac,rfl,q1,fun k o hk=>by have:=q2 k o hk; rw[Nat.zero_add]at this; obtain⟨a,y1,y2,_⟩:=this; exact⟨a,y1,y2⟩,z1,by rw[z2]; exact hd,fun i b hb hbd=>by have:=onlyW_spec hw i b hb hbd; omega⟩
  ·exact .inl (hp h)
 ·exact .inl (hp h)
theorem claims_len:∀(m:List AOper) (b:Nat),(claims b m).length=m.length
 | [],_=>rfl
 | o::r,b=>by simp only[claims]; cases newOf o.op <;> simp[claims_len r]
theorem claims_get:∀(l:List AOper) (b k:Nat) (a:AOper),l[k]?=some a→∃c,b≤c∧(claims b l)[k]?=(claims c [a])[0]?
 | [],_,_,_,h=>by simp at h
 | o::r,b,0,a,h=>by
  simp only[List.getElem?_cons_zero,sJ]at h
  subst h
  refine⟨b,Nat.le_refl _,?_⟩
  simp only[claims]
  cases newOf o.op with
  | none=>rfl
  | some p=>rfl
 | o::r,b,k+1,a,h=>by
  simp only[List.getElem?_cons_succ]at h
  simp only[claims]
  cases newOf o.op with
  | none=>simp only[List.getElem?_cons_succ]; exact claims_get r b k a h
  | some p=>
   obtain⟨c,h1,h2⟩:=claims_get r (b+1) k a h
   exact⟨c,om,by simp only[List.getElem?_cons_succ]; exact h2⟩
theorem okPairs_at{l:List AOper}{ms:List Nat}(hp:okPairs l ms=true){i j:Nat}{a b:AOper}(hij:i<j)(hi:l[i]?=some a)(hj:l[j]?=some b):okPair ms i j a b=true:=by
 unfold okPairs at hp
 rw[List.all_eq_true]at hp
 have h1:=hp j (List.mem_range.2 (List.getElem?_eq_some_iff.1 hj).1)
 rw[hj]at h1
 simp only at h1
 rw[List.all_eq_true]at h1
 have h2:=h1 i (List.mem_range.2 hij)
 rw[hi]at h2
 exact h2
theorem claims_dst{l:List AOper}{b k:Nat}{a:AOper}(h:(claims b l)[k]?=some a):∃a',l[k]?=some a'∧a'.dst=a.dst:=by
 have hkl:k<l.length:=by have:=(List.getElem?_eq_some_iff.1 h).1; rwa [claims_len]at this
 obtain⟨b4,_,hg4⟩:=claims_get l b k _ (List.getElem?_eq_getElem hkl)
 refine⟨_,List.getElem?_eq_getElem hkl,?_⟩
 rw[h]at hg4
 simp only[claims]at hg4
 cases hz:newOf (l[k]).op with
 | none=>rw[hz]at hg4; simp only[List.getElem?_cons_zero,sJ]at hg4; rw[hg4]
 | some p=>rw[hz]at hg4; simp only[List.getElem?_cons_zero,sJ]at hg4; rw[hg4]
theorem claims_one{a:AOper}(h:newOf a.op=none)(b:Nat):claims b [a]=[a]:=by simp[claims,h]
theorem heap_still{tb:FuncId→Bool}{call:FuncId→List AVal→AHeap→Option (AVal×AHeap)}{m:List AOper}{U:Tr AVal}{K:AHeap}{ss:List (AVal×AHeap)}(htr:atrace tb call m U K=some ss){c:Nat}{H1:AHeap}{v:AVal}(hs:ss[c]?=some (v,H1))
  (h:∀k b,c<k→m[k]?=some b→isChain b.op=false∨gOK (tsel (fun i=>Nat.blt i (0+k)) 0 m ss U) b.guard=false):hAt K ss m.length=H1:=by
 obtain⟨hl,hat⟩:=trace_at m U K ss 0 htr
 have hc:c<ss.length:=(List.getElem?_eq_some_iff.1 hs).1
 have key:∀e,c+1+e≤m.length→hAt K ss (c+1+e)=H1:=by
  intro e
  induction e with
  | zero=>intro _; simp only[Nat.add_zero,hAt,hs]
  | succ e ih=>
   intro he
   have h0:=ih om
   have hb:m[c+1+e]?=some (m[c+1+e]'om):=List.getElem?_eq_getElem om
   rcases h _ _ om hb with h1 | h1
   ·have:=heap_between htr 1 (c+1+e) om fun q o q1 q2 q3=>by
     have:q=c+1+e:=om
     subst this
     rw[hb,sJ]at q3
     subst q3
     exact h1
    rw[← Nat.add_assoc,this,h0]
   ·obtain⟨v',H',z1,z2⟩:=hat _ _ hb
    simp only[astep,h1,cond_false,sJ,pJ]at z2
    rw[← Nat.add_assoc]
    simp only[hAt,z1]
    rw[← z2.2,h0]
 have:=key (m.length-(c+1)) om
 rwa [show c+1+(m.length-(c+1))=m.length by omega]at this
end
section
variable {P:Program} {Prot:Gh} {w0:World} {ρ:Pl} {H H':AHeap} {w:World}
theorem draw_simP(hfol:P.follows .mixedOrders=true){tb:FuncId→Bool}(htb:∀f,Nat.blt f BIG=true→tb f=true→hasBody P f=true)(htbP:∀f,Nat.blt f BIG=true→tb (BIG+f)=true→hasBody P f=true)
  {call:FuncId→List AVal→AHeap→Option (AVal×AHeap)} (hcall:CallOK P call) (hcallP:CallP P call) {n id:Nat} {ps:List Nat} {ops:Array Oper} {l:List AOper} {st:Option (Nat×Nat)}
  (hl:cLast P n ps ops ops.toList=some (l,st)) (hok:okMask (ops.toList.map bindE) (masksGo [] (ops.toList.map bindE))=true) (hokp:okPairs (claims 0 l) (masksGo [] (ops.toList.map bindE))=true) (hlT:l.all (aoperT n)=true)
  {T T1:Tr AVal} {H1:AHeap} {e:AEx} {a:Act} (R:Rel Prot w0 ρ H w) (hP:PSt ρ n T a)
  (h:adraw tb call (claims H.next l) ((List.range l.length).map (chkOf (claims 0 l) (masksGo [] (ops.toList.map bindE)))) T (reserves H l)=some (e,T1,H1)) :
  e=.normal∧(Code.region id ops true).wp P (fun e' a' w'=>∃ρ',ρ.le ρ'∧Rel Prot w0 ρ' H1 w' ∧
   ((e'=.normal∧PSt ρ' n T1 a')∨∃c d' x u,st=some (c,d')∧e'=.panic [{ v:=u,recovered:=false }]∧ev T1 (.t d')=panV x∧VRel ρ' x u∧a'.defers=a.defers∧ev T1 (.t (n+1))=ev T (.t (n+1)))) a w:=by
 obtain⟨U,hG,ht⟩:=hP.1.t
 obtain⟨he,U1,hU,hG1,hS⟩:=adraw_ge hG (claims_T l H.next hlT) h
 refine⟨he,?_⟩
 have hPn:∀(ρ':Pl) (a':Act),ρ.le ρ'→TmpsRel ρ' n U1 a'.tmps→a'.defers=a.defers→PSt ρ' n T1 a':=fun ρ' a' hle ht' hd'=>
  ⟨⟨⟨U1,hG1,ht'⟩,by rw[hd',hS (n+1) om]; exact hP.1.d.mono hle⟩,by rw[hS n rL]; exact hP.2⟩
 have hlen0:(claims 0 l).length=l.length:=claims_len l 0
 have hlk:=claims_like l H.next 0
 have hok2:okPairs (claims H.next l) (masksGo [] (ops.toList.map bindE))=true:=by rw[okPairs_like hlk]; exact hokp
 have hbase:∀d,Prot.dead d→d<H.next:=fun d hd=>(R.dead d hd).1
 have hone:∀{o a},cOper P n ops o=some a→cOpers P n ops [o]=some [a]:=fun ho=>by simp only[cOpers,ho]
 have hnc:NoClaim l:=by
  rcases cLast_spec hl with⟨_,h2⟩ | ⟨c,d,ac,_,h2,h3,_⟩
  ·exact opers_noClaim h2
  ·refine⟨fun x hx c' z s hcl=>?_,fun x hx=>?_⟩
   ·obtain⟨k,hk⟩:=List.getElem?_of_mem hx
    have hkl:=(List.getElem?_eq_some_iff.1 hk).1
    obtain⟨a,y1,y2⟩:=h3 k _ (List.getElem?_eq_getElem om)
    rw[hk,sJ]at y1
    subst y1
    rcases y2 with⟨_,f,args,ats,lx,g,_,_,_,_,_,rfl⟩ | ⟨_,_,y2⟩ | ⟨_,_,a',y2,_,_,rfl⟩
    ·simp at hcl
    ·exact (opers_noClaim (hone y2)).1 x (by simp) c' z s hcl
    ·exact (opers_noClaim (hone y2)).1 a' (by simp) c' z s hcl
   ·obtain⟨k,hk⟩:=List.getElem?_of_mem hx
    have hkl:=(List.getElem?_eq_some_iff.1 hk).1
    obtain⟨a,y1,y2⟩:=h3 k _ (List.getElem?_eq_getElem om)
    rw[hk,sJ]at y1
    subst y1
    rcases y2 with⟨_,f,args,ats,lx,g,_,_,_,_,_,rfl⟩ | ⟨_,_,y2⟩ | ⟨_,_,a',y2,_,_,rfl⟩
    ·rfl
    ·exact (opers_noClaim (hone y2)).2 x (by simp)
    ·exact (opers_noClaim (hone y2)).2 a' (by simp)
 have hrp:∃rp:Nat→Prop,(∀c,rp c→∃d,st=some (c,d))∧(∀c d,st=some (c,d)→rp c):=⟨fun c=>∃d,st=some (c,d),fun c h=>h,fun c d h=>⟨d,h⟩⟩
 obtain⟨rp,hrp1,hrp2⟩:=hrp
 have hopers:(claims H.next l).length=ops.toList.length∧∀(j:Nat) (o:Oper),ops.toList[j]?=some o→∃a,(claims H.next l)[j]?=some a∧((¬rp j∧(cOper P n ops o=some a∨(∃c,H.next≤c∧IsCl P n ops o a c)∨IsGd P n ops (claims H.next l) (masksGo [] (ops.toList.map bindE)) rp o a j))∨(st≠none∧rp j∧IsRaw P n ops o a)):=by
  rcases cLast_spec hl with⟨rfl,h2⟩ | ⟨c,d,ac,rfl,h2,h3,h4,h5,h6⟩
  ·obtain⟨q1,q2⟩:=claims_at h2 H.next
   exact⟨q1,fun j o hj=>let ⟨a,z1,z2⟩:=q2 j o hj; ⟨a,z1,.inl ⟨fun hr=>by obtain⟨d,hd⟩:=hrp1 j hr; simp at hd,z2.imp_right .inl⟩⟩⟩
  ·refine⟨by rw[claims_len]; exact h2,fun j o hj=>?_⟩
   obtain⟨a,y1,y2⟩:=h3 j o hj
   obtain⟨b,hb,hget⟩:=claims_get l H.next j a y1
   have hnr:j≠c→¬rp j:=fun hne hr=>by obtain⟨d',hd⟩:=hrp1 j hr; simp only[sJ,pJ]at hd; exact hne hd.1.symm
   rcases y2 with⟨rfl,y2⟩ | ⟨hne,_,y2⟩ | ⟨hne,hbit,a',y2,y3,y4,rfl⟩
   ·have hz:newOf a.op=none:=by obtain⟨f,args,ats,lx,g,_,_,_,_,_,rfl⟩:=y2; rfl
    rw[claims_one hz]at hget
    exact⟨a,by simpa using hget,.inr ⟨by simp,hrp2 _ _ rfl,y2⟩⟩
   ·obtain⟨_,q2⟩:=claims_at (hone y2) b
    obtain⟨a2,z1,z2⟩:=q2 0 o rfl
    refine⟨a2,by rw[hget,z1],.inl ⟨hnr hne,z2.imp_right fun ⟨c',w1,w2⟩=>.inl ⟨c',om,w2⟩⟩⟩
   ·rw[claims_one (a:=⟨a'.dst,a'.op,some (SK+d,false)⟩) y4]at hget
    have hcz:∃ac2,(claims H.next l)[c]?=some ac2∧ac2.dst=some d∧ac2.dst=ac.dst:=by
     obtain⟨b2,_,hg2⟩:=claims_get l H.next c ac h4
     simp only[claims]at hg2
     cases hz:newOf ac.op with
     | none=>rw[hz]at hg2; exact⟨ac,by simpa using hg2,h5,rfl⟩
     | some p=>rw[hz]at hg2; exact⟨⟨ac.dst,clOp b2 p.1 p.2 ac.op,ac.guard⟩,by simpa using hg2,h5,rfl⟩
    obtain⟨ac2,w1,w2,_⟩:=hcz
    refine⟨_,by simpa using hget,.inl ⟨hnr hne,.inr (.inr ⟨a',c,d,ac2,y2,y3,rfl,hbit,hrp2 _ _ rfl,w1,w2,fun k b' hk hbd=>?_⟩)⟩⟩
    obtain⟨b3,w3,w4⟩:=claims_dst hk
    exact h6 k b3 w3 (w4.trans hbd)
 have hraw:∀c d,st=some (c,d)→∃ac,(claims H.next l)[c]?=some ac∧ac.dst=some d∧isChain ac.op=true∧d<n∧(∀k b,(claims H.next l)[k]?=some b→b.dst=some d→k=c)∧∀k b,c<k→(claims H.next l)[k]?=some b→isChain b.op=true→b.guard=some (SK+d,false):=by
  intro c d hst
  rcases cLast_spec hl with⟨h0,_⟩ | ⟨c',d',ac,h1,h2,h3,h4,h5,h6⟩
  ·rw[hst]at h0; simp at h0
  ·rw[hst,sJ,pJ]at h1
   obtain⟨rfl,rfl⟩:=h1
   have hcl:=(List.getElem?_eq_some_iff.1 h4).1
   obtain⟨a,y1,y2⟩:=h3 c _ (List.getElem?_eq_getElem om)
   rw[h4,sJ]at y1
   subst y1
   rcases y2 with⟨_,f,args,ats,lx,g,_,_,_,q4,_,rfl⟩ | ⟨hne,_⟩ | ⟨hne,_⟩
   ·simp only at h5
    rw[h5]at q4
    obtain⟨b,_,hget⟩:=claims_get l H.next c _ h4
    rw[claims_one rfl]at hget
    have hc2:=hget
    simp only[List.getElem?_cons_zero]at hc2
    refine⟨_,hc2,h5,rfl,blt_lt q4,fun k b' hk hbd=>?_,fun k b' hck hk hch=>?_⟩
    ·obtain⟨b3,w3,w4⟩:=claims_dst hk
     exact h6 k b3 w3 (w4.trans hbd)
    ·have hpr:=okPairs_at hok2 hck hc2 hk
     simp only[okPair,Bool.or_eq_true,Bool.and_eq_true,Bool.not_eq_true']at hpr
     have hbit:bit (masksGo [] (ops.toList.map bindE)) k c=true:=by
      rcases hpr with hpr | ⟨hpr,_⟩
      ·exact hpr
      ·rw[hch]at hpr; simp[isChain,isPure,isLoad]at hpr
     obtain⟨b3,w3,_⟩:=claims_dst hk
     have hkl:=(List.getElem?_eq_some_iff.1 w3).1
     obtain⟨a2,z1,z2⟩:=h3 k _ (List.getElem?_eq_getElem om)
     rcases z2 with⟨rfl,_⟩ | ⟨_,hb0,_⟩ | ⟨_,_,a',_,_,x4,rfl⟩
     ·omega
     ·rw[hbit]at hb0; simp at hb0
     ·obtain⟨b5,_,hg5⟩:=claims_get l H.next k _ z1
      rw[claims_one (a:=⟨a'.dst,a'.op,some (SK+d,false)⟩) x4,hk]at hg5
      simp only[List.getElem?_cons_zero,sJ]at hg5
      rw[hg5]
   ·exact (hne rfl).elim
   ·exact (hne rfl).elim
 have R':=reserves_rel (pr:=Prot.prot) l Prot.dead H hnc R
 have hchk:(List.range l.length).map (chkOf (claims 0 l) (masksGo [] (ops.toList.map bindE)))=(List.range (claims H.next l).length).map (chkOf (claims H.next l) (masksGo [] (ops.toList.map bindE))):=by
  have:l.length=(claims H.next l).length:=by rw[← hlen0]; exact (hlk.len).symm
  rw[this]
  exact List.map_congr_left fun j _=>(chkOf_like hlk _ j).symm
 have hdis:=claims_inj l H.next hnc
 rw[hchk]at hU h
 generalize hcl:claims H.next l=m at *
 generalize hrv:reserves H l=K at *
 unfold adraw at hU
 cases hss:atrace tb call m U K with
 | none=>rw[hss]at hU; simp at hU
 | some ss=>
  rw[hss]at hU
  simp only at hU
  cases hr:chkRun tb (K::ss.map (·.2)) m ((List.range m.length).map (chkOf m (masksGo [] (ops.toList.map bindE)))) ss U with
  | false=>rw[hr]at hU; simp at hU
  | true=>
   rw[hr]at hU
   simp only[cond_true,sJ,pJ,true_and]at hU
   obtain⟨rfl,rfl⟩:=hU
   refine wp_region_any hfol ?_
   have hN:m.length=ops.size:=by simpa using hopers.1
   have hrep:∀i,(Array.replicate ops.size false).getD i false=false:=fun i=>by
    rw[Array.getD_eq_getD_getElem?,Array.getElem?_replicate]; split <;> rfl
   have hm0:(fun i=>(Array.replicate ops.size false).getD i false)=fun _=>false:=funext hrep
   have hst:stage (fun i=>(Array.replicate ops.size false).getD i false) 0 m=stage (fun _=>false) 0 m:=stage_congr m 0 fun c o _ _=>by simp only[hrep]
   have hH:hAt K ss (stage (fun _=>false) 0 m)=K:=by
    obtain⟨q1,q2,q3,q4⟩:=stage_spec (fun _=>false) m 0
    have:=heap_between hss (stage (fun _=>false) 0 m) 0 om fun c o _ hlt ho=>by
     cases hx:isChain o.op with
     | false=>rfl
     | true=>have:=q3 c o ho hx om; simp at this
    rw[Nat.zero_add]at this
    rw[this]; rfl
   have htl:TmpsRel ρ n (tsel (fun i=>(Array.replicate ops.size false).getD i false) 0 m ss U) a.tmps:=by
    refine ht.congr fun t=>?_
    rw[hm0]
    have:∀(l:List AOper) (ss:List (AVal×AHeap)) (k:Nat) (T:Tr AVal),tsel (fun _=>false) k l ss T=T:=by
     intro l
     induction l with
     | nil=>intro ss k T; cases ss <;> rfl
     | cons o r ih=>intro ss k T; cases ss with
      | nil=>rfl
      | cons s ss=>obtain⟨x,y⟩:=s; simp only[tsel,cond_false,ih]
    rw[this]
   refine draw_any (RAW:=st≠none) (rp:=rp) (ds:=a.defers) (Prot:=Prot) (w0:=w0) htb hcall (fun _=>htbP) (fun _=>hcallP) (base:=H.next) hopers.1 hopers.2 hbase hdis hok hok2 hss hr (ρ0:=ρ) (fun a' w' hx=>?_) (fun hd c a' w' ρ' x u hrc hle hx hv hda=>?_) ops.size _ a _ (by simp) ?_ (fun j _ hj=>by rw[hrep]at hj; simp at hj) (fun j _ hj=>by rw[hrep]at hj; simp at hj) ⟨ρ,Pl.le_refl _,?_,htl,rfl⟩
   ·obtain⟨ρ',q1,q2,q3,q4⟩:=hx
    exact⟨ρ',q1,q2,.inl ⟨rfl,hPn ρ' a' q1 q3 q4⟩⟩
   ·obtain⟨d',hst'⟩:=hrp1 c hrc
    obtain⟨ac,g1,g2,g3,g4,g5,g6⟩:=hraw c d' hst'
    obtain⟨H9,hx,R1⟩:=hx
    have hsel:∀mk:Nat→Bool,mk (0+c)=true→(tsel mk 0 m ss U).get d'=some (panV x):=fun mk hmk=>
     tsel_last m ss 0 c U ac (panV x) H9 g1 hx g2 hmk fun k b hk hkb hbd=>absurd (g5 k b hkb hbd) om
    have hstill:hAt K ss m.length=H9:=heap_still hss hx fun k b hk hkb=>by
     cases hch:isChain b.op with
     | false=>exact .inl rfl
     | true=>
      right
      obtain⟨k1,k2⟩:=gS_sk d'
      rw[g6 k b hk hkb hch]
      simp only[gOK,gV,k1,k2,cond_true,ev]
      rw[hsel _ (by simp only[Nat.zero_add]; exact Nat.ble_eq_true_of_le hk)]
      rfl
    refine⟨ρ',hle,by rw[hstill]; exact R1,.inr ⟨c,d',x,u,hst',rfl,?_,hv,hda,hS (n+1) om⟩⟩
    rw[hG1.1 d' g4]
    simp only[ev,hsel (fun _=>true) rfl]
   ·rw[hm0]
    have:∀k,unl (fun _=>false) k=k:=by
     intro k
     induction k with
     | zero=>rfl
     | succ k ih=>simp only[unl,ih,cond_false]
    exact this _
   ·rw[hst,hH,hm0]; exact R'.drew
end
end Go.Abs
namespace Go.Abs
section
variable {P:Program} {Prot:Gh} {w0:World} {ρ:Pl} {H H':AHeap} {w:World}
theorem codeP_sim(hfol:P.follows .mixedOrders=true){tb:FuncId→Bool}(htb:∀f,Nat.blt f BIG=true→tb f=true→hasBody P f=true)(htbP:∀f,Nat.blt f BIG=true→tb (BIG+f)=true→hasBody P f=true)
  {call:FuncId→List AVal→AHeap→Option (AVal×AHeap)} (hcall:CallOK P call) (hcallP:CallP P call) {n k:Nat} {ps:List Nat} :
  ∀(c:Code) (ac:ACode),cCodeP P n ps c=some ac→∀(ρ:Pl) (T T':Tr AVal) (H H':AHeap) (e:AEx) (a:Act) (w:World),
   Rel Prot w0 ρ H w→PSt ρ n T a→aexec tb call k ac T H=some (e,T',H')→c.wp P (SimP Prot w0 ρ n e T' H') a w:=by
 intro c
 induction c with
 | skip=>
  intro ac hc ρ T T' H H' e a w R hP h
  simp only[cCodeP,sJ]at hc; subst hc
  simp only[aexec,sJ,pJ]at h
  obtain⟨rfl,rfl,rfl⟩:=h
  exact wp_skip ⟨ρ,Pl.le_refl _,R,rfl,hP⟩
 | region id ops draw=>
  intro ac hc ρ T T' H H' e a w R hP h
  cases draw with
  | false=>
   simp only[cCodeP]at hc
   split at hc
   ·rename_i its hl
    simp only[sJ]at hc; subst hc
    refine wp_region ?_
    have:=items_sim (Prot:=Prot) (w0:=w0) htb htbP hcall hcallP ops.toList 0 its (fun j=>by simp) hl ρ ρ T T' H H' e a w (Pl.le_refl _) R hP h
    rw[List.range_eq_range']
    simpa using this
   ·simp at hc
  | true=>
   simp only[cCodeP,cDrawP]at hc
   split at hc
   ·rename_i l st hl
    cases hck:okMask (ops.toList.map bindE) (masksGo [] (ops.toList.map bindE))&&okPairs (claims 0 l) (masksGo [] (ops.toList.map bindE))&&l.all (aoperT n) with
    | false=>
     rw[hck]at hc
     simp only[cond_false,sJ]at hc; subst hc
     simp[stuck_none]at h
    | true=>
     rw[hck]at hc
     simp only[cond_true]at hc
     simp only[Bool.and_eq_true]at hck
     obtain⟨⟨hk1,hk2⟩,hk3⟩:=hck
     cases st with
     | none=>
      simp only[sJ]at hc; subst hc
      simp only[aexec]at h
      obtain⟨rfl,hw⟩:=draw_simP (id:=id) hfol htb htbP hcall hcallP hl hk1 hk2 hk3 R hP h
      refine wp_mono hw ?_
      rintro e' a' w' ⟨ρ',q1,q2,⟨rfl,q3⟩ | ⟨c',d',x,u,hd,_⟩⟩
      ·exact⟨ρ',q1,q2,rfl,q3⟩
      ·simp at hd
     | some cd=>
      obtain⟨cc,d⟩:=cd
      simp only[sJ]at hc; subst hc
      simp only[aexec]at h
      cases hdr:adraw tb call (claims H.next l) ((List.range l.length).map (chkOf (claims 0 l) (masksGo [] (ops.toList.map bindE)))) T (reserves H l) with
      | none=>rw[hdr]at h; simp at h
      | some r=>
       obtain⟨e1,T1,H1⟩:=r
       rw[hdr]at h
       obtain⟨rfl,hw⟩:=draw_simP (id:=id) hfol htb htbP hcall hcallP hl hk1 hk2 hk3 R hP hdr
       simp only at h
       rw[aregs_step',astep_none]at h
       simp only[aop,evs,aPf,vv,aIsP,aregs,aput]at h
       have e2:ev (T1.set (n+2) (.bool (isPan (ev T1 (.t d))))) (.t (n+2))=.bool (isPan (ev T1 (.t d))):=by rw[ev_set,if_pos rfl]
       rw[e2]at h
       refine wp_mono hw ?_
       rintro e' a' w' ⟨ρ',q1,q2,⟨rfl,q3⟩ | ⟨c',d',x,u,hd,rfl,q3,q4,q5,q6⟩⟩
       ·cases hp:isPan (ev T1 (.t d)) with
        | false=>
         rw[hp]at h
         simp only[sJ,pJ]at h
         obtain⟨rfl,rfl,rfl⟩:=h
         exact⟨ρ',q1,q2,rfl,q3.ghost rL _⟩
        | true=>
         exfalso
         obtain⟨U,hG,ht⟩:=q3.1.t
         obtain⟨y,hy⟩:=isPan_spec hp
         by_cases hdn:d<n
         ·have:=ht.at_ d
          rw[← hG.1 d hdn]at this
          exact pan_no this hy
         ·rcases cLast_spec hl with⟨h0,_⟩ | ⟨c2,d2,ao,h4,_,_,h6',h6,_⟩
          ·simp at h0
          ·simp only[sJ,pJ]at h4
           obtain⟨rfl,rfl⟩:=h4
           have:=List.all_eq_true.1 hk3 ao (List.mem_of_getElem? h6')
           simp only[aoperT,Bool.and_eq_true,h6]at this
           exact hdn (blt_lt this.2.2)
       ·simp only[sJ,pJ]at hd
        obtain⟨rfl,rfl⟩:=hd
        have hp:isPan (ev T1 (.t d))=true:=by rw[q3]; rfl
        rw[hp]at h
        simp only[gOK,cond_true,aIsU]at h
        have e3:ev ((T1.set (n+2) (.bool true)).set (n+2) (.bool (isU (ev (T1.set (n+2) (.bool true)) (.t (n+1)))))) (.t (n+2))=.bool (isU (ev (T1.set (n+2) (.bool true)) (.t (n+1)))):=by rw[ev_set,if_pos rfl]
        rw[e3]at h
        have e4:ev (T1.set (n+2) (.bool true)) (.t (n+1))=ev T1 (.t (n+1)):=by rw[ev_set,if_neg om]
        rw[e4]at h
        cases hu:isU (ev T1 (.t (n+1))) with
        | false=>rw[hu]at h; simp[stuckC,aexec,aregs,gOK,aop]at h
        | true=>
         rw[hu]at h
         simp only[aregs,gOK,cond_true,aop,aput]at h
         simp only[sJ,pJ]at h
         obtain⟨rfl,rfl,rfl⟩:=h
         have hund:ev T1 (.t (n+1))=undefA:=by
          unfold isU at hu
          split at hu
          ·rename_i h9; rw[h9]; rfl
          ·simp at hu
         have hdn:∃v,ev ((T1.set (n+2) (.bool true)).set (n+2) (.bool true)) (.t d)=v:=⟨_,rfl⟩
         have hdlt:d<n:=by
          rcases cLast_spec hl with⟨h0,_⟩ | ⟨c2,d2,ao,h4,_,_,h6',h6,_⟩
          ·simp at h0
          ·simp only[sJ,pJ]at h4
           obtain⟨rfl,rfl⟩:=h4
           have:=List.all_eq_true.1 hk3 ao (List.mem_of_getElem? h6')
           simp only[aoperT,Bool.and_eq_true,h6]at this
           exact blt_lt this.2.2
         refine⟨ρ',q1,q2,.inr ⟨rfl,.inr ⟨u,rfl,x,?_,q4,.inl ⟨?_,?_⟩⟩⟩⟩
         ·rw[ev_set,if_pos rfl,ev_set,if_neg om,ev_set,if_neg om]; exact q3
         ·rw[q5]
          have:=hP.1.d
          rw[← q6,hund]at this
          rcases this with⟨_,h9⟩ | ⟨f,fa,fb,d9,cap,h9,_⟩
          ·exact h9
          ·simp[undefA]at h9
         ·rw[ev_set,if_neg om,ev_set,if_neg om,ev_set,if_neg om]; exact hund
   ·simp at hc
 | seq x y ihx ihy=>
  intro ac hc ρ T T' H H' e a w R hP h
  simp only[cCodeP]at hc
  split at hc
  ·rename_i ax ay hx hy
   simp only[sJ]at hc; subst hc
   simp only[aexec]at h
   split at h
   ·rename_i T1 H1 h1
    refine wp_seq (wp_mono (ihx _ hx ρ T T1 H H1 .normal a w R hP h1) ?_)
    rintro e1 a1 w1 ⟨ρ1,hl,R1,rfl,hP1⟩
    exact wp_mono (ihy _ hy ρ1 T1 T' H1 H' e a1 w1 R1 hP1 h) fun _ _ _ q=>q.weaken hl
   ·rename_i e1 T1 H1 hne h1
    simp only[sJ,pJ]at h
    obtain⟨rfl,rfl,rfl⟩:=h
    refine wp_seq (wp_mono (ihx _ hx ρ T T1 H H1 e1 a w R hP h1) ?_)
    rintro e2 a1 w1 q
    obtain⟨ρ1,q1,q2,q3⟩:=q
    cases e1 with
    | normal=>exact (hne rfl).elim
    | ret=>exact q3.elim
    | exit id=>
     rcases q3 with⟨z1,rfl,z2⟩ | ⟨z1,⟨rfl,z2⟩ | ⟨u,rfl,z2⟩⟩
     ·exact⟨ρ1,q1,q2,.inl ⟨z1,rfl,z2⟩⟩
     ·exact⟨ρ1,q1,q2,.inr ⟨z1,.inl ⟨rfl,z2⟩⟩⟩
     ·exact⟨ρ1,q1,q2,.inr ⟨z1,.inr ⟨u,rfl,z2⟩⟩⟩
   ·simp at h
  ·simp at hc
 | cond c x y ihx ihy=>
  intro ac hc ρ T T' H H' e a w R hP h
  simp only[cCodeP]at hc
  split at hc
  ·rename_i c' ax ay hcc hx hy
   cases hT:opdT n c' with
   | false=>rw[hT]at hc; simp at hc
   | true=>
    rw[hT]at hc
    simp only[cond_true,sJ]at hc; subst hc
    simp only[aexec]at h
    obtain⟨U,hG,ht⟩:=hP.1.t
    have hv:=opd_ok ht hcc
    rw[← hG.x hT]at hv
    split at h
    ·rename_i hb
     rw[hb]at hv
     simp only[VRel]at hv
     exact wp_cond_true hv (ihx _ hx ρ T T' H H' e a w R hP h)
    ·rename_i hb
     rw[hb]at hv
     simp only[VRel]at hv
     exact wp_cond_false hv (ihy _ hy ρ T T' H H' e a w R hP h)
    ·simp at h
  ·simp at hc
 | block id c ih=>
  intro ac hc ρ T T' H H' e a w R hP h
  simp only[cCodeP]at hc
  split at hc
  ·rename_i ax hx
   cases hid:Nat.beq id PB with
   | true=>rw[hid]at hc; simp at hc
   | false=>
    rw[hid]at hc
    simp only[cond_false,sJ]at hc; subst hc
    have hidn:¬id=PB:=fun e=>by rw[e,Nat.beq_refl]at hid; simp at hid
    simp only[aexec]at h
    split at h
    ·rename_i j T1 H1 h1
     refine wp_block (wp_mono (ih _ hx ρ T T1 H H1 (.exit j) a w R hP h1) ?_)
     rintro e1 a1 w1 ⟨ρ1,q1,q2,q3⟩
     cases hb:Nat.beq j id with
     | true=>
      rw[hb]at h
      simp only[cond_true,sJ,pJ]at h
      obtain⟨rfl,rfl,rfl⟩:=h
      have:=Nat.eq_of_beq_eq_true hb
      subst this
      rcases q3 with⟨_,rfl,z2⟩ | ⟨z1,_⟩
      ·simp only[Exit.inBlock,if_true]
       exact⟨ρ1,q1,q2,rfl,z2⟩
      ·exact (hidn z1).elim
     | false=>
      rw[hb]at h
      simp only[cond_false,sJ,pJ]at h
      obtain⟨rfl,rfl,rfl⟩:=h
      have:¬j=id:=fun e=>by rw[e,Nat.beq_refl]at hb; simp at hb
      rcases q3 with⟨z1,rfl,z2⟩ | ⟨z1,⟨rfl,z2⟩ | ⟨u,rfl,z2⟩⟩
      ·simp only[Exit.inBlock,this,if_false]
       exact⟨ρ1,q1,q2,.inl ⟨z1,rfl,z2⟩⟩
      ·exact⟨ρ1,q1,q2,.inr ⟨z1,.inl ⟨rfl,z2⟩⟩⟩
      ·exact⟨ρ1,q1,q2,.inr ⟨z1,.inr ⟨u,rfl,z2⟩⟩⟩
    ·rename_i e1 T1 H1 hne h1
     simp only[sJ,pJ]at h
     obtain⟨rfl,rfl,rfl⟩:=h
     refine wp_block (wp_mono (ih _ hx ρ T T1 H H1 e1 a w R hP h1) ?_)
     rintro e2 a1 w1 ⟨ρ1,q1,q2,q3⟩
     cases e1 with
     | normal=>obtain⟨rfl,z⟩:=q3; exact⟨ρ1,q1,q2,rfl,z⟩
     | exit j=>exact (hne _ rfl).elim
     | ret=>exact q3.elim
    ·simp at h
  ·simp at hc
 | loop c ih=>
  intro ac hc ρ T T' H H' e a w R hP h
  simp only[cCodeP]at hc
  split at hc
  ·rename_i ax hx
   simp only[sJ]at hc; subst hc
   simp only[aexec]at h
   refine wp_loop_rounds k ?_
   have key:∀(m:Nat) (T:Tr AVal) (H:AHeap) (ρ1:Pl) (a:Act) (w:World),ρ.le ρ1→Rel Prot w0 ρ1 H w→PSt ρ1 n T a →
     aloop (aexec tb call k ax) m T H=some (e,T',H')→Code.rounds P c (SimP Prot w0 ρ n e T' H') m a w:=by
    intro m
    induction m with
    | zero=>intro T H ρ1 a w _ _ _ h; simp[aloop]at h
    | succ m ihm=>
     intro T H ρ1 a w hl R hP h
     rw[rounds_succ]
     simp only[aloop]at h
     split at h
     ·rename_i T1 H1 h1
      refine wp_mono (ih _ hx ρ1 T T1 H H1 .normal a w R hP h1) ?_
      rintro e1 a1 w1 ⟨ρ2,hl2,R1,rfl,hP1⟩
      exact ihm T1 H1 ρ2 a1 w1 (Pl.le_trans hl hl2) R1 hP1 h
     ·rename_i e1 T1 H1 hne h1
      simp only[sJ,pJ]at h
      obtain⟨rfl,rfl,rfl⟩:=h
      refine wp_mono (ih _ hx ρ1 T T1 H H1 e1 a w R hP h1) ?_
      rintro e2 a1 w1 q
      obtain⟨ρ2,q1,q2,q3⟩:=q.weaken hl
      cases e1 with
      | normal=>exact (hne rfl).elim
      | ret=>exact q3.elim
      | exit id=>
       rcases q3 with⟨z1,rfl,z2⟩ | ⟨z1,⟨rfl,z2⟩ | ⟨u,rfl,z2⟩⟩
       ·exact⟨ρ2,q1,q2,.inl ⟨z1,rfl,z2⟩⟩
       ·exact⟨ρ2,q1,q2,.inr ⟨z1,.inl ⟨rfl,z2⟩⟩⟩
       ·exact⟨ρ2,q1,q2,.inr ⟨z1,.inr ⟨u,rfl,z2⟩⟩⟩
     ·simp at h
   exact key k T H ρ a w (Pl.le_refl _) R hP h
  ·simp at hc
 | exit id=>
  intro ac hc ρ T T' H H' e a w R hP h
  simp only[cCodeP]at hc
  cases hid:Nat.beq id PB with
  | true=>rw[hid]at hc; simp at hc
  | false=>
   rw[hid]at hc
   simp only[cond_false,sJ]at hc; subst hc
   have hidn:¬id=PB:=fun e=>by rw[e,Nat.beq_refl]at hid; simp at hid
   simp only[aexec,sJ,pJ]at h
   obtain⟨rfl,rfl,rfl⟩:=h
   exact wp_exit ⟨ρ,Pl.le_refl _,R,.inl ⟨hidn,rfl,hP⟩⟩
 | ret=>
  intro ac hc ρ T T' H H' e a w R hP h
  simp only[cCodeP,sJ]at hc; subst hc
  simp only[aexec,sJ,pJ]at h
  obtain⟨rfl,rfl,rfl⟩:=h
  exact wp_ret ⟨ρ,Pl.le_refl _,R,.inr ⟨rfl,.inl ⟨rfl,hP⟩⟩⟩
 | _=>
  intro ac hc ρ T T' H H' e a w R hP h
  simp only[cCodeP,sJ]at hc; subst hc
  simp[stuck_none]at h
end
end Go.Abs
namespace Go.Abs
def resT(n:Nat):List ARes→Bool
 | []=>true
 | .t i::r=>Nat.blt i n&&resT n r
 | .cell _ _ i::r=>Nat.blt i n&&resT n r
def resOps(b:Nat):List ARes→List AOper
 | []=>[]
 | .t i::r=>⟨some b,.mv (.t i),none⟩::resOps (b+1) r
 | .cell g m i::r=>⟨some b,.load g m (.t i),none⟩::resOps (b+1) r
def resXs(b:Nat):Nat→List Opd
 | 0=>[]
 | k+1=>.t b::resXs (b+1) k
def finC(n:Nat)(res:List ARes):ACode:=.seq (.reg (resOps (n+4) res++[⟨some (n+3),.pf .tup (resXs (n+4) res.length),none⟩])) .ret
def capOps(n b i:Nat):Nat→List AOper
 | 0=>[]
 | k+1=>⟨some b,.pf (.capt i) [.t (n+1)],none⟩::capOps n (b+1) (i+1) k
def capsC(n G k:Nat):List AOper:=⟨some (n+2),.pf (.isF G k) [.t (n+1)],none⟩::capOps n (n+4) 0 k
def tailC(n:Nat)(res:List ARes)(raw:Bool)(df:Option (Nat×Nat×Bool)):ACode:=
 .seq (.reg [⟨some (n+2),.pf .isU [.t (n+1)],none⟩]) (.cond (.t (n+2))
  (.seq (.reg [⟨some (n+2),.pf .isU [.t n],none⟩]) (.cond (.t (n+2)) (finC n res) (bif raw then .seq (.reg [⟨some (n+3),.mv (.t n),none⟩]) .ret else stuckC)))
  (match df with
   | none=>stuckC
   | some (G,k,false)=>.seq (.reg [⟨some (n+2),.pf .isU [.t n],none⟩]) (.cond (.t (n+2)) (.seq (.reg (capsC n G k++[⟨none,.call (3*BIG+G) (resXs (n+4) k),none⟩])) (finC n res)) stuckC)
   | some (G,k,true)=>.seq (.reg (⟨some (n+3),.pf .unP [.t n],none⟩::(capsC n G k++[⟨none,.call (2*BIG+G) (resXs (n+4) k++[.t (n+3)]),none⟩]))) (finC n res)))
section
variable {tb:FuncId→Bool} {call:FuncId→List AVal→AHeap→Option (AVal×AHeap)} {n:Nat}
theorem tupV_eq(l:List AVal):tupV l=aresV l:=by
 match l with
 | []=>rfl
 | [x]=>rfl
 | x::y::r=>rfl
theorem resOps_run{U:Tr AVal}{H H1:AHeap}:∀(res:List ARes) (b:Nat) {T T1:Tr AVal},GE n T U→n≤b→resT n res=true→aregs tb call (resOps b res) T H=some (T1,H1) →
  H1=H∧∃xs,ares U H res=some xs∧evs T1 (resXs b res.length)=xs∧∀t,t<b→ev T1 (.t t)=ev T (.t t)
 | [],b,T,T1,_,_,_,h=>by
  simp only[resOps,aregs,sJ,pJ]at h
  obtain⟨rfl,rfl⟩:=h
  exact⟨rfl,[],rfl,rfl,fun _ _=>rfl⟩
 | .t i::r,b,T,T1,hG,hb,hr,h=>by
  simp only[resT,Bool.and_eq_true]at hr
  simp only[resOps]at h
  rw[aregs_step',astep_none]at h
  simp only[aop]at h
  obtain⟨q1,xs,q2,q3,q4⟩:=resOps_run r (b+1) (hG.ghost hb _) om hr.2 h
  refine⟨q1,ev U (.t i)::xs,by simp only[ares,q2],?_,fun t ht=>?_⟩
  ·simp only[List.length_cons,resXs,evs,q3]
   rw[q4 b om,ev_set,if_pos rfl,hG.1 i (blt_lt hr.1)]
  ·rw[q4 t om,ev_set,if_neg om]
 | .cell g m i::r,b,T,T1,hG,hb,hr,h=>by
  simp only[resT,Bool.and_eq_true]at hr
  simp only[resOps]at h
  rw[aregs_step',astep_none]at h
  simp only[aop,vv]at h
  cases hl:oLoad g m H (ev T (.t i)) with
  | none=>rw[hl]at h; simp at h
  | some v=>
   rw[hl]at h
   simp only at h
   obtain⟨q1,xs,q2,q3,q4⟩:=resOps_run r (b+1) (hG.ghost hb _) om hr.2 h
   rw[hG.1 i (blt_lt hr.1)]at hl
   refine⟨q1,v::xs,by simp only[ares,hl,q2],?_,fun t ht=>?_⟩
   ·simp only[List.length_cons,resXs,evs,q3]
    rw[q4 b om,ev_set,if_pos rfl]
   ·rw[q4 t om,ev_set,if_neg om]
theorem fin_run{U T T':Tr AVal}{H H':AHeap}{e:AEx}{k:Nat}{res:List ARes}(hG:GE n T U)(hr:resT n res=true)(h:aexec tb call k (finC n res) T H=some (e,T',H')) :
  e=.ret∧H'=H∧∃xs,ares U H res=some xs∧ev T' (.t (n+3))=aresV xs:=by
 simp only[finC,aexec]at h
 rw[aregs_app]at h
 cases hs:aregs tb call (resOps (n+4) res) T H with
 | none=>rw[hs]at h; simp at h
 | some p=>
  obtain⟨T1,H1⟩:=p
  rw[hs]at h
  obtain⟨rfl,xs,q2,q3,q4⟩:=resOps_run res (n+4) hG om hr hs
  simp only at h
  rw[aregs_step',astep_none]at h
  simp only[aop,aPf,vv,q3,aregs,aput,sJ,pJ]at h
  obtain⟨rfl,rfl,rfl⟩:=h
  exact⟨rfl,rfl,xs,q2,by rw[ev_set,if_pos rfl,tupV_eq]⟩
theorem capOps_run{f:Fn}{l:List AVal}{H H1:AHeap}:∀(k b i:Nat) {T T1:Tr AVal},ev T (.t (n+1))=.func f [] l→n+1<b→aregs tb call (capOps n b i k) T H=some (T1,H1) →
  H1=H∧evs T1 (resXs b k)=(l.drop i).take k∧∀t,t<b→ev T1 (.t t)=ev T (.t t)
 | 0,b,i,T,T1,_,_,h=>by
  simp only[capOps,aregs,sJ,pJ]at h
  obtain⟨rfl,rfl⟩:=h
  exact⟨rfl,by simp[resXs,evs],fun _ _=>rfl⟩
 | k+1,b,i,T,T1,hd,hb,h=>by
  simp only[capOps]at h
  rw[aregs_step',astep_none]at h
  simp only[aop,evs,aPf,vv,hd,aCapt]at h
  cases hx:l[i]? with
  | none=>rw[hx]at h; simp at h
  | some x=>
   rw[hx]at h
   simp only[aput]at h
   obtain⟨q1,q2,q3⟩:=capOps_run k (b+1) (i+1) (T:=T.set b x) (by rw[ev_set,if_neg om]; exact hd) om h
   refine⟨q1,?_,fun t ht=>by rw[q3 t om,ev_set,if_neg om]⟩
   simp only[resXs,evs,q2]
   rw[q3 b om,ev_set,if_pos rfl]
   obtain⟨hi,hxi⟩:=List.getElem?_eq_some_iff.1 hx
   rw[List.drop_eq_getElem_cons hi,List.take_succ_cons,hxi]
theorem caps_run{G k:Nat}{H H1:AHeap}{T T1:Tr AVal}(h:aregs tb call (capsC n G k) T H=some (T1,H1)) :
  ∃l,ev T (.t (n+1))=.func (.func G) [] l∧l.length=k∧H1=H∧evs T1 (resXs (n+4) k)=l∧∀t,t<n+4→t≠n+2→ev T1 (.t t)=ev T (.t t):=by
 unfold capsC at h
 rw[aregs_step',astep_none]at h
 simp only[aop,evs,aPf,vv]at h
 cases hd:aIsF G k [ev T (.t (n+1))] with
 | none=>rw[hd]at h; simp at h
 | some v=>
  rw[hd]at h
  simp only[aput]at h
  unfold aIsF at hd
  split at hd
  ·rename_i f l heq
   simp only[List.cons.injEq,and_true]at heq
   cases hb:Nat.beq f G&&Nat.beq l.length k with
   | false=>rw[hb]at hd; simp at hd
   | true=>
    simp only[Bool.and_eq_true]at hb
    have e1:=Nat.eq_of_beq_eq_true hb.1
    have e2:=Nat.eq_of_beq_eq_true hb.2
    subst e1
    obtain⟨q1,q2,q3⟩:=capOps_run k (n+4) 0 (f:=.func f) (l:=l) (by rw[ev_set,if_neg om]; exact heq) om h
    refine⟨l,heq,e2,q1,?_,fun t ht hne=>by rw[q3 t ht,ev_set,if_neg hne]⟩
    rw[q2,List.drop_zero,List.take_of_length_le om]
  ·simp at hd
end
section
def arity(P:Program)(G:Nat):Nat:=match P.funcs[G]? with
 | some f=>f.params.size+f.nfree
 | none=>0
def CallD(P:Program)(call:FuncId→List AVal→AHeap→Option (AVal×AHeap)):Prop:=
 ∀G args H v H',Nat.blt G BIG=true→call (3*BIG+G) args H=some (v,H')→∀Prot w0 ρ w (vs:Array Value),Rel Prot w0 ρ H w→VRels ρ args vs.toList →
  CallsD P G vs .returning w fun e u' w'=>u'=.returning∧∃ρ' y,ρ.le ρ'∧e=.returned y∧Rel Prot w0 ρ' H' w'
def RecU(u:FrameMode)(xv:Value):Prop:=(u=.returning∧xv=.nilIface)∨u=.panicking [{ v:=xv,recovered:=false }]
def CallR(P:Program)(call:FuncId→List AVal→AHeap→Option (AVal×AHeap)):Prop:=
 ∀G args x H v H',Nat.blt G BIG=true→args.length=arity P G→call (2*BIG+G) (args++[x]) H=some (v,H')→∀Prot w0 ρ w (vs:Array Value) xv u,Rel Prot w0 ρ H w→VRels ρ args vs.toList→VRel ρ x xv→RecU u xv →
  CallsD P G vs u w fun e u' w'=>settle u'=.returning∧∃ρ' y,ρ.le ρ'∧e=.returned y∧Rel Prot w0 ρ' H' w'
variable {P:Program} {Prot:Gh} {w0:World} {ρ:Pl} {H H':AHeap} {w:World} {n:Nat}
def Out(Prot:Gh)(w0:World)(raw:Bool)(ρ:Pl)(H:AHeap)(v:AVal):Ending→World→Prop:=fun e w'=>
 ∃ρ',ρ.le ρ'∧Rel Prot w0 ρ' H w'∧((∃y,e=.returned y∧VRel ρ' v y)∨(raw=true∧∃x y,v=panV x∧e=.panicked [{ v:=y,recovered:=false }]∧VRel ρ' x y))
def dfOk(P:Program):Option (Nat×Nat×Bool)→Bool
 | none=>true
 | some (G,k,true)=>Nat.blt G BIG&&Nat.beq k (arity P G)
 | some (G,_,false)=>Nat.blt G BIG
theorem isU_spec{x:AVal}(h:isU x=true):x=undefA:=by
 unfold isU at h
 split at h
 ·rfl
 ·simp at h
theorem tail_sim{tb:FuncId→Bool}{call:FuncId→List AVal→AHeap→Option (AVal×AHeap)}{k:Nat}(hcD:CallD P call)(hcR:CallR P call)(hbD:∀f,Nat.blt f BIG=true→tb (3*BIG+f)=true→hasBody P f=true)(hbR:∀f,Nat.blt f BIG=true→tb (2*BIG+f)=true→hasBody P f=true)
  {fc:Func} {res:List ARes} (hres:cRes P fc.results.toList=some res) (hrT:resT n res=true) {raw:Bool} {df:Option (Nat×Nat×Bool)} (hdf:dfOk P df=true) {T T':Tr AVal} {e:AEx}
  (h:aexec tb call k (tailC n res raw df) T H=some (e,T',H')) (R:Rel Prot w0 ρ H w) {a:Act} {u:FrameMode} (hst:(PSt ρ n T a∧u=.returning)∨∃uv,PPan ρ n T a uv∧u=.panicking [{ v:=uv,recovered:=false }]) :
  e=.ret∧Leaves P fc a.tmps (Out Prot w0 raw ρ H' (ev T' (.t (n+3)))) a.defers u w:=by
 simp only[tailC,aexec]at h
 rw[aregs_step',astep_none]at h
 simp only[aop,evs,aPf,vv,aIsU,aregs,aput]at h
 rw[ev_set,if_pos rfl]at h
 have e1:∀b,ev (T.set (n+2) b) (.t n)=ev T (.t n):=fun b=>by rw[ev_set,if_neg om]
 have e11:∀b c,ev ((T.set (n+2) b).set (n+2) c) (.t (n+2))=c:=fun b c=>by rw[ev_set,if_pos rfl]
 have e12:∀b c,ev ((T.set (n+2) b).set (n+2) c) (.t n)=ev T (.t n):=fun b c=>by rw[ev_set,if_neg om,e1]
 have isP:∀x,isU (panV x)=false:=fun x=>rfl
 cases hu:isU (ev T (.t (n+1))) with
 | true=>
  rw[hu]at h
  have hund:=isU_spec hu
  simp only[gOK,cond_true,e1,e11]at h
  cases hu2:isU (ev T (.t n)) with
  | true=>
   rw[hu2]at h
   rcases hst with⟨hP,rfl⟩ | ⟨uv,⟨x,q1,_⟩,_⟩
   ·obtain⟨U,hG,ht⟩:=hP.1.t
    obtain⟨rfl,rfl,xs,z1,z2⟩:=fin_run ((hG.ghost (d:=n+2) om _).ghost (d:=n+2) om _) hrT h
    have hds:a.defers=[]:=by
     have:=hP.1.d
     rw[hund]at this
     rcases this with⟨_,h9⟩ | ⟨f,fa,fb,d,cap,h9,_⟩
     ·exact h9
     ·simp[undefA]at h9
    obtain⟨v,r1,r2⟩:=results_sim (P:=P) R ht hres z1
    refine⟨rfl,?_⟩
    rw[hds]
    exact⟨v,r1,ρ,Pl.le_refl _,R,.inl ⟨v,rfl,by rw[z2]; exact r2⟩⟩
   ·rw[q1,isP]at hu2; simp at hu2
  | false=>
   rw[hu2]at h
   rcases hst with⟨hP,rfl⟩ | ⟨uv,⟨x,q1,q2,q3⟩,rfl⟩
   ·rw[hP.2]at hu2; simp[isU,undefA]at hu2
   ·cases raw with
    | false=>simp[stuckC,aexec,aregs,gOK,aop]at h
    | true=>
     simp only[cond_true,aexec,aregs,gOK,aop,aput,e12,sJ,pJ]at h
     obtain⟨rfl,rfl,rfl⟩:=h
     have hds:a.defers=[]:=by
      rcases q3 with⟨h9,_⟩ | hg
      ·exact h9
      ·have:=hg.d
       rw[hund]at this
       rcases this with⟨_,h9⟩ | ⟨f,fa,fb,d,cap,h9,_⟩
       ·exact h9
       ·simp[undefA]at h9
     refine⟨rfl,?_⟩
     rw[hds]
     exact⟨ρ,Pl.le_refl _,R,.inr ⟨rfl,x,uv,by rw[ev_set,if_pos rfl]; exact q1,rfl,q2⟩⟩
 | false=>
  rw[hu]at h
  have hnu:ev T (.t (n+1))≠undefA:=fun e=>by rw[e]at hu; simp[isU,undefA]at hu
  have hGT:GT ρ n T a:=by
   rcases hst with⟨hP,_⟩ | ⟨uv,⟨x,q1,q2,⟨_,q3⟩ | q3⟩,_⟩
   ·exact hP.1
   ·exact (hnu q3).elim
   ·exact q3
  obtain⟨U,hG,ht⟩:=hGT.t
  obtain⟨f,fa,fb,d,cap,d1,d2,d3,d4,d5⟩:∃f a' b d cap,ev T (.t (n+1))=.func (.func f) a' b∧a.defers=[d]∧d.target=.fn (.func f) cap∧VRels ρ b cap.toList∧VRels ρ a' d.args.toList:=by
   rcases hGT.d with⟨h9,_⟩ | h9
   ·exact (hnu h9).elim
   ·exact h9
  have rest:∀{T5:Tr AVal} {H5:AHeap} {e5:AEx},GE n T5 U→aexec tb call k (finC n res) T5 H5=some (e5,T',H')→e5=.ret∧∀(ρ':Pl) (w':World),ρ.le ρ'→Rel Prot w0 ρ' H5 w'→Leaves P fc a.tmps (Out Prot w0 raw ρ H' (ev T' (.t (n+3)))) [] .returning w':=by
   intro T5 H5 e5 hG5 h5
   obtain⟨rfl,rfl,xs,z1,z2⟩:=fin_run hG5 hrT h5
   refine⟨rfl,fun ρ' w' hle R'=>?_⟩
   obtain⟨v,r1,r2⟩:=results_sim (P:=P) R' (ht.mono hle) hres z1
   exact⟨v,r1,ρ',hle,R',.inl ⟨v,rfl,by rw[z2]; exact r2⟩⟩
  rcases df with _ | ⟨G,kk,_ | _⟩
  ·simp[stuckC,aexec,aregs,gOK,aop]at h
  ·skip
   simp only[dfOk]at hdf
   simp only[aexec]at h
   rw[aregs_step',astep_none]at h
   simp only[aop,evs,aPf,vv,aIsU,aregs,aput,e1,e11]at h
   cases hu2:isU (ev T (.t n)) with
   | false=>rw[hu2]at h; simp[stuckC,aexec,aregs,gOK,aop]at h
   | true=>
    rw[hu2]at h
    simp only at h
    rw[aregs_app]at h
    cases hs:aregs tb call (capsC n G kk) ((T.set (n+2) (.bool false)).set (n+2) (.bool true)) H with
    | none=>rw[hs]at h; simp at h
    | some p=>
     obtain⟨T4,H4⟩:=p
     rw[hs]at h
     obtain⟨l,c1,c2,rfl,c4,c5⟩:=caps_run hs
     have c1':ev T (.t (n+1))=.func (.func G) [] l:=by rw[← c1,ev_set,if_neg om,ev_set,if_neg om]
     rw[c1']at d1
     simp only[AVal.func.injEq,Fn.func.injEq]at d1
     obtain⟨rfl,rfl,rfl⟩:=d1
     simp only at h
     rw[aregs_step',astep_none]at h
     simp only[aop,c4]at h
     cases hb:tb (3*BIG+G) with
     | false=>rw[hb]at h; simp at h
     | true=>
      rw[hb]at h
      simp only[cond_true]at h
      cases hcl:call (3*BIG+G) l H4 with
      | none=>rw[hcl]at h; simp at h
      | some q=>
       obtain⟨v,H5⟩:=q
       rw[hcl]at h
       simp only[aput,aregs]at h
       have hG4:GE n T4 U:=⟨fun t ht'=>by rw[c5 t om om,ev_set,if_neg om,ev_set,if_neg om]; exact hG.1 t ht',hG.2⟩
       obtain⟨rfl,hrest⟩:=rest hG4 h
       refine⟨rfl,?_⟩
       have hur:u=.returning:=by
        rcases hst with⟨_,h9⟩ | ⟨uv,⟨x,q1,_⟩,_⟩
        ·exact h9
        ·rw[q1,isP]at hu2; simp at hu2
       subst hur
       simp only[VRels]at d5
       rw[d2]
       refine⟨by simp,.func G,cap,G,d.args++cap,d3,?_,?_⟩
       ·rw[d3]; exact callFunc_ok (hbD G hdf hb) _
       ·refine (hcD G l H4 v H5 hdf hcl Prot w0 ρ w (d.args++cap) R (by simpa[d5] using d4)).mono ?_
        rintro e' u' w' ⟨rfl,ρ',y,q1,rfl,q2⟩
        exact hrest ρ' w' q1 q2
  ·skip
   simp only[dfOk,Bool.and_eq_true]at hdf
   obtain⟨hG1,hk1⟩:=hdf
   have hk:=Nat.eq_of_beq_eq_true hk1
   simp only[aexec]at h
   rw[aregs_step',astep_none]at h
   simp only[aop,evs,aPf,vv,e1]at h
   cases hun:aUnP [ev T (.t n)] with
   | none=>rw[hun]at h; simp at h
   | some x=>
    rw[hun]at h
    simp only[aput]at h
    rw[aregs_app]at h
    cases hs:aregs tb call (capsC n G kk) ((T.set (n+2) (.bool false)).set (n+3) x) H with
    | none=>rw[hs]at h; simp at h
    | some p=>
     obtain⟨T4,H4⟩:=p
     rw[hs]at h
     obtain⟨l,c1,c2,rfl,c4,c5⟩:=caps_run hs
     have c1':ev T (.t (n+1))=.func (.func G) [] l:=by rw[← c1,ev_set,if_neg om,ev_set,if_neg om]
     have c3:ev T4 (.t (n+3))=x:=by rw[c5 (n+3) om om,ev_set,if_pos rfl]
     rw[c1']at d1
     simp only[AVal.func.injEq,Fn.func.injEq]at d1
     obtain⟨rfl,rfl,rfl⟩:=d1
     have evapp:∀(m:List Opd),evs T4 (m++[.t (n+3)])=evs T4 m++[x]:=by
      intro m
      induction m with
      | nil=>simp only[List.nil_append,evs,c3]
      | cons y m ih=>simp only[List.cons_append,evs,ih]
     simp only at h
     rw[aregs_step',astep_none]at h
     simp only[aop,evapp,c4]at h
     cases hb:tb (2*BIG+G) with
     | false=>rw[hb]at h; simp at h
     | true=>
      rw[hb]at h
      simp only[cond_true]at h
      cases hcl:call (2*BIG+G) (l++[x]) H4 with
      | none=>rw[hcl]at h; simp at h
      | some q=>
       obtain⟨v,H5⟩:=q
       rw[hcl]at h
       simp only[aput,aregs]at h
       have hG4:GE n T4 U:=⟨fun t ht'=>by rw[c5 t om om,ev_set,if_neg om,ev_set,if_neg om]; exact hG.1 t ht',hG.2⟩
       obtain⟨rfl,hrest⟩:=rest hG4 h
       refine⟨rfl,?_⟩
       have hx:∃xv,VRel ρ x xv∧RecU u xv∧u≠.run:=by
        rcases hst with⟨hP,rfl⟩ | ⟨uv,⟨x',q1,q2,_⟩,rfl⟩
        ·rw[hP.2]at hun
         simp only[undefA,aUnP,sJ]at hun
         subst hun
         exact⟨.nilIface,rfl,.inl ⟨rfl,rfl⟩,by simp⟩
        ·rw[q1]at hun
         simp only[panV,aUnP,sJ]at hun
         subst hun
         exact⟨uv,q2,.inr rfl,by simp⟩
       obtain⟨xv,x1,x2,x3⟩:=hx
       simp only[VRels]at d5
       rw[d2]
       refine⟨x3,.func G,cap,G,d.args++cap,d3,?_,?_⟩
       ·rw[d3]; exact callFunc_ok (hbR G hG1 hb) _
       ·refine (hcR G l x H4 v H5 hG1 om hcl Prot w0 ρ w (d.args++cap) xv u R (by simpa[d5] using d4) x1 x2).mono ?_
        rintro e' u' w' ⟨hu',ρ',y,q1,rfl,q2⟩
        show Leaves P fc a.tmps _ [] (settle u') w'
        rw[hu']
        exact hrest ρ' w' q1 q2
end
end Go.Abs
namespace Go.Abs
section
variable (P:Program)
def cFnP(md:PMd)(raw:Bool)(f:FuncId):Option AFn:=match P.funcs[f]? with
 | some fn=>match fn.body with
  | some c => bif fn.name == "runtime.NumGoroutine" then none else
   match cCodeP P fn.ntmps md.ps c,cRes P fn.results.toList with
   | some b,some r=>bif resT fn.ntmps r&&dfOk P md.df then some ⟨fn.ntmps,.seq (.block PB b) (tailC fn.ntmps r raw md.df),[.t (fn.ntmps+3)]⟩ else none
   | _,_=>none
  | none=>none
 | none=>none
def recSplit:Code→Option (Array Oper×Nat×List Oper×Code)
 | .seq (.region _ ops false) rest=>match ops.toList with
  | o::os=>match o.op,o.dst,o.guard with
   | .call c,some d,none=>match c.callee with
    | .builtin .recover=>some (ops,d,os,rest)
    | _=>none
   | _,_,_=>none
  | []=>none
 | _=>none
def recPro(n k d:Nat):List AOper:=[⟨some n,.mv (.t k),none⟩,⟨some k,.mv (.c undefA),none⟩,⟨some d,.mv (.t n),none⟩,⟨some n,.mv (.c undefA),none⟩]
def cFnR(g:FuncId):Option AFn:=match P.funcs[g]? with
 | some fn=>match fn.body with
  | some c => bif fn.name == "runtime.NumGoroutine" || !(Nat.beq fn.results.size 0) then none else
   match recSplit c with
   | some (ops,d,os,rest)=>match cOpers P fn.ntmps ops os,cCode P fn.ntmps rest with
    | some l,some r=>bif Nat.blt d fn.ntmps&&Nat.ble (arity P g) d then some ⟨fn.ntmps,.seq (.reg (recPro fn.ntmps (arity P g) d)) (.seq (.reg l) r),[]⟩ else none
    | _,_=>none
   | none=>none
  | none=>none
 | none=>none
def eFn(md:Option PMd)(i:Nat):Option AFn:=
 bif Nat.blt i BIG then (match md with | none=>cFn P i | some md=>cFnP P md false i)
 else bif Nat.blt i (2*BIG) then (match md with | some md=>cFnP P md true (i-BIG) | none=>none)
 else bif Nat.blt i (3*BIG) then cFnR P (i-2*BIG)
 else bif Nat.blt i (4*BIG) then cFn P (i-3*BIG) else none
def TabOK(tab:Tr AFn):Prop:=∀f fn,tab.get f=some fn→∃md,eFn P md f=some fn
end
section
variable {P:Program} {Prot:Gh} {w0:World} {ρ:Pl} {H H':AHeap} {w:World}
theorem blt_dec(a b:Nat):Nat.blt a b=decide (a<b):=by
 cases h:Nat.blt a b with
 | true=>exact (decide_eq_true (blt_lt h)).symm
 | false=>exact (decide_eq_false fun q=>by rw[show Nat.blt a b=true from Nat.ble_eq_true_of_le q]at h; simp at h).symm
theorem eFn_0{md:Option PMd}{f:Nat}(hf:Nat.blt f BIG=true){fn:AFn}(h:eFn P md f=some fn):cFn P f=some fn∨∃m,cFnP P m false f=some fn:=by
 unfold eFn at h
 rw[hf]at h
 simp only[cond_true]at h
 cases md with
 | none=>exact .inl h
 | some m=>exact .inr ⟨m,h⟩
theorem eFn_1{md:Option PMd}{f:Nat}(hf:Nat.blt f BIG=true){fn:AFn}(h:eFn P md (BIG+f)=some fn):∃m,cFnP P m true f=some fn:=by
 have hlt:=blt_lt hf
 unfold eFn at h
 have h1:Nat.blt (BIG+f) BIG=false:=by rw[blt_dec]; exact decide_eq_false om
 have h2:Nat.blt (BIG+f) (2*BIG)=true:=by rw[blt_dec]; exact decide_eq_true om
 rw[h1,h2]at h
 simp only[cond_true,cond_false,Nat.add_sub_cancel_left]at h
 cases md with
 | none=>simp at h
 | some m=>exact⟨m,h⟩
theorem eFn_2{md:Option PMd}{f:Nat}(hf:Nat.blt f BIG=true){fn:AFn}(h:eFn P md (2*BIG+f)=some fn):cFnR P f=some fn:=by
 have hlt:=blt_lt hf
 unfold eFn at h
 have h1:Nat.blt (2*BIG+f) BIG=false:=by rw[blt_dec]; exact decide_eq_false om
 have h2:Nat.blt (2*BIG+f) (2*BIG)=false:=by rw[blt_dec]; exact decide_eq_false om
 have h3:Nat.blt (2*BIG+f) (3*BIG)=true:=by rw[blt_dec]; exact decide_eq_true om
 rw[h1,h2,h3]at h
 simpa only [cond_true,cond_false,Nat.add_sub_cancel_left] using h
theorem eFn_3{md:Option PMd}{f:Nat}(hf:Nat.blt f BIG=true){fn:AFn}(h:eFn P md (3*BIG+f)=some fn):cFn P f=some fn:=by
 have hlt:=blt_lt hf
 unfold eFn at h
 have h1:Nat.blt (3*BIG+f) BIG=false:=by rw[blt_dec]; exact decide_eq_false om
 have h2:Nat.blt (3*BIG+f) (2*BIG)=false:=by rw[blt_dec]; exact decide_eq_false om
 have h3:Nat.blt (3*BIG+f) (3*BIG)=false:=by rw[blt_dec]; exact decide_eq_false om
 have h4:Nat.blt (3*BIG+f) (4*BIG)=true:=by rw[blt_dec]; exact decide_eq_true om
 rw[h1,h2,h3,h4]at h
 simpa only [cond_true,cond_false,Nat.add_sub_cancel_left] using h
theorem cFnP_spec {md : PMd} {raw : Bool} {f : FuncId} {fn : AFn} (h : cFnP P md raw f = some fn) : ∃ fc c b r, P.funcs[f]? = some fc ∧ fc.body = some c ∧ (fc.name == "runtime.NumGoroutine") = false ∧ cCodeP P fc.ntmps md.ps c = some b ∧ cRes P fc.results.toList = some r ∧
  resT fc.ntmps r=true∧dfOk P md.df=true∧fn=⟨fc.ntmps,.seq (.block PB b) (tailC fc.ntmps r raw md.df),[.t (fc.ntmps+3)]⟩:=by
 unfold cFnP at h
 split at h
 ·rename_i fc hf
  split at h
  ·rename_i c hb
   cases hn : (fc.name == "runtime.NumGoroutine") with
   | true=>rw[hn]at h; simp at h
   | false=>
    rw[hn]at h
    simp only[cond_false]at h
    split at h
    ·rename_i b r h1 h2
     cases h3:resT fc.ntmps r&&dfOk P md.df with
     | false=>rw[h3]at h; simp at h
     | true=>
      rw[h3]at h
      simp only[cond_true,sJ]at h
      simp only[Bool.and_eq_true]at h3
      exact⟨fc,c,b,r,hf,hb,hn,h1,h2,h3.1,h3.2,h.symm⟩
    ·simp at h
  ·simp at h
 ·simp at h
theorem recSplit_spec{c:Code}{ops:Array Oper}{d:Nat}{os:List Oper}{rest:Code}(h:recSplit c=some (ops,d,os,rest)):∃i o args ats,c=.seq (.region i ops false) rest∧ops.toList=o::os∧o.op=.call ⟨.builtin .recover,args,ats⟩∧o.dst=some d∧o.guard=none:=by
 unfold recSplit at h
 split at h
 ·rename_i i ops' rest'
  split at h
  ·rename_i o os' ho
   split at h
   ·rename_i c' d' h1 h2 h3
    split at h
    ·rename_i hcal
     simp only[sJ,pJ]at h
     obtain⟨rfl,rfl,rfl,rfl⟩:=h
     obtain⟨cal,args,ats⟩:=c'
     simp only at hcal
     subst hcal
     exact⟨i,o,args,ats,rfl,ho,h1,h2,h3⟩
    ·simp at h
   ·simp at h
  ·simp at h
 ·simp at h
theorem cFnR_spec {g : FuncId} {fn : AFn} (h : cFnR P g = some fn) : ∃ fc c ops d os rest l r, P.funcs[g]? = some fc ∧ fc.body = some c ∧ (fc.name == "runtime.NumGoroutine") = false ∧ fc.results = #[] ∧ recSplit c = some (ops, d, os, rest) ∧ cOpers P fc.ntmps ops os = some l ∧ cCode P fc.ntmps rest = some r ∧
  d<fc.ntmps∧arity P g≤d∧fn=⟨fc.ntmps,.seq (.reg (recPro fc.ntmps (arity P g) d)) (.seq (.reg l) r),[]⟩:=by
 unfold cFnR at h
 split at h
 ·rename_i fc hf
  split at h
  ·rename_i c hb
   cases hn : (fc.name == "runtime.NumGoroutine" || !(Nat.beq fc.results.size 0)) with
   | true=>rw[hn]at h; simp at h
   | false=>
    rw[hn]at h
    simp only[Bool.or_eq_false_iff,Bool.not_eq_false']at hn
    simp only[cond_false]at h
    split at h
    ·rename_i ops d os rest hsp
     split at h
     ·rename_i l r h1 h2
      cases h3:Nat.blt d fc.ntmps&&Nat.ble (arity P g) d with
      | false=>rw[h3]at h; simp at h
      | true=>
       rw[h3]at h
       simp only[cond_true,sJ]at h
       simp only[Bool.and_eq_true]at h3
       exact⟨fc,c,ops,d,os,rest,l,r,hf,hb,hn.1,Array.eq_empty_of_size_eq_zero (Nat.eq_of_beq_eq_true hn.2),hsp,h1,h2,blt_lt h3.1,Nat.le_of_ble_eq_true h3.2,h.symm⟩
     ·simp at h
    ·simp at h
  ·simp at h
 ·simp at h
theorem body_of {f : Nat} (hf : Nat.blt f BIG = true) {fc : Func} {c : Code} (h1 : P.funcs[f]? = some fc) (h2 : fc.body = some c) (h3 : (fc.name == "runtime.NumGoroutine") = false) : hasBody P f = true := by
 simp[hasBody,hf,h1,h2,h3]
structure AllOK(P:Program)(call:FuncId→List AVal→AHeap→Option (AVal×AHeap)):Prop where
 ok:CallOK P call
 pan:CallP P call
 dfd:CallD P call
 rcv:CallR P call
structure TbOK(P:Program)(tb:FuncId→Bool):Prop where
 h0:∀f,Nat.blt f BIG=true→tb f=true→hasBody P f=true
 h1:∀f,Nat.blt f BIG=true→tb (BIG+f)=true→hasBody P f=true
 h2:∀f,Nat.blt f BIG=true→tb (2*BIG+f)=true→hasBody P f=true
 h3:∀f,Nat.blt f BIG=true→tb (3*BIG+f)=true→hasBody P f=true
theorem fnP_ok(hfol:P.follows .mixedOrders=true){tb:FuncId→Bool}(hb:TbOK P tb){call:FuncId→List AVal→AHeap→Option (AVal×AHeap)}(hc:AllOK P call){k:Nat}{md:PMd}{raw:Bool}{f:FuncId}{fn:AFn}(hfn:cFnP P md raw f=some fn)
  {args:List AVal} (hlen:args.length≤fn.nt) {e:AEx} {T:Tr AVal} {H1:AHeap} (hx:aexec tb call k fn.body (putArgs args 0 .e) H=some (e,T,H1)) (hne:∀i,e≠.exit i) {xs:List AVal} (hxs:ares T H1 fn.res=some xs) {vs:Array Value} (R:Rel Prot w0 ρ H w) (hv:VRels ρ args vs.toList) :
  Calls P f vs w (Out Prot w0 raw ρ H1 (aresV xs)):=by
 obtain⟨fc,c,b,r,h1,h2,h3,h4,h5,h6,h7,rfl⟩:=cFnP_spec hfn
 simp only at hlen
 have hst:=start_sim (ρ:=ρ) hv hlen
 have hgh:∀t,fc.ntmps≤t→ev (putArgs args 0 .e) (.t t)=undefA:=fun t ht=>by
  have:=hst.at_ t
  have hsz:=hst.size
  rw[Array.getD_eq_getD_getElem?,Array.getElem?_eq_none om]at this
  exact undef_of this
 have hP:PSt ρ fc.ntmps (putArgs args 0 .e) { tmps:=vs++Array.replicate (fc.ntmps-vs.size) undef,defers:=[] }:=
  ⟨⟨⟨_,⟨fun _ _=>rfl,hgh⟩,hst⟩,.inl ⟨hgh _ om,rfl⟩⟩,hgh _ rL⟩
 simp only[aexec]at hx
 refine calls_of_wp_defers h1 h2 ?_
 cases hb1:aexec tb call k b (putArgs args 0 .e) H with
 | none=>rw[hb1]at hx; simp at hx
 | some q=>
  obtain⟨e1,T1,H2⟩:=q
  rw[hb1]at hx
  have hsim:=codeP_sim hfol hb.h0 hb.h1 hc.ok hc.pan c b h4 ρ _ _ _ _ e1 _ w R hP hb1
  have hval:∀v,ev T (.t (fc.ntmps+3))=v→aresV xs=v:=fun v h9=>by
   simp only[ares,sJ]at hxs
   subst hxs
   exact h9
  have hout:∀{ρ':Pl} {a':Act} {w':World} {u:FrameMode},ρ.le ρ'→Rel Prot w0 ρ' H2 w'→((PSt ρ' fc.ntmps T1 a'∧u=.returning)∨∃uv,PPan ρ' fc.ntmps T1 a' uv∧u=.panicking [{ v:=uv,recovered:=false }]) →
    aexec tb call k (tailC fc.ntmps r raw md.df) T1 H2=some (e,T,H1)→Leaves P fc a'.tmps (Out Prot w0 raw ρ H1 (aresV xs)) a'.defers u w':=by
   intro ρ' a' w' u hle R' hs' ht'
   obtain⟨_,hL⟩:=tail_sim (fc:=fc) hc.dfd hc.rcv hb.h3 hb.h2 h5 h6 h7 ht' R' hs'
   rw[hval _ rfl]
   have:∀(ds:List Deferred) (u:FrameMode) (w:World),Leaves P fc a'.tmps (Out Prot w0 raw ρ' H1 (ev T (.t (fc.ntmps+3)))) ds u w→Leaves P fc a'.tmps (Out Prot w0 raw ρ H1 (ev T (.t (fc.ntmps+3)))) ds u w:=by
    have hO:∀e w',Out Prot w0 raw ρ' H1 (ev T (.t (fc.ntmps+3))) e w'→Out Prot w0 raw ρ H1 (ev T (.t (fc.ntmps+3))) e w':=fun e w' ⟨ρ2,q1,q2⟩=>⟨ρ2,Pl.le_trans hle q1,q2⟩
    intro ds
    induction ds with
    | nil=>
     intro u w hL
     cases u with
     | run=>exact hL
     | returning=>obtain⟨v,q1,q2⟩:=hL; exact⟨v,q1,hO _ _ q2⟩
     | panicking ch=>exact hO _ _ hL
    | cons d ds ih=>
     intro u w hL
     obtain⟨q1,fv,cap,g,ar,q2,q3,q4⟩:=hL
     refine⟨q1,fv,cap,g,ar,q2,q3,q4.mono fun e' u' w' hh=>?_⟩
     cases e' with
     | returned v=>exact ih _ _ hh
     | panicked ch=>exact ih _ _ hh
     | outgrown=>exact hO _ _ hh
   exact this _ _ _ hL
  refine wp_mono hsim ?_
  rintro e' a' w' ⟨ρ',q1,q2,q3⟩
  cases e1 with
  | normal=>
   obtain⟨rfl,z⟩:=q3
   exact hout q1 q2 (.inl ⟨z,rfl⟩) hx
  | ret=>exact q3.elim
  | exit id=>
   simp only at hx
   cases hid:Nat.beq id PB with
   | false=>
    rw[hid]at hx
    simp only[cond_false,sJ,pJ]at hx
    exact (hne id hx.1.symm).elim
   | true=>
    rw[hid]at hx
    simp only[cond_true]at hx
    have:=Nat.eq_of_beq_eq_true hid
    rcases q3 with⟨z1,_⟩ | ⟨_,⟨rfl,z2⟩ | ⟨u,rfl,z2⟩⟩
    ·exact (z1 this).elim
    ·exact hout q1 q2 (.inl ⟨z2,rfl⟩) hx
    ·exact hout q1 q2 (.inr ⟨u,z2,rfl⟩) hx
theorem fn_ok(hfol:P.follows .mixedOrders=true){tb:FuncId→Bool}(hb:TbOK P tb){call:FuncId→List AVal→AHeap→Option (AVal×AHeap)}(hc:AllOK P call){k:Nat}{f:FuncId}{fn:AFn}(hfn:cFn P f=some fn)
  {args:List AVal} (hlen:args.length≤fn.nt) {e:AEx} {T:Tr AVal} {H1:AHeap} (hx:aexec tb call k fn.body (putArgs args 0 .e) H=some (e,T,H1)) (hne:∀i,e≠.exit i) {xs:List AVal} (hxs:ares T H1 fn.res=some xs) {vs:Array Value} (R:Rel Prot w0 ρ H w) (hv:VRels ρ args vs.toList) :
  ∃fc c,P.funcs[f]?=some fc∧fc.body=some c∧c.wp P (bodyPost P fc fun e w'=>∃ρ' u,ρ.le ρ'∧e=.returned u∧Rel Prot w0 ρ' H1 w'∧VRel ρ' (aresV xs) u) { tmps:=vs++Array.replicate (fc.ntmps-vs.size) undef,defers:=[] } w:=by
 obtain⟨fc,c,h1,h2,h3,h4,h5,h6⟩:=cFn_spec hfn
 refine⟨fc,c,h1,h2,?_⟩
 have hst:=start_sim (ρ:=ρ) hv hlen
 rw[h4]
 refine wp_mono (code_sim hfol (Prot:=Prot) (w0:=w0) (ds:=[]) hb.h0 hc.ok _ _ h5 ρ _ T H H1 e _ w R hst rfl hx) ?_
 rintro e' a' w' ⟨he,ρ',hl,R',ht',hd'⟩
 obtain⟨u,r1,r2⟩:=results_sim (P:=P) R' ht' h6 hxs
 cases e with
 | normal=>simp only at he; subst he; exact⟨hd',u,r1,ρ',u,hl,rfl,R',r2⟩
 | exit id=>exact (hne _ rfl).elim
 | ret=>simp only at he; subst he; exact⟨hd',u,r1,ρ',u,hl,rfl,R',r2⟩
theorem wpOpsS_of{ops:Array Oper}{cs:List Frame}{Q:Exit→Act→List Frame→World→Prop}(hno:¬LetsOut fun e a w=>Q e a cs w):∀(l:List Nat) (a:Act) (w:World),wpOps P ops (fun e a w=>Q e a cs w) l a w→wpOpsS P ops Q l a cs w
 | [],a,w,h=>h
 | i::rest,a,w,h=>by
  simp only[wpOps]at h
  simp only[wpOpsS]
  cases ho:ops[i]? with
  | none=>rw[ho]at h; exact wpOpsS_of hno rest a w h
  | some o=>
   rw[ho]at h
   simp only at h ⊢
   split at h
   ·rename_i hw
    rw[if_pos hw]
    rcases h with h | ⟨_,h⟩
    ·have h':=Oper.wp_mono (K':=fun a' w'=>wpOpsS P ops Q rest a' cs w') (fun a' w' hh=>wpOpsS_of hno rest a' w' hh) h
     unfold Oper.wp at h'
     generalize (execOp a.eval o).run P w=r at h'
     split
     ·simp only[Oper.upon]at h'
     ·exact h'
    ·exact (hno h).elim
   ·rename_i hw
    rw[if_neg hw]
    exact wpOpsS_of hno rest _ w h
end
end Go.Abs
namespace Go.Abs
section
variable {P:Program} {Prot:Gh} {w0:World} {ρ:Pl} {H H':AHeap} {w:World}
theorem recPro_run{tb:FuncId→Bool}{call:FuncId→List AVal→AHeap→Option (AVal×AHeap)}{n k d:Nat}(hd:d<n)(hk:k≤d)(T:Tr AVal)(H:AHeap):∃T1,aregs tb call (recPro n k d) T H=some (T1,H) ∧
  ∀t,ev T1 (.t t)=if t=n then undefA else if t=d then ev T (.t k) else if t=k then undefA else ev T (.t t):=by
 refine⟨_,by simp only[recPro,aregs,gOK,cond_true,aop,aput]; rfl,fun t=>?_⟩
 by_cases h1:t=n
 ·rw[ev_set,if_pos h1,if_pos h1]; rfl
 ·rw[ev_set,if_neg h1,if_neg h1]
  by_cases h2:t=d
  ·rw[ev_set,if_pos h2,if_pos h2,ev_set,if_neg om,ev_set,if_pos rfl]
  ·rw[ev_set,if_neg h2,if_neg h2]
   by_cases h3:t=k
   ·rw[ev_set,if_pos h3,if_pos h3]; rfl
   ·rw[ev_set,if_neg h3,if_neg h3,ev_set,if_neg h1]
theorem fnR_ok(hfol:P.follows .mixedOrders=true){tb:FuncId→Bool}(hb:TbOK P tb){call:FuncId→List AVal→AHeap→Option (AVal×AHeap)}(hc:AllOK P call){k:Nat}{G:FuncId}{fn:AFn}(hfn:cFnR P G=some fn)
  {args:List AVal} {x:AVal} (hlen:args.length=arity P G) {e:AEx} {T:Tr AVal} {H1:AHeap} (hx:aexec tb call k fn.body (putArgs (args++[x]) 0 .e) H=some (e,T,H1)) (hne:∀i,e≠.exit i) {vs:Array Value} {xv:Value} {u:FrameMode} (R:Rel Prot w0 ρ H w) (hv:VRels ρ args vs.toList) (hxv:VRel ρ x xv) (hu:RecU u xv) :
  CallsD P G vs u w fun e u' w'=>settle u'=.returning∧∃ρ' y,ρ.le ρ'∧e=.returned y∧Rel Prot w0 ρ' H1 w':=by
 obtain⟨fc,c,ops,d,os,rest,l,r,h1,h2,h3,h4,h5,h6,h7,hd,hkd,rfl⟩:=cFnR_spec hfn
 obtain⟨i0,o,oa,ots,rfl,hops,hop,hod,hog⟩:=recSplit_spec h5
 have hvl:args.length=vs.size:=by have:=VRels.len hv; simpa using this
 obtain⟨T1,t1,t2⟩:=recPro_run (tb:=tb) (call:=call) hd hkd (putArgs (args++[x]) 0 .e) H
 simp only[aexec,t1]at hx
 cases hl:aregs tb call l T1 H with
 | none=>rw[hl]at hx; simp at hx
 | some q=>
  obtain⟨T2,H2⟩:=q
  rw[hl]at hx
  simp only at hx
  have hst:=start_sim (ρ:=ρ) hv (show args.length≤fc.ntmps by omega)
  have hput:TmpsRel ρ fc.ntmps T1 ((({ tmps:=vs++Array.replicate (fc.ntmps-vs.size) undef,defers:=[] }:Act).put (some d) xv).tmps):=by
   have hp:=put_rel (a:={ tmps:=vs++Array.replicate (fc.ntmps-vs.size) undef,defers:=[] }) (n:=fc.ntmps) hst (dst:=some d) (Nat.ble_eq_true_of_le hd) hxv
   refine⟨hp.size,fun t=>?_⟩
   have hat:=hp.at_ t
   have e:ev T1 (.t t)=ev (aput (putArgs args 0 .e) (some d) x) (.t t):=by
    rw[t2 t,ev_aput,args_sim args vs.toList 0 .e hv (fun _ _=>rfl) t]
    have hvx:VRels ρ (args++[x]) (vs.push xv).toList:=by
     rw[Array.toList_push]
     exact VRels.append hv (by simp only[VRels]; exact⟨_,_,rfl,hxv,rfl⟩)
    rw[args_sim (args++[x]) _ 0 .e hvx (fun _ _=>rfl) t,args_sim (args++[x]) _ 0 .e hvx (fun _ _=>rfl) (arity P G)]
    simp only[Nat.not_lt_zero,if_false,Nat.sub_zero,sJ]
    by_cases q1:t=fc.ntmps
    ·subst q1
     rw[if_pos rfl,if_neg om,List.getElem?_eq_none om]
    ·rw[if_neg q1]
     by_cases q2:t=d
     ·subst q2
      rw[if_pos rfl,if_pos rfl,← hlen,List.getElem?_append_right rL,Nat.sub_self]
      rfl
     ·rw[if_neg q2,if_neg (show ¬d=t from fun q=>q2 q.symm)]
      by_cases q3:t=arity P G
      ·rw[if_pos q3,List.getElem?_eq_none om]
      ·rw[if_neg q3]
       by_cases q4:t<args.length
       ·rw[List.getElem?_append_left q4]
       ·rw[List.getElem?_eq_none (by simp; omega),List.getElem?_eq_none om]
   rw[e]
   exact hat
  refine callsD_of_wpS h1 h2 fun c₀ cs hcu=>?_
  refine wpS_seq (wpS_region ?_)
  have hsz:ops.size=os.length+1:=by have:=congrArg List.length hops; simpa using this
  have ho:ops[0]?=some o:=by
   have:ops.toList[0]?=some o:=by rw[hops]; rfl
   simpa using this
  have hnx:∀j,os[j]?=ops[1+j]?:=fun j=>by
   have:ops.toList[1+j]?=os[j]?:=by rw[hops,show 1+j=j+1 by omega,List.getElem?_cons_succ]
   rw[← this]; simp
  rw[List.range_eq_range',hsz,List.range'_succ]
  simp only[wpOpsS,ho]
  have hw:Region.wanted o (yielded ops (vs++Array.replicate (fc.ntmps-vs.size) undef))=true:=by simp[Region.wanted,hog]
  rw[if_pos hw]
  have hrun:∀a:Act,(execOp a.eval o).run P w=.ok .recover w:=fun a=>by
   obtain⟨dst,op,type,pos,after,guard⟩:=o
   simp only at hop
   subst hop
   rfl
  rw[hrun]
  simp only
  have key:∀(u':FrameMode),settle u'=.returning→wpOpsS P ops (Exit.thenS (rest.wpS P (bodyPostS P fc c₀ cs fun e u' w'=>settle u'=.returning∧∃ρ' y,ρ.le ρ'∧e=.returned y∧Rel Prot w0 ρ' H1 w')) (bodyPostS P fc c₀ cs fun e u' w'=>settle u'=.returning∧∃ρ' y,ρ.le ρ'∧e=.returned y∧Rel Prot w0 ρ' H1 w')) (List.range' (0+1) os.length)
    (({ tmps:=vs++Array.replicate (fc.ntmps-vs.size) undef,defers:=[] }:Act).put o.dst xv) ({ c₀ with mode:=u' }::cs) w:=by
   intro u' hset
   refine wpOpsS_of ?_ _ _ _ ?_
   ·rintro ⟨a,w',u2,_,ρ',y,_,hh,_⟩
    simp at hh
   ·rw[hod]
    refine regs_sim (Prot:=Prot) (w0:=w0) (ds:=[]) hb.h0 hc.ok os (0+1) l hnx h6 ρ ρ T1 T2 H H2 _ w (Pl.le_refl _) R hput rfl hl ?_
    rintro a' w' ⟨ρ',q1,q2,q3,q4⟩
    show rest.wpS P _ a' _ w'
    refine wpS_of_wp (wp_mono (code_sim hfol (Prot:=Prot) (w0:=w0) (ds:=[]) hb.h0 hc.ok rest r h7 ρ' T2 T H2 H1 e a' w' q2 q3 q4 hx) ?_)
    rintro e' a2 w2 ⟨he,ρ2,z1,z2,z3,z4⟩
    have hfin:a2.defers=[]∧∃u2,({ c₀ with mode:=u' }::cs:List Frame)={ c₀ with mode:=u2 }::cs∧∃v,(results fc a2.tmps).run P w2=.ok v w2∧(settle u2=.returning∧∃ρ' y,ρ.le ρ'∧Ending.returned v=.returned y∧Rel Prot w0 ρ' H1 w2):=
     ⟨z4,u',rfl,.tuple #[],by simp[results,h4],hset,ρ2,.tuple #[],Pl.le_trans q1 z1,rfl,z2⟩
    cases e with
    | normal=>simp only at he; subst he; exact hfin
    | exit id=>exact (hne _ rfl).elim
    | ret=>simp only at he; subst he; exact hfin
  rcases hu with⟨rfl,rfl⟩ | rfl
  ·have hrec:recoverD (c₀::cs)=none:=by simp[recoverD,hcu]
   rw[hrec]
   have:=key .returning rfl
   rwa [show ({ c₀ with mode:=.returning }:Frame)=c₀ by rw[← hcu]]at this
  ·have hrec:recoverD (c₀::cs)=some (xv,{ c₀ with mode:=.panicking [{ v:=xv,recovered:=true }] }::cs):=by simp[recoverD,hcu]
   rw[hrec]
   exact key _ rfl
theorem acall_inv{N:ANat}{tab:Tr AFn}{n:Nat}{f:FuncId}{args:List AVal}{v:AVal}(hi:N.is f=false)(h:acall N tab (n+1) f args H=some (v,H')) :
  ∃fn e T xs,tab.get f=some fn∧args.length≤fn.nt∧aexec (tbA N tab) (acall N tab n) n fn.body (putArgs args 0 .e) H=some (e,T,H')∧(∀i,e≠.exit i)∧ares T H' fn.res=some xs∧v=aresV xs:=by
 simp only[acall,hi,cond_false]at h
 split at h
 ·rename_i fn hf
  cases hb:Nat.ble args.length fn.nt with
  | false=>rw[hb]at h; simp at h
  | true=>
   rw[hb]at h
   simp only[cond_true]at h
   split at h
   ·simp at h
   ·rename_i e T H1 hne hx
    split at h
    ·rename_i xs hxs
     simp only[sJ,pJ]at h
     obtain⟨rfl,rfl⟩:=h
     exact⟨fn,e,T,xs,hf,Nat.le_of_ble_eq_true hb,hx,fun i q=>hne i q,hxs,rfl⟩
    ·simp at h
   ·simp at h
 ·simp at h
theorem acall_all(hfol:P.follows .mixedOrders=true){N:ANat}(hN:NatOK P N){tab:Tr AFn}(hT:TabOK P tab):∀n,AllOK P (acall N tab n):=by
 have hnat:∀(m f:Nat),0<m→N.is (m*BIG+f)=false:=fun m f hm=>by
  cases hi:N.is (m*BIG+f) with
  | false=>rfl
  | true=>
   have:=hN.body _ hi
   simp only[hasBody,Bool.and_eq_true]at this
   have:=blt_lt this.1
   have:BIG≤m*BIG:=Nat.le_mul_of_pos_left _ hm
   omega
 have hget:∀f,N.is f=false→tbA N tab f=true→∃fn,tab.get f=some fn:=fun f hi h=>by
  unfold tbA at h
  rw[hi]at h
  simp only[cond_false]at h
  split at h
  ·rename_i fn hf; exact⟨fn,hf⟩
  ·simp at h
 have e1:∀f:Nat,BIG+f=1*BIG+f:=fun f=>om
 have htb:TbOK P (tbA N tab):=by
  refine⟨fun f hf h=>?_,fun f hf h=>?_,fun f hf h=>?_,fun f hf h=>?_⟩
  ·cases hi:N.is f with
   | true=>exact hN.body f hi
   | false=>
    obtain⟨fn,hg⟩:=hget f hi h
    obtain⟨md,he⟩:=hT _ _ hg
    rcases eFn_0 hf he with h9 | ⟨m,h9⟩
    ·obtain⟨fc,c,q1,q2,q3,_⟩:=cFn_spec h9; exact body_of hf q1 q2 q3
    ·obtain⟨fc,c,b,r,q1,q2,q3,_⟩:=cFnP_spec h9; exact body_of hf q1 q2 q3
  ·obtain⟨fn,hg⟩:=hget _ (by rw[e1]; exact hnat 1 f om) h
   obtain⟨md,he⟩:=hT _ _ hg
   obtain⟨m,h9⟩:=eFn_1 hf he
   obtain⟨fc,c,b,r,q1,q2,q3,_⟩:=cFnP_spec h9; exact body_of hf q1 q2 q3
  ·obtain⟨fn,hg⟩:=hget _ (hnat 2 f om) h
   obtain⟨md,he⟩:=hT _ _ hg
   have h9:=eFn_2 hf he
   obtain⟨fc,c,ops,d,os,rest,l,r,q1,q2,q3,_⟩:=cFnR_spec h9; exact body_of hf q1 q2 q3
  ·obtain⟨fn,hg⟩:=hget _ (hnat 3 f om) h
   obtain⟨md,he⟩:=hT _ _ hg
   have h9:=eFn_3 hf he
   obtain⟨fc,c,q1,q2,q3,_⟩:=cFn_spec h9; exact body_of hf q1 q2 q3
 intro n
 induction n with
 | zero=>
  refine⟨fun f args H v H' _ h=>by simp[acall]at h,fun f args H v H' _ h=>by simp[acall]at h,fun f args H v H' _ h=>by simp[acall]at h,fun f args x H v H' _ _ h=>by simp[acall]at h⟩
 | succ n ih=>
  refine⟨fun f args H v H' hf h Prot w0 ρ w vs R hv=>?_,fun f args H v H' hf h Prot w0 ρ w vs R hv=>?_,fun f args H v H' hf h Prot w0 ρ w vs R hv=>?_,fun f args x H v H' hf hlen h Prot w0 ρ w vs xv u R hv hxv hu=>?_⟩
  ·cases hi:N.is f with
   | true=>simp only[acall,hi,cond_true]at h; exact hN.run f args H v H' hf h Prot w0 ρ w vs R hv
   | false=>
    obtain⟨fn,e,T,xs,hg,hl,hx,hne,hxs,rfl⟩:=acall_inv hi h
    obtain⟨md,he⟩:=hT _ _ hg
    rcases eFn_0 hf he with h9 | ⟨m,h9⟩
    ·obtain⟨fc,c,q1,q2,q3⟩:=fn_ok hfol htb ih h9 hl hx hne hxs R hv
     exact calls_of_wp q1 q2 q3
    ·refine (fnP_ok hfol htb ih h9 hl hx hne hxs R hv).mono fun e' w' hr=>?_
     obtain⟨ρ',r1,r2,⟨y,rfl,r3⟩ | ⟨h8,_⟩⟩:=hr
     ·exact⟨ρ',y,r1,rfl,r2,r3⟩
     ·simp at h8
  ·obtain⟨fn,e,T,xs,hg,hl,hx,hne,hxs,rfl⟩:=acall_inv (by rw[e1]; exact hnat 1 f om) h
   obtain⟨md,he⟩:=hT _ _ hg
   obtain⟨m,h9⟩:=eFn_1 hf he
   refine (fnP_ok hfol htb ih h9 hl hx hne hxs R hv).mono fun e' w' hr=>?_
   obtain⟨ρ',r1,r2,⟨y,rfl,r3⟩ | ⟨_,x,y,r3,rfl,r4⟩⟩:=hr
   ·exact⟨ρ',r1,r2,.inl ⟨y,rfl,r3⟩⟩
   ·exact⟨ρ',r1,r2,.inr ⟨x,y,r3,rfl,r4⟩⟩
  ·obtain⟨fn,e,T,xs,hg,hl,hx,hne,hxs,rfl⟩:=acall_inv (hnat 3 f om) h
   obtain⟨md,he⟩:=hT _ _ hg
   obtain⟨fc,c,q1,q2,q3⟩:=fn_ok hfol htb ih (eFn_3 hf he) hl hx hne hxs R hv
   refine (callsD_of_wp q1 q2 q3).mono ?_
   rintro e' u' w' ⟨rfl,ρ',y,r1,rfl,r2,_⟩
   exact⟨rfl,ρ',y,r1,rfl,r2⟩
  ·obtain⟨fn,e,T,xs,hg,hl,hx,hne,hxs,rfl⟩:=acall_inv (hnat 2 f om) h
   obtain⟨md,he⟩:=hT _ _ hg
   exact fnR_ok hfol htb ih (eFn_2 hf he) hlen hx hne R hv hxv hu
theorem acall_ok(hfol:P.follows .mixedOrders=true){N:ANat}(hN:NatOK P N){tab:Tr AFn}(hT:TabOK P tab)(n:Nat):CallOK P (acall N tab n):=(acall_all hfol hN hT n).ok
end
end Go.Abs
namespace Go.Abs
section
variable {P:Program}
def H0:AHeap:=⟨0,.e⟩
theorem rel_start(w:World):Rel ⟨fun c=>c<w.heap.size,fun _=>False⟩ w (fun _ _=>none) H0 w:=
 ⟨rfl,rfl,rfl,Nat.le_refl _,fun _ hc=>⟨hc,rfl⟩,fun _ _ _ h=>by simp at h,fun _ _ _ h=>by simp at h,fun _ _ _ _ h=>by simp at h,fun _ _ _ _ _ _ _ h=>by simp at h,fun _ h=>h.elim,fun _ _ _ h=>by simp[H0,AHeap.get,Tr.get]at h⟩
theorem Rel.below{w0:World}{ρ:Pl}{H:AHeap}{w:World}(R:Rel ⟨fun c=>c<w0.heap.size,fun _=>False⟩ w0 ρ H w):RowKit.Below w0.heap.size w0 w:=
 ⟨R.os,R.tape,R.output,R.size,fun k hk=>(R.prot k hk).2⟩
theorem closed_bool(hfol:P.follows .mixedOrders=true){N:ANat}(hN:NatOK P N){tab:Tr AFn}(hT:TabOK P tab){n:Nat}{f:FuncId}(hf:Nat.blt f BIG=true){args:List AVal}{vs:Array Value}(hv:∀ρ,VRels ρ args vs.toList){b:Bool}
  (h:(match acall N tab n f args H0 with | some (.bool b',_)=>b'==b | _=>false)=true) (w:World) :
  Calls P f vs w fun e w'=>e=.returned (.bool b)∧RowKit.Below w.heap.size w w':=by
 split at h
 ·rename_i b' H' hr
  refine (acall_ok hfol hN hT n _ _ _ _ _ hf hr _ w _ w vs (rel_start w) (hv _)).mono fun e w' hx=>?_
  obtain⟨ρ',u,_,rfl,R,hu⟩:=hx
  simp only[VRel]at hu
  subst hu
  have:b'=b:=by simpa using h
  exact⟨by rw[this],R.below⟩
 ·simp at h
end
end Go.Abs
namespace Go.Abs.S
open Go.Abs
abbrev Env:=Nat→AVal
def en(T:Tr AVal):Env:=fun i=>ev T (.t i)
def up(T:Env)(i:Nat)(v:AVal):Env:=fun j=>bif Nat.beq j i then v else T j
def upO(T:Env):Option Nat→AVal→Env
 | some d,v=>up T d v
 | none,_=>T
theorem en_set(T:Tr AVal)(i:Nat)(v:AVal):en (T.set i v)=up (en T) i v:=by
 funext j
 simp only[en,up,ev,Tr.get_set,beq_dec]
 by_cases h:j=i
 ·rw[if_pos h,decide_eq_true h]; rfl
 ·rw[if_neg h,decide_eq_false h]; rfl
theorem en_put(T:Tr AVal)(d:Option Nat)(v:AVal):en (aput T d v)=upO (en T) d v:=by
 cases d <;> simp only[aput,upO,en_set]
def sX(T:Env):Opd→AVal
 | .t i=>T i
 | .c v=>v
 | .f id=>.func (.func id) [] []
def sXs(T:Env):List Opd→List AVal
 | []=>[]
 | x::r=>sX T x::sXs T r
def sXO(T:Env):Option Opd→Option AVal
 | none=>none
 | some x=>some (sX T x)
def sXP(T:Env):List (Nat×Nat×Opd)→List (Nat×Nat×AVal)
 | []=>[]
 | (o,n,x)::r=>(o,n,sX T x)::sXP T r
theorem sX_en(T:Tr AVal)(x:Opd):sX (en T) x=ev T x:=by cases x <;> rfl
theorem sXs_en(T:Tr AVal):∀l:List Opd,sXs (en T) l=evs T l
 | []=>rfl
 | x::r=>by simp only[sXs,evs,sX_en,sXs_en T r]
theorem sXO_en(T:Tr AVal)(x:Option Opd):sXO (en T) x=evO T x:=by cases x <;> simp only[sXO,evO,sX_en]
theorem sXP_en(T:Tr AVal):∀l:List (Nat×Nat×Opd),sXP (en T) l=evP T l
 | []=>rfl
 | (o,n,x)::r=>by simp only[sXP,evP,sX_en,sXP_en T r]
abbrev sGv(b:Bool):AVal→Bool:=gVb b
def sG(T:Env):Option (Nat×Bool)→Bool
 | none=>true
 | some (t,b)=>gV t b (T (gS t))
theorem sG_en(T:Tr AVal)(g:Option (Nat×Bool)):sG (en T) g=gOK T g:=by
 cases g with
 | none=>rfl
 | some p=>rfl
theorem gS_ltG{K t:Nat}(h:t<K):Nat.ble K t=false:=by
 cases hb:Nat.ble K t with
 | false=>rfl
 | true=>have:=Nat.le_of_ble_eq_true hb; omega
theorem gS_of{t:Nat}(h:Nat.ble SK t=false):gS t=t:=by unfold gS; rw[h]; rfl
theorem sG_ltG(T:Env){t:Nat}(h:Nat.ble SK t=false)(b:Bool):sG T (some (t,b))=sGv b (T t):=by
 simp only[sG,gV,gS_of h,h,cond_false]
theorem sG_lt(T:Env){t:Nat}(h:t<1000000)(b:Bool):sG T (some (t,b))=sGv b (T t):=sG_ltG T (gS_ltG h) b
def OptP{α:Type}(o:Option α)(K:α→Prop):Prop:=∃v,o=some v∧K v
theorem OptP_some{α:Type}(x:α)(K:α→Prop):OptP (some x) K=K x:=by simp[OptP]
theorem OptP.mono{α:Type}{o:Option α}{K K':α→Prop}(h:OptP o K)(hk:∀v,K v→K' v):OptP o K':=by
 obtain⟨v,h1,h2⟩:=h; exact⟨v,h1,hk v h2⟩
abbrev CS:=FuncId→List AVal→AHeap→(AVal→AHeap→Prop)→Prop
section
variable (C:CS)
def wOp(T:Env)(H:AHeap)(K:AVal→AHeap→Prop):AOp→Prop
 | .mv x=>K (sX T x) H
 | .pick c a b=>∃b',sX T c=.bool b'∧K (bif b' then sX T a else sX T b) H
 | .new z=>K (oNew H z).1 (oNew H z).2
 | .box x=>K (oNew H (sX T x).cells).1 (oNew H (sX T x).cells).2
 | .build z ps=>OptP (aBuild z (sXP T ps)) fun v=>K v H
 | .buildSl n z ps=>OptP (aBuildSl n z H (sXP T ps)) fun p=>K p.1 p.2
 | .load a n x=>OptP (oLoad a n H (sX T x)) fun v=>K v H
 | .store n a x=>OptP (oStore n H (sX T a) (sX T x)) fun H'=>K undefA H'
 | .nilChk x=>OptP (aNilChk (sX T x)) fun v=>K v H
 | .bin op x y=>OptP (aBin op (sX T x) (sX T y)) fun v=>K v H
 | .un op x=>OptP (aUn op (sX T x)) fun v=>K v H
 | .conv k x=>OptP (aConv k (sX T x)) fun v=>K v H
 | .convSB x=>OptP (aSB H (sX T x)) fun p=>K p.1 p.2
 | .convBS x=>OptP (aBS H (sX T x)) fun v=>K v H
 | .mkFunc fn a b=>K (.func fn (sXs T a) (sXs T b)) H
 | .mkIface t x=>K (.iface t (sX T x)) H
 | .mkSlice b z l c=>OptP (aMake b z H (sX T l) (sX T c)) fun p=>K p.1 p.2
 | .sl n x lo hi mx=>OptP (aSl n (sX T x) (sXO T lo) (sXO T hi) (sXO T mx)) fun v=>K v H
 | .slStr x lo hi=>OptP (aSlStr (sX T x) (sXO T lo) (sXO T hi)) fun v=>K v H
 | .fieldA o x=>OptP (aField o (sX T x)) fun v=>K v H
 | .field a n o x=>OptP (aFieldV a n o (sX T x)) fun v=>K v H
 | .idxA n x i=>OptP (aIdxA n (sX T x) (sX T i)) fun v=>K v H
 | .idxArr m n x i=>OptP (aIdxArr m n (sX T x) (sX T i)) fun v=>K v H
 | .idx m n a x i=>OptP (aIdx m n a (sX T x) (sX T i)) fun v=>K v H
 | .idxS x i=>OptP (aIdxS (sX T x) (sX T i)) fun v=>K v H
 | .extract i x=>OptP (aExtract i (sX T x)) fun v=>K v H
 | .append n b s x=>OptP (aAppend n b H (sX T s) (sX T x)) fun p=>K p.1 p.2
 | .len s x=>OptP (aLenK s (sX T x)) fun v=>K v H
 | .call f args=>C f (sXs T args) H K
 | .callv f args=>∃g a b,sX T f=.func (.func g) a b∧Nat.blt g BIG=true∧C g (a++sXs T args++b) H K
 | .pf f xs=>OptP (aPf f (sXs T xs)) fun v=>K v H
 | .hf f xs=>OptP (aHf f H (sXs T xs)) fun p=>K p.1 p.2
 | .bad=>False
 | .claim b z s=>OptP (aClaim H b z s) fun v=>K v H
 | .slA m n x lo hi mx=>OptP (aSlArr m n (sX T x) (sXO T lo) (sXO T hi) (sXO T mx)) fun v=>K v H
def wRegs:List AOper→Env→AHeap→(Env→AHeap→Prop)→Prop
 | [],T,H,K=>K T H
 | o::r,T,H,K=>bif sG T o.guard then wOp C T H (fun v H'=>wRegs r (upO T o.dst v) H' K) o.op else wRegs r (upO T o.dst undefA) H K
def wTr:List AOper→Env→AHeap→(List (AVal×AHeap)→Env→AHeap→Prop)→Prop
 | [],T,H,K=>K [] T H
 | o::r,T,H,K=>bif sG T o.guard then wOp C T H (fun v H'=>wTr r (upO T o.dst v) H' fun ss=>K ((v,H')::ss)) o.op else wTr r (upO T o.dst undefA) H fun ss=>K ((undefA,H)::ss)
end
def wLd(T:Env)(H:AHeap):AOp→Option AVal
 | .load a n x=>oLoad a n H (sX T x)
 | .claim b z s=>aClaim H b z s
 | _=>none
def wCk(hs:List AHeap):List AOper→List (List Nat)→List (AVal×AHeap)→Env→Prop
 | o::os,ps::pss,(v,_)::ss,T=>(∀p∈ps,∃Hp,hs[p]?=some Hp∧(sG T o.guard=true→∃u,wLd T Hp o.op=some u∧aeq u v=true))∧wCk hs os pss ss (upO T o.dst v)
 | _,_,_,_=>True
def wDraw(C:CS)(l:List AOper)(chk:List (List Nat))(T:Env)(H:AHeap)(K:Env→AHeap→Prop):Prop:=wTr C l T H fun ss T' H'=>wCk (H::ss.map (·.2)) l chk ss T∧K T' H'
abbrev Post:=AEx→Env→AHeap→Prop
def inBlk(id:Nat)(Q:Post):Post:=fun e T H=>match e with
 | .exit j=>bif Nat.beq j id then Q .normal T H else Q (.exit j) T H
 | e=>Q e T H
def inSeq(Q:Post)(K:Env→AHeap→Prop):Post:=fun e T H=>match e with
 | .normal=>K T H
 | e=>Q e T H
def wp(C:CS):ACode→Post→Env→AHeap→Prop
 | .skip,Q,T,H=>Q .normal T H
 | .reg ops,Q,T,H=>wRegs C ops T H (Q .normal)
 | .draw ops chk,Q,T,H=>wDraw C (claims H.next ops) chk T (reserves H ops) (Q .normal)
 | .seq a b,Q,T,H=>wp C a (inSeq Q (wp C b Q)) T H
 | .cond c a b,Q,T,H=>∃v,sX T c=.bool v∧bif v then wp C a Q T H else wp C b Q T H
 | .block id c,Q,T,H=>wp C c (inBlk id Q) T H
 | .loop c,Q,T,H=>∃(I:Nat→Env→AHeap→Prop),(∃m,I m T H)∧∀m T H,I m T H→wp C c (inSeq Q fun T' H'=>∃m',m'<m∧I m' T' H') T H
 | .exit id,Q,T,H=>Q (.exit id) T H
 | .ret,Q,T,H=>Q .ret T H
section
variable {tb:FuncId→Bool}
def CLe(c d:FuncId→List AVal→AHeap→Option (AVal×AHeap)):Prop:=∀f a H r,c f a H=some r→d f a H=some r
theorem CLe.refl(c):CLe c c:=fun _ _ _ _ h=>h
theorem astep_mono{c d}(h:CLe c d){o:AOper}{T:Tr AVal}{H:AHeap}{r}(e:astep tb c o T H=some r):astep tb d o T H=some r:=by
 unfold astep at e ⊢
 cases hg:gOK T o.guard with
 | false=>rw[hg]at e; exact e
 | true=>
  rw[hg]at e
  simp only[cond_true]at e ⊢
  split at e
  ·exact e
  ·exact h _ _ _ _ e
  ·simp at e
theorem aregs_mono{c d}(h:CLe c d):∀(l:List AOper) {T:Tr AVal} {H:AHeap} {r},aregs tb c l T H=some r→aregs tb d l T H=some r
 | [],_,_,_,e=>e
 | o::l,T,H,r,e=>by
  have hs:∀c,aregs tb c (o::l) T H=match astep tb c o T H with | some (v,H')=>aregs tb c l (aput T o.dst v) H' | none=>none:=by
   intro c
   simp only[aregs,astep]
   cases gOK T o.guard with
   | false=>rfl
   | true=>
    simp only[cond_true]
    cases aop tb T H o.op with
    | none=>rfl
    | some p=>obtain⟨nx,H'⟩:=p; cases nx <;> rfl
  rw[hs]at e ⊢
  split at e
  ·rename_i v H' hv
   rw[astep_mono h hv]
   exact aregs_mono h l e
  ·simp at e
theorem atrace_mono{c d}(h:CLe c d):∀(l:List AOper) {T:Tr AVal} {H:AHeap} {r},atrace tb c l T H=some r→atrace tb d l T H=some r
 | [],_,_,_,e=>e
 | o::l,T,H,r,e=>by
  simp only[atrace]at e ⊢
  split at e
  ·rename_i v H' hv
   rw[astep_mono h hv]
   split at e
   ·rename_i s hs
    simp only[atrace_mono h l hs]
    exact e
   ·simp at e
  ·simp at e
theorem aloop_mono{f g:Tr AVal→AHeap→Option (AEx×Tr AVal×AHeap)}(h:∀T H r,f T H=some r→g T H=some r):∀(n m:Nat) (T:Tr AVal) (H:AHeap) (r),n≤m→aloop f n T H=some r→aloop g m T H=some r
 | 0,_,_,_,_,_,e=>by simp[aloop]at e
 | n+1,0,_,_,_,hl,_=>om
 | n+1,m+1,T,H,r,hl,e=>by
  simp only[aloop]at e ⊢
  split at e
  ·rename_i T' H' hv
   rw[h _ _ _ hv]
   exact aloop_mono h n m T' H' r om e
  ·rename_i e' T' H' hne hv
   rw[h _ _ _ hv]
   cases e' with
   | normal=>exact absurd rfl hne
   | exit i=>exact e
   | ret=>exact e
  ·simp at e
theorem aexec_mono{c d}(h:CLe c d){k k':Nat}(hk:k≤k'):∀(x:ACode) (T:Tr AVal) (H:AHeap) (r),aexec tb c k x T H=some r→aexec tb d k' x T H=some r:=by
 intro x
 induction x with
 | skip=>intro T H r e; exact e
 | reg l=>
  intro T H r e
  simp only[aexec]at e ⊢
  split at e
  ·rename_i T' H' hv; rw[aregs_mono h l hv]; exact e
  ·simp at e
 | draw l chk=>
  intro T H r e
  simp only[aexec,adraw]at e ⊢
  split at e
  ·rename_i ss hv; rw[atrace_mono h _ hv]; exact e
  ·simp at e
 | seq a b iha ihb=>
  intro T H r e
  simp only[aexec]at e ⊢
  split at e
  ·rename_i T' H' hv; rw[iha _ _ _ hv]; exact ihb _ _ _ e
  ·rename_i e' T' H' hne hv
   rw[iha _ _ _ hv]
   cases e' with
   | normal=>exact absurd rfl hne
   | exit i=>exact e
   | ret=>exact e
  ·simp at e
 | cond c a b iha ihb=>
  intro T H r e
  simp only[aexec]at e ⊢
  split at e
  ·exact iha _ _ _ e
  ·exact ihb _ _ _ e
  ·simp at e
 | block id c ih=>
  intro T H r e
  simp only[aexec]at e ⊢
  split at e
  ·rename_i j T' H' hv; rw[ih _ _ _ hv]; exact e
  ·rename_i e' T' H' hne hv
   rw[ih _ _ _ hv]
   cases e' with
   | exit i=>exact absurd rfl (hne i)
   | normal=>exact e
   | ret=>exact e
  ·simp at e
 | loop c ih=>
  intro T H r e
  simp only[aexec]at e ⊢
  exact aloop_mono (fun T H r hr=>ih T H r hr) k k' T H r hk e
 | exit id=>intro T H r e; exact e
 | ret=>intro T H r e; exact e
theorem acall_mono1{N:ANat}{tab:Tr AFn}:∀(n:Nat),CLe (acall N tab n) (acall N tab (n+1))
 | 0=>fun f a H r e=>by simp[acall]at e
 | n+1=>fun f a H r e=>by
  have ih:=acall_mono1 (N:=N) (tab:=tab) n
  rw[acall]at e ⊢
  cases hn:N.is f with
  | true=>rw[hn]at e; exact e
  | false=>
   rw[hn]at e
   simp only[cond_false]at e ⊢
   split at e
   ·rename_i fn hf
    cases hb:Nat.ble a.length fn.nt with
    | false=>rw[hb]at e; simp at e
    | true=>
     rw[hb]at e
     simp only[cond_true]at e ⊢
     split at e
     ·simp at e
     ·rename_i e' T' H' hne hv
      rw[aexec_mono ih (Nat.le_succ n) _ _ _ _ hv]
      cases e' with
      | exit i=>exact (hne i rfl).elim
      | normal=>exact e
      | ret=>exact e
     ·simp at e
   ·simp at e
theorem acall_mono{N:ANat}{tab:Tr AFn}{n m:Nat}(h:n≤m):CLe (acall N tab n) (acall N tab m):=by
 induction m with
 | zero => obtain rfl : n = 0 := by omega
           exact CLe.refl _
 | succ m ih=>
  by_cases e:n=m+1
  ·subst e; exact CLe.refl _
  ·exact fun f a H r hr=>acall_mono1 m _ _ _ _ (ih om _ _ _ _ hr)
end
end Go.Abs.S
