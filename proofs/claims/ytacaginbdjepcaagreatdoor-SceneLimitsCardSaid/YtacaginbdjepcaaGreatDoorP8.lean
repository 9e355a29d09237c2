/- Part of a proof (ML4 ML5 VSL VN0 W0 W1 VW2 VW3 VW4 VW5 VW6 VW7 VW8 VW9 VWA VWB VWD VWE VWF VWG); no condition. -/
import Derived.Lib.Repeat
import Derived.Lib.Join
import Derived.Test.YtacaginbdjepcaaGreatDoorP6
import Derived.Test.YtacaginbdjepcaaGreatDoorP7
set_option linter.unusedSimpArgs false
set_option linter.unusedVariables false
set_option linter.unnecessarySimpa false
namespace Go.Abs
section
variable {P:Program} {Prot:Gh} {w0:World} {ds:List Deferred} {n N m:Nat} {g:FuncId} {rv:af} {ks:List nN} {H0:ae} {it:Nat} {tb:FuncId->Bool} {A3 A4 A5 A6:Array Oper} {t0 t1:TypeId}
def Dz(k:Nat)(s:Nat->Bool):Nat:=((List.range k).filter fun i=>!s i).length
theorem Gu{k i:Nat}{s:Nat->Bool}(hi:i<k)(hs:s i=false):Dz k (CM s i)<Dz k s:=by
 unfold Dz
 refine filter_lt (fun i=>!s i) (fun j=>!CM s i j) (fun x hx=>?_) i (by simp[hs]) (by simp[fS]) _ (List.mem_range.2 hi)
 by_cases h:x=i
 ·subst h; rw[fS]at hx; simp at hx
 ·rw[kw h]at hx; exact hx
theorem rz(htb:∀f,Nat.blt f bI=true->tb f=true->bc P f=true)(C:uh P n A4 A5 A6 g t0 t1)(hks:(ks.map (·.1)).Nodup)(hv:∀p∈ks,p.2.cells=[p.2]/\p.2.one=true)(hmN:m<N)(hD:∀d,Prot.dead d->d<N)(hip:¬Prot.prot it)
  {i4 i5 i6:Nat} {Q:Exit->Act->World->Prop} {L:Loc} {ρ0:Pl}
  (hend:∀s ρ' T' H' a' w' seen,ρ0.le ρ'->(∀i,i<ks.length->s i=true)->FP Prot w0 ds n N m g rv ks H0 it s ρ' T' H' a' w' seen L->Q (.exit 0) a' w') :
  ∀(k:Nat) (s:Nat->Bool) (ρ:Pl) (T:Tr af) (H:ae) (a:Act) (w:World) (seen:Array Nat),ρ0.le ρ->Dz ks.length s<k->FP Prot w0 ds n N m g rv ks H0 it s ρ T H a w seen L->Code.rounds P (wO i4 i5 i6 A4 A5 A6) Q k a w
 | 0,_,_,_,_,_,_,_,_,h,_=>absurd h (Nat.not_lt_zero _)
 | k+1,s,ρ,T,H,a,w,seen,hle,h,I=>by
  rw[rounds_succ]
  refine Dx htb C hks hv hmN hD hip I (fun hall ρ' T' a' w' hl I'=>hend s ρ' T' H a' w' seen (Pl.le_trans hle hl) hall I') fun i ρ' T' H' a' w' seen' hi hs hl I'=>?_
  exact rz htb C hks hv hmN hD hip hend k _ ρ' T' H' a' w' seen' (Pl.le_trans hle hl) (by have:=Gu hi hs; omega) I'
def jt:List nN->ae->ae
 | [],H=>H
 | _::r,H=>jt r ((H.push (.cells [.str []] 0 false)).push (.cells [.nilFunc] 0 false))
theorem pg:∀(ks:List nN) (H:ae),(jt ks H).next=H.next+2*ks.length
 | [],H=>rfl
 | p::r,H=>by
  simp only[jt,pg r,ND]
  show H.next+1+1+_=_
  omega
theorem ie:∀(ks:List nN) (H:ae) {b:Nat},b<H.next->(jt ks H).get b=H.get b
 | [],H,b,_=>rfl
 | p::r,H,b,h=>by
  simp only[jt]
  rw[ie r _ (b:=b) (show b<H.next+1+1 by omega),ae.get_push,if_neg (by show b≠H.next+1; omega),ae.get_push,if_neg om]
theorem ph:∀(ks:List nN) (H:ae) {i:Nat},i<ks.length->(jt ks H).get (H.next+2*i)=some (.cells [.str []] 0 false)/\(jt ks H).get (H.next+2*i+1)=some (.cells [.nilFunc] 0 false)
 | [],H,i,h=>absurd h (Nat.not_lt_zero _)
 | p::r,H,0,_=>by
  simp only[jt]
  rw[ie r _ (show H.next+2*0<H.next+1+1 by omega),ie r _ (show H.next+2*0+1<H.next+1+1 by omega)]
  refine⟨?_,?_⟩
  ·rw[ae.get_push,if_neg (by show H.next+2*0≠H.next+1; omega),ae.get_push,if_pos om]
  ·rw[ae.get_push,if_pos (by show H.next+2*0+1=H.next+1; omega)]
 | p::r,H,i+1,h=>by
  simp only[jt]
  have:=ph r ((H.push (.cells [.str []] 0 false)).push (.cells [.nilFunc] 0 false)) (i:=i) (by simpa using h)
  have e:((H.push (.cells [.str []] 0 false)).push (.cells [.nilFunc] 0 false)).next=H.next+2:=rfl
  rw[e]at this
  rw[show H.next+2*(i+1)=H.next+2+2*i by omega]
  exact this
theorem rE{ρ:Pl}{w:World}{pr:Nat->Prop}:∀(ks:List nN) (D:Nat->Prop) (H:ae),Rel ⟨pr,D⟩ w0 ρ H w->Rel ⟨pr,fun d=>D d∨∃i,i<ks.length/\(d=H.next+2*i∨d=H.next+2*i+1)⟩ w0 ρ (jt ks H) w
 | [],D,H,R=>R.fewer fun d hd=>by
  rcases hd with hd | ⟨i,hi,_⟩
  ·exact hd
  ·exact absurd hi (Nat.not_lt_zero _)
 | p::r,D,H,R=>by
  have R1:=R.reserve (.cells [.str []] 0 false) rfl
  have R2:=R1.reserve (.cells [.nilFunc] 0 false) rfl
  have:=rE r _ _ R2
  refine Rel.fewer this fun d hd=>?_
  rcases hd with hd | ⟨i,hi,hd⟩
  ·exact .inl (.inl (.inl hd))
  ·cases i with
   | zero=>
    rcases hd with hd | hd
    ·exact .inl (.inl (.inr om))
    ·exact .inl (.inr (show d=H.next+1 by omega))
   | succ i=>
    refine .inr ⟨i,by simpa using hi,?_⟩
    show d=H.next+1+1+2*i∨d=H.next+1+1+2*i+1
    omega
structure FO(P:Program)(n:Nat)(A3:Array Oper)(ty:TypeId):Prop where
 n3:A3.size=2
 mv:qB P n A3 0 (some 21) (.mv (.t 4))
 rg:qS n A3 1 (some 22) (.range ty (.tmp 21))
 ut:∃k e,P.underlying ty=some (.map k e)
theorem yf{a:Act}{w:World}{ty:Nat}{x:Value}(ho:qS n A3 1 (some 22) (.range ty (.tmp 21)))(hx:a.eval (.tmp 21)=x){u:Value}{w1:World}(hr:(Instr.range ty x).run P w=.ok u w1) :
  (execOp a.eval (jw A3 1)).run P w=.ok (.value u) w1:=by
 have h:=ho.op
 generalize jw A3 1=oo at *
 obtain⟨dst,op,type,pos,after,guard⟩:=oo
 simp only at h
 subst h
 show (do pure (Next.value (<- Instr.range ty (a.eval (.tmp 21)))):Sem Next).run P w=_
 rw[hx]
 simp only[Sem.run_bind,hr,Result.andThen_ok]
 rfl
theorem wo(w:World)(o:Obj):RowKit.Below w.heap.size w (w.alloc o):=by
 refine⟨rfl,rfl,rfl,?_,fun c hc=>?_⟩
 ·show w.heap.size<=(w.heap.push o).size
  simp
 ·exact heap_alloc_old w o hc
theorem DS(htb:∀f,Nat.blt f bI=true->tb f=true->bc P f=true){ty:TypeId}(C3:FO P n A3 ty)(C:uh P n A4 A5 A6 g t0 t1)(hks:(ks.map (·.1)).Nodup)(hv:∀p∈ks,p.2.cells=[p.2]/\p.2.one=true)
  {ρ:Pl} {T:Tr af} {H:ae} {a:Act} {w:World} (R:Rel Prot w0 ρ H w) (ht:aH ρ n T a.tmps) (hd:a.defers=ds) (hm:H.get m=some (.map (eE H.next g rv (fun _=>false) 0 ks) ks.length)) (hmn:m<H.next) (g1:T.get 1=some rv) (g4:T.get 4=some (.map (some m)))
  {i3 i4 i5 i6:Nat} {Q:Exit->Act->World->Prop}
  (hQ:∀ρ' T' H' a' w' s,ρ.le ρ'->Rel Prot w0 ρ' H' w'->(∀i,i<ks.length->s i=true)->LH H.next m g rv ks H s H'->aH ρ' n T' a'.tmps->a'.defers=ds->T'.get 1=some rv->T'.get 4=some (.map (some m))->Q .normal a' w') :
  (Code.seq (.region i3 A3 false) (.block 0 (.loop (wO i4 i5 i6 A4 A5 A6)))).wp P Q a w:=by
 have hD:∀d,Prot.dead d->d<H.next:=fun d h=>(R.dead d h).1
 refine wp_seq (wp_region ?_)
 rw[C3.n3]
 show wpOps P A3 _ [0,1] a w
 refine fV htb C3.mv R ht hd (v:=.map (some m)) (H1:=H) (by simp only[bF,eD g4]) ?_
 intro ρ1 a1 w1 hle1 R1 ht1 hd1
 obtain⟨L,ES,hL,_,hb,hE⟩:=kG R1 (mv:=a1.eval (.tmp 21)) (by have:=ht1.at_ 21; rw[eD (v:=.map (some m)) (by simp only[aK]; exact bE)]at this; exact this) hm
 have e21:a1.eval (.tmp 21)=.map (some L.c):=by
  have:=ht1.at_ 21
  rw[eD (v:=.map (some m)) (by simp only[aK]; exact bE)]at this
  simp only[ag]at this
  obtain⟨L',h1,h2⟩:=this
  rw[hL]at h1
  simp only[sJ]at h1
  rw[h1]; exact h2
 obtain⟨kt,et,hut⟩:=C3.ut
 have hrg:=run_range_map w1 ty kt et L.c ES ks.length hut hb
 refine pn C3.rg (yf C3.rg e21 hrg) ?_
 have R2:Rel Prot w0 ρ1 H (w1.alloc (.mapIter (some L.c) ks.length #[] ks.length)):=R1.keep (wo _ _)
 have ht2:aH ρ1 n (aK (aK T (some 21) (.map (some m))) (some 22) (.val (.pointer (some ⟨w1.heap.size,0,none⟩)))) (a1.put (some 22) (.pointer (some ⟨w1.heap.size,0,none⟩))).tmps:=
  bn ht1 C3.rg.ok (by simp only[ag]; exact⟨trivial,rfl⟩)
 have R3:=rE ks Prot.dead H R2
 have hip:¬Prot.prot w1.heap.size:=fun h=>by
  have h1:=(R1.prot _ h).1
  have h2:=R1.size
  omega
 show Exit.then _ _ .normal _ _
 refine wp_block (wp_loop_rounds (ks.length+1) ?_)
 have hrem:Dz ks.length (fun _=>false)<ks.length+1:=by
  have h:∀f:Nat->Bool,((List.range ks.length).filter f).length<ks.length+1:=fun f=>by
   have:=List.length_filter_le f (List.range ks.length)
   rw[List.length_range]at this
   omega
  exact h _
 refine rz (N:=H.next) (m:=m) (rv:=rv) (ks:=ks) (H0:=H) (it:=w1.heap.size) (ds:=ds) (L:=L) (ρ0:=ρ1) htb C hks hv hmn hD hip ?_ (ks.length+1) (fun _=>false) ρ1 _ (jt ks H) _ _ #[] (Pl.le_refl _) hrem
  ⟨R3.fewer fun d hd=>?_,⟨pg ks H,fun b hb _=>ie ks H hb,by rw[ie ks H hmn]; exact hm,fun i p hp=>?_,fun i p hp=>?_⟩,ht2,hd1,?_,?_,?_,hL,heap_alloc_new _ _,fun i _=>by simp⟩
 ·intro s ρ' T' H' a' w' seen hl hall I
  have hdead:∀d,¬EN H.next ks s d:=by
   rintro d ⟨i,hi,hs,_⟩
   rw[hall i hi]at hs; simp at hs
  show Exit.inBlock 0 Q (.exit 0) a' w'
  simp only[Exit.inBlock,if_true]
  exact hQ ρ' T' H' a' w' s (Pl.le_trans hle1 hl) (I.rel.fewer fun d hd=>.inl hd) hall I.lh I.ht I.hd I.t1 I.t4
 ·rcases hd with hd | ⟨i,hi,_,hd⟩
  ·exact .inl hd
  ·exact .inr ⟨i,hi,hd⟩
 ·exact (ph ks H (NA.1 hp).1).1
 ·exact (ph ks H (NA.1 hp).1).2
 ·simp only[aK]; rw[al dD,al dD]; exact g1
 ·simp only[aK]; rw[al dD,al dD]; exact g4
 ·simp only[aK]; rw[bE]
end
end Go.Abs
namespace Go.Abs
open Go.Abs.S
def IR:oD->Exit
 | .normal=>.normal
 | .exit id=>.exit id
 | .ret=>.ret
section
variable {P:Program} {Prot:Gh} {w0:World} {ρ:Pl} {H:ae} {w:World}
theorem uI{tab:Tr bW}(hT:Bc P tab):∀f,Nat.blt f bI=true->uk il tab f=true->bc P f=true:=by
 intro f hf h
 have hg:∃fn,tab.get f=some fn:=by
  unfold uk il at h
  simp only[cond_false]at h
  split at h
  ·exact⟨_,by assumption⟩
  ·simp at h
 obtain⟨fn,hg⟩:=hg
 obtain⟨md,he⟩:=hT _ _ hg
 rcases EK hf he with h9 | ⟨m,h9⟩
 ·obtain⟨fc,c,q1,q2,q3,_⟩:=lW h9; exact iY hf q1 q2 q3
 ·obtain⟨fc,c,b,r,q1,q2,q3,_⟩:=j9 h9; exact iY hf q1 q2 q3
theorem lC(hfol:P.follows .mixedOrders=true){n:Nat}{c:Code}{ac:bC}(hc:cY P n c=some ac){Qs:kV}{T:Tr af}(h:wp (an P il) ac Qs (en T) H){ds:List Deferred}{a:Act}(R:Rel Prot w0 ρ H w)(ht:aH ρ n T a.tmps)(hd:a.defers=ds)
  {Q:Exit->Act->World->Prop} (hQ:∀e T' H' ρ' a' w',Qs e (en T') H'->ρ.le ρ'->Rel Prot w0 ρ' H' w'->aH ρ' n T' a'.tmps->a'.defers=ds->Q (IR e) a' w'):c.wp P Q a w:=by
 obtain⟨k,e,T',H',h1,h2⟩:=uq _ _ _ _ h
 refine wp_mono (pQ hfol (uI (nW P il)) (wI hfol DO (nW P il) k) (ds:=ds) c ac hc ρ T T' H H' e a w R ht hd h1) ?_
 rintro e' a' w' ⟨he,ρ',hl,R',ht',hd'⟩
 have:=hQ e T' H' ρ' a' w' h2 hl R' ht' hd'
 cases e with
 | normal=>simp only at he; subst he; exact this
 | exit id=>simp only at he; subst he; exact this
 | ret=>simp only at he; subst he; exact this
end
end Go.Abs
namespace Go.Proofs.Wo
open Go.Abs Go.Abs.S
open Go Go.Abs Go.Abs.S
def cl:Code->Code
 | .seq a _=>a
 | c=>c
def cr:Code->Code
 | .seq _ b=>b
 | c=>c
def Lz:Code->Array Oper
 | .region _ ops _=>ops
 | _=>#[]
def LA:Code->Nat
 | .region i _ _=>i
 | _=>0
def Le:Code->Code
 | .block _ c=>c
 | c=>c
def loC:Code->Code
 | .loop c=>c
 | c=>c
noncomputable section
def F6:Code:=match Tryz.f20.body with
 | some c=>c
 | none=>.skip
def Nt:Code:=cl (cr (cr (cr F6)))
def R20:Code:=cr (cr (cr (cr F6)))
def Cx:Code:=loC (Le (cr Nt))
def A3:Array Oper:=Lz (cl Nt)
def A4:Array Oper:=Lz (cl Cx)
def A5:Array Oper:=Lz (cl (Le (cr (cr Cx))))
def A6:Array Oper:=Lz (cr (Le (cr (cr Cx))))
end
theorem b20:Tryz.f20.body=some F6:=by kernel_rfl
theorem Gm:F6=.seq (cl F6) (.seq (cl (cr F6)) (.seq (cl (cr (cr F6))) (.seq (.seq (.region (LA (cl Nt)) A3 false) (.block 0 (.loop (wO (LA (cl Cx)) (LA (cl (Le (cr (cr Cx))))) (LA (cr (Le (cr (cr Cx))))) A4 A5 A6)))) R20))):=by kernel_rfl
theorem Js:FO Tryz.prog 47 A3 70:=⟨by kernel_rfl,⟨by kernel_rfl,by kernel_rfl,by kernel_rfl,by kernel_rfl,by kernel_rfl⟩,⟨by kernel_rfl,by kernel_rfl,by kernel_rfl,by kernel_rfl,by kernel_rfl⟩,⟨_,_,Tryz.underlying70⟩⟩
theorem JG:uh Tryz.prog 47 A4 A5 A6 53 9 75:=⟨by kernel_rfl,⟨by kernel_rfl,by kernel_rfl,by kernel_rfl,by kernel_rfl,by kernel_rfl⟩,⟨by kernel_rfl,by kernel_rfl,by kernel_rfl,by kernel_rfl,by kernel_rfl⟩,by kernel_rfl,⟨by kernel_rfl,by kernel_rfl,by kernel_rfl,by kernel_rfl,by kernel_rfl⟩,⟨by kernel_rfl,by kernel_rfl,by kernel_rfl,by kernel_rfl,by kernel_rfl⟩,⟨by kernel_rfl,by kernel_rfl,by kernel_rfl,by kernel_rfl,by kernel_rfl⟩,⟨by kernel_rfl,by kernel_rfl,by kernel_rfl,by kernel_rfl,by kernel_rfl⟩,by kernel_rfl,⟨by kernel_rfl,by kernel_rfl,by kernel_rfl,by kernel_rfl,by kernel_rfl⟩,by kernel_rfl,⟨by kernel_rfl,by kernel_rfl,by kernel_rfl,by kernel_rfl,by kernel_rfl⟩,⟨by kernel_rfl,by kernel_rfl,by kernel_rfl,by kernel_rfl,by kernel_rfl⟩,by kernel_rfl,⟨by kernel_rfl,by kernel_rfl,by kernel_rfl,by kernel_rfl,by kernel_rfl⟩,⟨by kernel_rfl,by kernel_rfl,by kernel_rfl,by kernel_rfl,by kernel_rfl⟩,⟨by kernel_rfl,by kernel_rfl,by kernel_rfl,by kernel_rfl,by kernel_rfl⟩,⟨by kernel_rfl,by kernel_rfl,by kernel_rfl,by kernel_rfl,by kernel_rfl⟩⟩
def Hw:bC->bC
 | .seq a _=>a
 | c=>c
def wv:bC->bC
 | .seq _ b=>b
 | c=>c
theorem p0:cY Tryz.prog 47 (cl F6)=some (Hw Ce.body):=by kernel_rfl
theorem p1:cY Tryz.prog 47 (cl (cr F6))=some (Hw (wv Ce.body)):=by kernel_rfl
theorem p2:cY Tryz.prog 47 (cl (cr (cr F6)))=some (Hw (wv (wv Ce.body))):=by kernel_rfl
theorem p3:cY Tryz.prog 47 R20=some (wv (wv (wv (wv Ce.body)))):=by kernel_rfl
def ul(sp:af):List nN:=[([115,105,122,101],.func (.func 40) [] [sp]),([115,97,109,112,108,101,115],.func (.func 42) [] [sp]),([98,111,117,110,99,101,115],.func (.func 43) [] [sp]),([115,101,101,100],.func (.func 44) [] [sp]),([101,121,101],.func (.func 46) [] [sp]),([97,116],.func (.func 48) [] [sp]),([117,112],.func (.func 49) [] [sp]),([119,105,100,101],.func (.func 50) [] [sp]),([115,107,121],.func (.func 52) [] [sp])]
def KD(rp r:af):List fP:=[(.str [100,105,102,102,117,115,101],.func (.func 54) [] [rp],9),(.str [109,105,114,114,111,114],.func (.func 56) [] [rp],10),(.str [103,108,111,119],.func (.func 57) [] [rp],11),(.str [115,104,97,100,101,114],.func (.func 58) [r] [],12),(.str [98,97,108,108],.func (.func 59) [r] [],13),(.str [109,101,115,104],.func (.func 60) [r] [],14)]
theorem Ed(sp:af):((ul sp).map (·.1)).Nodup:=by
 show ([[115,105,122,101],[115,97,109,112,108,101,115],[98,111,117,110,99,101,115],[115,101,101,100],[101,121,101],[97,116],[117,112],[119,105,100,101],[115,107,121]]:List (List UInt8)).Nodup
 decide
theorem Jl(sp:af):∀p∈ul sp,p.2.cells=[p.2]/\p.2.one=true:=by
 intro p hp
 simp only[ul,List.mem_cons,List.not_mem_nil,or_false]at hp
 rcases hp with rfl | rfl | rfl | rfl | rfl | rfl | rfl | rfl | rfl <;> exact⟨rfl,rfl⟩
theorem cP{H:ae}{m:Nat}{es:List fP}{c:Nat}{k:List UInt8}{v:af}(hg:H.get m=some (.map es c))(hf:bR .str (.str k) es 0=some none) :
  ∃H',me (.mf (.upd .str)) H [.map (some m),.str k,v]=some (.tuple [],H')/\H'.next=H.next/\H'.get m=some (.map (es++[(.str k,v,c)]) (c+1))/\∀b,b≠m->H'.get b=H.get b:=
 ⟨H.set m (.map (es++[(.str k,v,c)]) (c+1)),by simp only[me,FY,hg,JY,qL,cond_true,hf],rfl,by rw[ae.get_set,if_pos rfl],fun b hb=>by rw[ae.get_set,if_neg hb]⟩
def ig:List nN->ae->ae
 | [],H=>H
 | (nm,v)::r,H=>ig r ((H.push (.cells [.str nm] 1 false)).push (.cells [v] 1 false))
theorem kC:∀(ks:List nN) (H:ae),(ig ks H).next=H.next+2*ks.length
 | [],H=>rfl
 | p::r,H=>by
  obtain⟨a,b⟩:=p
  simp only[ig,kC r,ND]
  show H.next+1+1+_=_
  omega
theorem eg:∀(ks:List nN) (H:ae) {b:Nat},(b<H.next∨H.next+2*ks.length<=b)->(ig ks H).get b=H.get b
 | [],H,b,_=>rfl
 | (x,y)::r,H,b,h=>by
  simp only[ig,ND]at h ⊢
  rw[eg r _ (b:=b) (show b<H.next+1+1∨H.next+1+1+2*r.length<=b by omega),ae.get_push,if_neg (by show b≠H.next+1; omega),ae.get_push,if_neg om]
theorem ly:∀(ks:List nN) (H:ae) {i:Nat} {p:nN},ks[i]?=some p->(ig ks H).get (H.next+2*i)=some (.cells [.str p.1] 1 false)/\(ig ks H).get (H.next+2*i+1)=some (.cells [p.2] 1 false)
 | [],H,i,p,h=>by simp at h
 | (x,y)::r,H,0,p,h=>by
  simp only[NI,sJ]at h
  subst h
  simp only[ig]
  rw[eg r _ (show H.next+2*0<H.next+1+1∨_ by omega),eg r _ (show H.next+2*0+1<H.next+1+1∨_ by omega)]
  refine⟨?_,?_⟩
  ·rw[ae.get_push,if_neg (by show H.next+2*0≠H.next+1; omega),ae.get_push,if_pos om]
  ·rw[ae.get_push,if_pos (by show H.next+2*0+1=H.next+1; omega)]
 | (x,y)::r,H,i+1,p,h=>by
  simp only[NJ]at h
  simp only[ig]
  have:=ly r ((H.push (.cells [.str x] 1 false)).push (.cells [y] 1 false)) h
  have e:((H.push (.cells [.str x] 1 false)).push (.cells [y] 1 false)).next=H.next+2:=rfl
  rw[e]at this
  rw[show H.next+2*(i+1)=H.next+2+2*i by omega]
  exact this
def ii(H:ae)(a:Ad):ae:=((H.push (.cells [.ptr (some a)] 0 false)).push (.cells [.ptr (some ⟨a.b,a.lim,a.o+0⟩)] 1 false)).push (.map [] 0)
def mw(H:ae):af:=.ptr (some ⟨H.next,1,0⟩)
def kX(H:ae):af:=.ptr (some ⟨H.next+1,1,0⟩)
def nS(H:ae)(a:Ad):List fP:=eE (H.next+3) 53 (mw H) (fun _=>true) 0 (ul (kX H))++KD (mw H) (.ptr (some a))
def mH(H:ae):List af->Option (af×ae)
 | [.ptr (some a)]=>some (.map (some (H.next+2)),(ig (ul (kX H)) (ii H a)).set (H.next+2) (.map (nS H a) 15))
 | _=>none
theorem _root_.Go.Abs.Rel.heap_eq'{Prot:Gh}{w0:World}{ρ:Pl}{H:ae}{w:World}(R:Rel Prot w0 ρ H w){H':ae}(hn:H'.next=H.next)(hg:∀b,b<H.next->H'.get b=H.get b)(hj:∀b l low,H.next<=b->H'.get b≠some (.cells l low true)):Rel Prot w0 ρ H' w:=by
 refine ⟨R.os, R.tape, R.output, R.size, R.prot, fun b l L h => by rw [hn]; exact R.dom b l L h, fun b l L h => by rw [hg b (R.dom b l L h).1]; exact R.obj b l L h, fun b l L x h hx => R.free b l L x h (by rw [<- hg b (R.dom b l L h).1]; exact hx),
  fun b l L b' l' L' x h h' e hx => R.inj b l L b' l' L' x h h' e (by rw [<- hg b (R.dom b l L h).1]; exact hx), fun b h => by rw [hn]; exact R.dead b h, fun b l low h => ?_⟩
 by_cases hb:b<H.next
 ·exact R.glob b l low (by rw[<- hg b hb]; exact h)
 ·exact absurd h (hj b l low om)
theorem _root_.Go.Abs.Rel.junk{Prot:Gh}{w0:World}{ρ:Pl}{H:ae}{w:World}(R:Rel Prot w0 ρ H w)(b:Nat)(l:List af)(low:Nat)(hb:H.next<=b):H.get b≠some (.cells l low true):=fun h=>by
 obtain⟨L,h1,_⟩:=R.glob b l low h
 have:=(R.dom _ _ _ h1).1
 omega
theorem LE:(Tryz.prog).follows .mixedOrders=true:=by kernel_rfl
theorem Jb{H:ae}{a:Ad}{T:bK}(g0:T 0=.ptr (some a)) :
  wp (an Tryz.prog il) (Hw Ce.body) (fun e T' H'=>e=.normal/\H'=H.push (.cells [.ptr (some a)] 0 false)/\T' 0=.ptr (some a)/\T' 1=mw H) T H:=by
 have m1:ey H [.ptr (some a)]=(mw H,H.push (.cells [.ptr (some a)] 0 false)):=rfl
 simp only[Ce,Hw,sA,sB,seval,g0,af.cells,m1]
 exact⟨tt,tt,tt,tt⟩
theorem Gw{H:ae}{a:Ad}{T:bK}(g1:T 1=mw H) :
  wp (an Tryz.prog il) (Hw (wv Ce.body)) (fun e T' H'=>e=.normal/\H'.next=H.next+2/\H'.get H.next=some (.cells [.ptr (some a)] 0 false)/\H'.get (H.next+1)=some (.cells [.ptr (some ⟨a.b,a.lim,a.o+0⟩)] 1 false)/\(∀b,b≠H.next->b≠H.next+1->H'.get b=H.get b)/\T' 1=mw H/\T' 3=kX H) T (H.push (.cells [.ptr (some a)] 0 false)):=by
 have l1:bg false 1 (H.push (.cells [.ptr (some a)] 0 false)) (mw H)=some (.ptr (some a)):=kQ (Nat.zero_le _) (by rw[ae.get_push,if_pos rfl])
 have e1:b6 (.ptr (some a))=some (.ptr (some a)):=rfl
 have e2:gj 0 (.ptr (some a))=some (.ptr (some ⟨a.b,a.lim,a.o+0⟩)):=rfl
 have m1:ey (H.push (.cells [.ptr (some a)] 0 false)) [.ptr none]=(kX H,(H.push (.cells [.ptr (some a)] 0 false)).push (.cells [.ptr none] 0 false)):=rfl
 have m2:bB 1 ((H.push (.cells [.ptr (some a)] 0 false)).push (.cells [.ptr none] 0 false)) (kX H) (.ptr (some ⟨a.b,a.lim,a.o+0⟩))=some (((H.push (.cells [.ptr (some a)] 0 false)).push (.cells [.ptr none] 0 false)).set (H.next+1) (.cells [.ptr (some ⟨a.b,a.lim,a.o+0⟩)] 1 false)):=jH (y:=.ptr none) rfl rfl (by rw[ae.get_push,if_pos (by rfl)])
 simp only[Ce,Hw,wv,sA,sB,seval,g1,l1,e1,e2,m1,m2]
 refine⟨tt,rfl,?_,?_,fun b h1 h2=>?_,tt,tt⟩
 ·rw[ae.get_set,if_neg om,ae.get_push,if_neg (by show H.next≠H.next+1; omega),ae.get_push,if_pos rfl]
 ·rw[ae.get_set,if_pos rfl]
 ·rw[ae.get_set,if_neg h2,ae.get_push,if_neg (by show b≠H.next+1; omega),ae.get_push,if_neg h1]
theorem Gv{H K:ae}{T:bK}(hK:K.next=H.next+2)(g1:T 1=mw H)(g3:T 3=kX H) :
  wp (an Tryz.prog il) (Hw (wv (wv Ce.body))) (fun e T' H'=>e=.normal/\H'.next=H.next+3/\H'.get (H.next+2)=some (.map (eE (H.next+3) 53 (mw H) (fun _=>false) 0 (ul (kX H))) 9)/\(∀b,b≠H.next+2->H'.get b=K.get b)/\T' 1=mw H/\T' 4=.map (some (H.next+2))) T K:=by
 have mm:me .mkMap K []=some (.map (some (H.next+2)),K.push (.map [] 0)):=by rw[<- hK]; rfl
 have q0:(K.push (.map [] 0)).get (H.next+2)=some (.map [] 0):=by rw[ae.get_push,if_pos hK.symm]
 have n0:(K.push (.map [] 0)).next=H.next+3:=by show K.next+1=_; omega
 have o0:∀b,b≠H.next+2->(K.push (.map [] 0)).get b=K.get b:=fun b hb=>by rw[ae.get_push,if_neg om]
 obtain⟨K1,m1,n1,q1,o1⟩:=cP (H:=(K.push (.map [] 0))) (v:=.func (.func 40) [] [kX H]) q0 (k:=[115,105,122,101]) rfl
 obtain⟨K2,m2,n2,q2,o2⟩:=cP (H:=K1) (v:=.func (.func 42) [] [kX H]) q1 (k:=[115,97,109,112,108,101,115]) rfl
 obtain⟨K3,m3,n3,q3,o3⟩:=cP (H:=K2) (v:=.func (.func 43) [] [kX H]) q2 (k:=[98,111,117,110,99,101,115]) rfl
 obtain⟨K4,m4,n4,q4,o4⟩:=cP (H:=K3) (v:=.func (.func 44) [] [kX H]) q3 (k:=[115,101,101,100]) rfl
 obtain⟨K5,m5,n5,q5,o5⟩:=cP (H:=K4) (v:=.func (.func 46) [] [kX H]) q4 (k:=[101,121,101]) rfl
 obtain⟨K6,m6,n6,q6,o6⟩:=cP (H:=K5) (v:=.func (.func 48) [] [kX H]) q5 (k:=[97,116]) rfl
 obtain⟨K7,m7,n7,q7,o7⟩:=cP (H:=K6) (v:=.func (.func 49) [] [kX H]) q6 (k:=[117,112]) rfl
 obtain⟨K8,m8,n8,q8,o8⟩:=cP (H:=K7) (v:=.func (.func 50) [] [kX H]) q7 (k:=[119,105,100,101]) rfl
 obtain⟨K9,m9,n9,q9,o9⟩:=cP (H:=K8) (v:=.func (.func 52) [] [kX H]) q8 (k:=[115,107,121]) rfl
 simp only[Ce,Hw,wv,sA,sB,seval,g1,g3,mm,m1,m2,m3,m4,m5,m6,m7,m8,m9]
 refine⟨tt,om,q9,fun b hb=>by rw[o9 b hb,o8 b hb,o7 b hb,o6 b hb,o5 b hb,o4 b hb,o3 b hb,o2 b hb,o1 b hb,o0 b hb],tt,tt⟩
theorem Gy{H K:ae}{a:Ad}{T:bK}(hm:K.get (H.next+2)=some (.map (eE (H.next+3) 53 (mw H) (fun _=>true) 0 (ul (kX H))) 9))(hb:K.get H.next=some (.cells [.ptr (some a)] 0 false))(g1:T 1=mw H)(g4:T 4=.map (some (H.next+2))) :
  wp (an Tryz.prog il) (wv (wv (wv (wv Ce.body)))) (fun e T' H'=>e=.ret/\H'.next=K.next/\H'.get (H.next+2)=some (.map (nS H a) 15)/\(∀b,b≠H.next+2->H'.get b=K.get b)/\T' 2=.map (some (H.next+2))) T K:=by
 obtain⟨K1,m1,n1,q1,o1⟩:=cP (H:=K) (v:=.func (.func 54) [] [mw H]) hm (k:=[100,105,102,102,117,115,101]) rfl
 obtain⟨K2,m2,n2,q2,o2⟩:=cP (H:=K1) (v:=.func (.func 56) [] [mw H]) q1 (k:=[109,105,114,114,111,114]) rfl
 obtain⟨K3,m3,n3,q3,o3⟩:=cP (H:=K2) (v:=.func (.func 57) [] [mw H]) q2 (k:=[103,108,111,119]) rfl
 obtain⟨K4,m4,n4,q4,o4⟩:=cP (H:=K3) (v:=.func (.func 58) [.ptr (some a)] []) q3 (k:=[115,104,97,100,101,114]) rfl
 obtain⟨K5,m5,n5,q5,o5⟩:=cP (H:=K4) (v:=.func (.func 59) [.ptr (some a)] []) q4 (k:=[98,97,108,108]) rfl
 obtain⟨K6,m6,n6,q6,o6⟩:=cP (H:=K5) (v:=.func (.func 60) [.ptr (some a)] []) q5 (k:=[109,101,115,104]) rfl
 have lr:∀{J:ae},J.get H.next=K.get H.next->bg false 1 J (mw H)=some (.ptr (some a)):=fun h=>kQ (Nat.zero_le _) (h.trans hb)
 have hne:H.next≠H.next+2:=om
 have l3:=lr (J:=K3) (by rw[o3 _ hne,o2 _ hne,o1 _ hne])
 have l4:=lr (J:=K4) (by rw[o4 _ hne,o3 _ hne,o2 _ hne,o1 _ hne])
 have l5:=lr (J:=K5) (by rw[o5 _ hne,o4 _ hne,o3 _ hne,o2 _ hne,o1 _ hne])
 simp only[Ce,wv,sA,sB,seval,g1,g4,m1,m2,m3,m4,m5,m6,l3,l4,l5]
 refine⟨tt,om,q6,fun b hb=>by rw[o6 b hb,o5 b hb,o4 b hb,o3 b hb,o2 b hb,o1 b hb],tt⟩
theorem BP{args:List af}{H:ae}{v:af}{H':ae}(h:mH H args=some (v,H'))(Prot:Gh)(w0:World)(ρ:Pl)(w:World)(vs:Array Value)(R:Rel Prot w0 ρ H w)(hv:ah ρ args vs.toList) :
  Calls Tryz.prog 20 vs w fun e w'=>∃ρ' u,ρ.le ρ'/\e=.returned u/\Rel Prot w0 ρ' H' w'/\ag ρ' v u:=by
 unfold mH at h
 split at h <;> first | (simp at h; done) | skip
 rename_i a
 simp only[sJ,pJ]at h
 obtain⟨rfl,rfl⟩:=h
 refine calls_of_wp Tryz.func20 b20 ?_
 have hst:=jT (ρ:=ρ) hv (n:=47) (by simp)
 have hnt:Tryz.f20.ntmps=47:=by kernel_rfl
 rw[hnt,Gm]
 have hout:∀b l low,b<H.next∨H.next+21<=b->H.next<=b->H.get b≠some (.cells l low true):=fun b l low _ hb=>R.junk b l low hb
 refine wp_seq (lC LE p0 (Jb (H:=H) (a:=a) rfl) (ds:=[]) R hst rfl ?_)
 rintro _ T1 _ ρ1 a1 w1 ⟨rfl,rfl,g0,g1⟩ hl1 R1 ht1 hd1
 refine wp_seq (lC LE p1 (Gw (H:=H) (a:=a) g1) R1 ht1 hd1 ?_)
 rintro _ T2 K ρ2 a2 w2 ⟨rfl,n2,k0,k1,ko,g1,g3⟩ hl2 R2 ht2 hd2
 refine wp_seq (lC LE p2 (Gv (H:=H) n2 g1 g3) R2 ht2 hd2 ?_)
 rintro _ T3 K3 ρ3 a3 w3 ⟨rfl,n3,k3,ko3,g1,g4⟩ hl3 R3 ht3 hd3
 have tget:∀{T:Tr af} {t:Nat} {v:af},en T t=v->v≠aJ->T.get t=some v:=by
  intro T t v h hv
  unfold en ev at h
  simp only at h
  split at h
  ·rw[<- h]; assumption
  ·exact absurd h.symm hv
 have hks:=Ed (kX H)
 rw[<- n3]at k3
 refine wp_seq (DS (m:=H.next+2) (rv:=mw H) (ks:=ul (kX H)) (fun f hf h=>uI (nW Tryz.prog il) f hf h) Js JG hks (Jl _) R3 ht3 hd3 k3 om (tget g1 (by unfold mw aJ; simp)) (tget g4 (by unfold aJ; simp)) ?_)
 intro ρ4 T4 K4 a4 w4 s hl4 R4 hall lh ht4 hd4 g1' g4'
 have hmap:K4.get (H.next+2)=some (.map (eE (H.next+3) 53 (mw H) (fun _=>true) 0 (ul (kX H))) 9):=by
  rw[lh.map,n3]
  have key:∀(ks:List nN) (k:Nat),(∀i,i<ks.length->s (k+i)=true)->eE (H.next+3) 53 (mw H) s k ks=eE (H.next+3) 53 (mw H) (fun _=>true) k ks:=by
   intro ks
   induction ks with
   | nil=>intro k _; rfl
   | cons p r ih=>
    intro k hk
    obtain⟨x,y⟩:=p
    have h0:=hk 0 (by simp)
    rw[Nat.add_zero]at h0
    simp only[eE,h0,ih (k+1) fun i hi=>by rw[show k+1+i=k+(i+1) by omega]; exact hk (i+1) (by simp; omega)]
  rw[key (ul (kX H)) 0 fun i hi=>by rw[Nat.zero_add]; exact hall i hi]
  rfl
 have hbox:K4.get H.next=some (.cells [.ptr (some a)] 0 false):=by rw[lh.old _ om om,ko3 _ om]; exact k0
 refine lC LE p3 (Gy (H:=H) (a:=a) hmap hbox (by simp only[en,ev,g1']) (by simp only[en,ev,g4'])) R4 ht4 hd4 ?_
 rintro _ T5 K5 ρ5 a5 w5 ⟨rfl,n5,k5,ko5,g2⟩ hl5 R5 ht5 hd5
 have hres:mS Tryz.prog Tryz.f20.results.toList=some Ce.res:=by kernel_rfl
 obtain⟨u,r1,r2⟩:=gB (P:=Tryz.prog) (fn:=Tryz.f20) R5 ht5 hres (xs:=[.map (some (H.next+2))]) (by
  have:=tget g2 (by unfold aJ; simp)
  show gt T5 K5 [.t 2]=_
  simp only[gt,ev,this])
 have hle:ρ.le ρ5:=Pl.le_trans hl1 (Pl.le_trans hl2 (Pl.le_trans hl3 (Pl.le_trans hl4 hl5)))
 have hnx:K4.next=H.next+21:=by rw[lh.next,n3]; rfl
 have hpn:(ii H a).next=H.next+3:=rfl
 have hcn:(ig (ul (kX H)) (ii H a)).next=H.next+21:=by rw[kC,hpn]; rfl
 have pre0:∀b,b<H.next->(ii H a).get b=H.get b:=fun b hb=>by
  unfold ii
  rw[ae.get_push,if_neg (by show b≠H.next+1+1; omega),ae.get_push,if_neg (by show b≠H.next+1; omega),ae.get_push,if_neg om]
 have preB:∀b,H.next+3<=b->(ii H a).get b=H.get b:=fun b hb=>by
  unfold ii
  rw[ae.get_push,if_neg (by show b≠H.next+1+1; omega),ae.get_push,if_neg (by show b≠H.next+1; omega),ae.get_push,if_neg om]
 have pre1:(ii H a).get H.next=some (.cells [.ptr (some a)] 0 false):=by
  unfold ii
  rw[ae.get_push,if_neg (by show H.next≠H.next+1+1; omega),ae.get_push,if_neg (by show H.next≠H.next+1; omega),ae.get_push,if_pos rfl]
 have pre2:(ii H a).get (H.next+1)=some (.cells [.ptr (some ⟨a.b,a.lim,a.o+0⟩)] 1 false):=by
  unfold ii
  rw[ae.get_push,if_neg (by show H.next+1≠H.next+1+1; omega),ae.get_push,if_pos (by rfl)]
 refine⟨hd5,u,r1,ρ5,u,hle,rfl,R5.heap_eq' ?_ (fun b hb=>?_) (fun b l low hb=>?_),r2⟩
 ·show (ig (ul (kX H)) (ii H a)).next=_
  rw[hcn,n5,hnx]
 ·rw[n5,hnx]at hb
  rw[ae.get_set]
  by_cases hm:b=H.next+2
  ·subst hm; rw[if_pos rfl,k5]
  ·rw[if_neg hm,ko5 b hm]
   by_cases h3:b<H.next+3
   ·rw[eg _ _ (.inl (by rw[hpn]; exact h3)),lh.old b om hm,ko3 b hm]
    by_cases h0:b=H.next
    ·subst h0; rw[pre1,k0]
    by_cases h1:b=H.next+1
    ·subst h1; rw[pre2,k1]
    rw[pre0 b om,ko b h0 h1]
   ·obtain⟨i,hi⟩:∃i,b=H.next+3+2*i∨b=H.next+3+2*i+1:=⟨(b-(H.next+3)) / 2,om⟩
    have hik:i<(ul (kX H)).length:=by show i<9; omega
    have hp:=Nz hik
    have hat:=ly (ul (kX H)) (ii H a) hp
    rw[hpn]at hat
    have hnm:=lh.nm i _ hp
    have hdv:=lh.dv i _ hp
    rw[hall i hik,n3]at hnm hdv
    rcases hi with rfl | rfl
    ·rw[hat.1,hnm]; rfl
    ·rw[hat.2,hdv]; rfl
 ·rw[n5,hnx]at hb
  rw[ae.get_set,if_neg om,eg _ _ (.inr (by rw[hpn]; show H.next+3+2*9<=b; omega)),preB b om]
  exact R.junk b l low om
end Go.Proofs.Wo
namespace Go.Proofs.Wo
open Go.Abs Go.Abs.S Go.Proofs
def qt(H:ae):List af->Option (af×ae)
 | [.str s]=>bif Nat.ble s.length 281474976710656 then some (.str s,H) else none
 | _=>none
def ma(H:ae):List af->Option (af×ae)
 | [.str s,.int .i64 (.ofNat c)]=>bif Nat.ble c 9223372036854775807&&Nat.ble (s.length*c) 140737488355328 then some (.str (Lib.repeatL s c),H) else none
 | _=>none
def kx:List af->Option (List (List UInt8))
 | []=>some []
 | .str s::l=>match kx l with
  | some r=>some (s::r)
  | none=>none
 | _=>none
def wJ(H:ae):List af->Option (af×ae)
 | [.slice (some a) n r,.str sep]=>match aT H a n with
  | some xs=>match kx xs with
   | some l=>bif Nat.ble 2 n&&(Nat.ble n 140737488355328&&Nat.ble (Lib.join l sep).length 140737488355328) then some (.str (Lib.join l sep),H) else none
   | none=>none
  | none=>none
 | _=>none
def aE:go:=⟨fun f=>Nat.beq f 95||(Nat.beq f 20||(Nat.beq f 36||Nat.beq f 11)),
 fun f args H=>bif Nat.beq f 95 then qt H args else bif Nat.beq f 20 then mH H args else bif Nat.beq f 36 then wJ H args else bif Nat.beq f 11 then ma H args else none,fun _=>none⟩
open Go.Abs Go.Abs.S
abbrev Bs:=List UInt8
def fr(b:UInt8):Bool:=decide (48<=b.toNat)&&decide (b.toNat<=57)
def blk(b:UInt8):Bool:=((decide (b.toNat=9)||decide (b.toNat=10))||decide (b.toNat=13))||decide (b.toNat=32)
def cU(p:UInt8->Bool)(s:Bs)(at_:Nat):Nat:=at_+((s.drop at_).takeWhile p).length
theorem sf{s:Bs}{i:Nat}{c:UInt8}(h:s[i]?=some c):s.drop i=c::s.drop (i+1):=by
 have hlt:=(NA.1 h).1
 rw[List.drop_eq_getElem_cons hlt]
 congr 1
 rw[Nz hlt]at h
 simpa using h
theorem zC{p:UInt8->Bool}{s:Bs}{i:Nat}{c:UInt8}(h:s[i]?=some c)(hp:p c=true):cU p s i=cU p s (i+1):=by
 unfold cU
 rw[sf h,List.takeWhile_cons_of_pos hp,ND]
 omega
theorem Gq{p:UInt8->Bool}{s:Bs}{i:Nat}{c:UInt8}(h:s[i]?=some c)(hp:p c=false):cU p s i=i:=by
 unfold cU
 rw[sf h,List.takeWhile_cons_of_neg (by simp[hp])]
 simp
theorem Dv{p:UInt8->Bool}{s:Bs}{i:Nat}(h:s.length<=i):cU p s i=i:=by
 unfold cU
 rw[List.drop_eq_nil_of_le h]
 simp
theorem zD(p:UInt8->Bool)(s:Bs)(i:Nat):i<=cU p s i:=Nat.le_add_right _ _
theorem ob{p:UInt8->Bool}{s:Bs}{i:Nat}(h:i<=s.length):cU p s i<=s.length:=by
 unfold cU
 have:=(List.takeWhile_sublist (p:=p) (l:=s.drop i)).length_le
 simp only[List.length_drop]at this
 omega
theorem zB{p:UInt8->Bool}{s:Bs}{i j:Nat}(h1:i<=j)(h2:j<cU p s i):∃c,s[j]?=some c/\p c=true:=by
 unfold cU at h2
 have hj:j-i<((s.drop i).takeWhile p).length:=om
 have hm:=List.getElem_mem hj
 have hp:=List.all_takeWhile (p:=p) (l:=s.drop i)
 refine⟨((s.drop i).takeWhile p)[j-i],?_,List.all_eq_true.1 hp _ hm⟩
 obtain⟨t,ht⟩:=List.takeWhile_prefix p (l:=s.drop i)
 have:(s.drop i)[j-i]?=some ((s.drop i).takeWhile p)[j-i]:=by
  conv=>lhs; rw[<- ht]
  rw[NO hj,Nz hj]
 rw[List.getElem?_drop,show i+(j-i)=j by omega]at this
 exact this
theorem Du{p:UInt8->Bool}{s:Bs}{i:Nat}{c:UInt8}(h:s[cU p s i]?=some c):p c=false:=by
 unfold cU at h
 rw[<- List.getElem?_drop]at h
 generalize s.drop i=l at h
 induction l with
 | nil=>simp at h
 | cons a l ih=>
  cases ha:p a with
  | true=>
   rw[List.takeWhile_cons_of_pos ha]at h
   simp only[ND,NJ]at h
   exact ih h
  | false=>
   rw[List.takeWhile_cons_of_neg (by simp[ha])]at h
   simp only[NE,NI,sJ]at h
   rw[<- h]; exact ha
def qJ(s:Bs)(i:Nat):Nat:=
 if cU fr s i=i∨s[cU fr s i]?≠some 46 then cU fr s i
 else if cU fr s i+1<cU fr s (cU fr s i+1) then cU fr s (cU fr s i+1) else cU fr s i
theorem GG{s:Bs}{i:Nat}(h:i<=s.length):qJ s i<=s.length:=by
 unfold qJ
 have h1:=ob (p:=fr) h
 split
 ·exact h1
 ·rename_i hn
  have hs:s[cU fr s i]?=some 46:=by
   by_cases c:s[cU fr s i]?=some 46
   ·exact c
   ·exact absurd (.inr c) hn
  have hlt:=(NA.1 hs).1
  split
  ·exact ob om
  ·exact h1
mutual
def bl:Bs->Bs
 | []=>[]
 | c::r=>if blk c then bl r else if c.toNat=35 then rm r else c::r
def rm:Bs->Bs
 | []=>[]
 | c::r=>if c.toNat=10 then bl r else rm r
end
def dv(c:UInt8):Nat:=c.toNat-48
def cR(l:Bs):Nat:=l.foldl (fun n c=>n*10+dv c) 0
theorem B2(l:Bs)(n:Nat):l.foldl (fun n c=>n*10+dv c) n=n*10 ^ l.length+cR l:=by
 induction l generalizing n with
 | nil=>simp[cR]
 | cons c l ih=>
  simp only[List.foldl_cons,cR,ND]
  rw[ih,ih (0*10+dv c)]
  rw[Nat.pow_succ]
  have:(n*10+dv c)*10 ^ l.length=n*(10 ^ l.length*10)+(0*10+dv c)*10 ^ l.length:=by
   rw[Nat.add_mul,Nat.zero_mul,Nat.zero_add,Nat.mul_assoc,Nat.mul_comm 10]
  omega
theorem uw(l:Bs)(c:UInt8):cR (l++[c])=cR l*10+dv c:=by simp[cR]
open Go.Abs Go.Abs.S
def ep(l:List Nat):Nat:=l.foldl (fun n d=>n*10+d) 0
theorem qX(l:List Nat)(n:Nat):l.foldl (fun n d=>n*10+d) n=n*10 ^ l.length+ep l:=by
 induction l generalizing n with
 | nil=>simp[ep]
 | cons c l ih=>
  simp only[List.foldl_cons,ep,ND]
  rw[ih,ih (0*10+c),Nat.pow_succ]
  have:(n*10+c)*10 ^ l.length=n*(10 ^ l.length*10)+(0*10+c)*10 ^ l.length:=by
   rw[Nat.add_mul,Nat.zero_mul,Nat.zero_add,Nat.mul_assoc,Nat.mul_comm 10]
  omega
theorem mj(d:Nat)(l:List Nat):ep (d::l)=d*10 ^ l.length+ep l:=by
 have:=qX l (0*10+d)
 simp only[Nat.zero_mul,Nat.zero_add]at this
 rw[<- this]; simp[ep]
theorem k8:∀{l:List Nat},(∀d∈l,d<=9)->ep l<10 ^ l.length
 | [],_=>by simp[ep]
 | d::l,h=>by
  have h1:=h d (by simp)
  have h2:=k8 (l:=l) fun x hx=>h x (by simp[hx])
  rw[mj,ND,Nat.pow_succ]
  have:d*10 ^ l.length<=9*10 ^ l.length:=Nat.mul_le_mul_right _ h1
  omega
def jF:List Nat->Nat×List Nat
 | []=>(0,[])
 | d::r=>((d*2+(jF r).1) / 10,(d*2+(jF r).1) % 10::(jF r).2)
theorem ot:∀l:List Nat,(jF l).2.length=l.length
 | []=>rfl
 | d::r=>by simp only[jF,ND,ot r]
theorem pO:∀{l:List Nat},(∀d∈l,d<=9)->(jF l).1<=1
 | [],_=>by simp[jF]
 | d::r,h=>by
  have h1:=h d (by simp)
  have h2:=pO (l:=r) fun x hx=>h x (by simp[hx])
  simp only[jF]; omega
theorem Av:∀(l:List Nat),∀d∈(jF l).2,d<=9
 | [],d,h=>by simp[jF]at h
 | a::r,d,h=>by
  simp only[jF,List.mem_cons]at h
  rcases h with rfl | h
  ·omega
  ·exact Av r d h
theorem Au:∀(l:List Nat),(jF l).1*10 ^ l.length+ep (jF l).2=2*ep l
 | []=>by simp[jF,ep]
 | d::r=>by
  have ih:=Au r
  simp only[jF,mj,ot,ND,Nat.pow_succ]
  generalize (jF r).1=o at *
  generalize ep (jF r).2=v at *
  generalize ep r=u at *
  generalize 10 ^ r.length=p at *
  have h1:=Nat.div_add_mod (d*2+o) 10
  have e1:(d*2+o) / 10*(p*10)=10*((d*2+o) / 10)*p:=by rw[Nat.mul_comm p,<- Nat.mul_assoc,Nat.mul_comm _ 10]
  have e2:(10*((d*2+o) / 10)+(d*2+o) % 10)*p=(d*2+o)*p:=by rw[h1]
  have e3:(d*2+o)*p=2*(d*p)+o*p:=by rw[Nat.add_mul,Nat.mul_comm d 2,Nat.mul_assoc]
  rw[Nat.add_mul]at e2
  rw[e1]
  omega
def bits(l:List Nat)(n:Nat):Nat->Nat×List Nat
 | 0=>(n,l)
 | k+1=>(2*(bits l n k).1+(jF (bits l n k).2).1,(jF (bits l n k).2).2)
theorem lY(l:List Nat)(n:Nat):∀k,(bits l n k).2.length=l.length
 | 0=>rfl
 | k+1=>by simp only[bits,ot,lY l n k]
theorem wi{l:List Nat}(h:∀d∈l,d<=9)(n:Nat):∀k,∀d∈(bits l n k).2,d<=9
 | 0=>h
 | k+1=>by simp only[bits]; exact Av _
theorem p9(l:List Nat)(n:Nat):∀k,(bits l n k).1*10 ^ l.length+ep (bits l n k).2=2 ^ k*(n*10 ^ l.length+ep l)
 | 0=>by simp[bits]
 | k+1=>by
  have ih:=p9 l n k
  have h2:=Au (bits l n k).2
  rw[lY]at h2
  simp only[bits,Nat.pow_succ]
  rw[Nat.add_mul,Nat.mul_assoc,Nat.mul_right_comm (2 ^ k),<- ih]
  omega
theorem Fc{l:List Nat}(h:∀d∈l,d<=9)(n k:Nat):(bits l n k).1=2 ^ k*(n*10 ^ l.length+ep l) / 10 ^ l.length:=by
 have h1:=p9 l n k
 have h2:=k8 (wi h n k)
 rw[lY]at h2
 rw[<- h1]
 have hp:0<10 ^ l.length:=Nat.pos_of_ne_zero (by simp)
 rw[Nat.mul_comm,Nat.mul_add_div hp,Nat.div_eq_of_lt h2,Nat.add_zero]
def kl(l:List Nat):Nat:=2 ^ 32*ep l / 10 ^ l.length
theorem Cg{l:List Nat}(h:∀d∈l,d<=9)(n:Nat):(bits l n 32).1=2 ^ 32*n+kl l:=by
 rw[Fc h,kl,Nat.mul_add]
 have hp:0<10 ^ l.length:=Nat.pos_of_ne_zero (by simp)
 rw[<- Nat.mul_assoc,Nat.mul_comm (2 ^ 32*n),Nat.mul_add_div hp]
theorem Aj{l:List Nat}(h:∀d∈l,d<=9):kl l<2 ^ 32:=by
 have:=k8 h
 unfold kl
 have hp:0<10 ^ l.length:=Nat.pos_of_ne_zero (by simp)
 exact (Nat.div_lt_iff_lt_mul hp).2 (Nat.mul_lt_mul_of_pos_left this dD)
theorem nl(a b:List Nat):ep (a++b)=ep a*10 ^ b.length+ep b:=by
 have:=qX b (ep a)
 rw[<- this]; simp[ep]
theorem oO:∀k,ep (List.replicate k 0)=0
 | 0=>rfl
 | k+1=>by rw[List.replicate_succ,mj,oO k]; simp
theorem Ew(l:List Nat)(k:Nat):kl (l++List.replicate k 0)=kl l:=by
 unfold kl
 rw[nl,oO,lA,List.length_replicate,Nat.add_zero,Nat.pow_add,<- Nat.mul_assoc]
 exact Nat.mul_div_mul_right _ _ (Nat.pos_of_ne_zero (by simp))
theorem BX{l:List Nat}(h:∀d∈l,d<=9)(hl:32<=l.length):kl (l.take 32)=kl l:=by
 have ht:(l.take 32).length=32:=by simp; omega
 have hd:(l.drop 32).length=l.length-32:=by simp
 have e:ep l=ep (l.take 32)*10 ^ (l.length-32)+ep (l.drop 32):=by
  rw[<- hd,<- nl,List.take_append_drop]
 have hlt:=k8 (l:=l.drop 32) fun d hd=>h d (List.mem_of_mem_drop hd)
 rw[hd]at hlt
 have e2:(10:Nat) ^ l.length=10 ^ (l.length-32)*10 ^ 32:=by rw[<- Nat.pow_add]; congr 1; omega
 unfold kl
 rw[ht,e,e2]
 generalize ep (l.take 32)=A
 generalize ep (l.drop 32)=B at *
 generalize hp:(10:Nat) ^ (l.length-32)=p at *
 have hpp:0<p:=by rw[<- hp]; exact Nat.pos_of_ne_zero (by simp)
 rw[<- Nat.div_div_eq_div_mul,Nat.mul_add,<- Nat.mul_assoc,Nat.mul_comm (2 ^ 32*A) p,Nat.mul_add_div hpp]
 have hc:2 ^ 32*B / p<2 ^ 32:=(Nat.div_lt_iff_lt_mul hpp).2 (Nat.mul_lt_mul_of_pos_left hlt dD)
 generalize 2 ^ 32*B / p=c at hc
 have e3:(10:Nat) ^ 32=2 ^ 32*5 ^ 32:=by decide
 rw[e3,<- Nat.div_div_eq_div_mul,<- Nat.div_div_eq_div_mul,Nat.mul_add_div dD,Nat.div_eq_of_lt hc,Nat.add_zero,Nat.mul_div_cancel_left _ dD]
open Go.Abs Go.Abs.S
abbrev by8(c:UInt8):af:=.int .u8 (c.toNat:Int)
def Lq(N:go)(g:Nat)(p:UInt8->Bool):Prop:=∀(c:UInt8) (H:ae),an Tryz.prog N g [by8 c] H fun v H'=>v=.bool (p c)/\H=H'
theorem kL(hN:aE.is 103=false):Lq aE 103 fr:=by
 intro c H
 refine ai hN Kr rfl ?_
 by_cases h1:(48:Int)<=(c.toNat:Int)
 ·by_cases h2:(c.toNat:Int)<=57
  ·simp only[Hj,sA,sB,seval,h1,h2]
   exact⟨by simp[fr]; omega,by trivial⟩
  ·simp only[Hj,sA,sB,seval,h1,h2]
   exact⟨by simp[fr]; omega,by trivial⟩
 ·simp only[Hj,sA,sB,seval,h1]
  exact⟨by simp[fr]; omega,by trivial⟩
theorem uR(hN:aE.is 111=false){g:Nat}{p:UInt8->Bool}(hp:Lq aE g p){H:ae}{s:Bs}{i:Nat}(hi:i<=s.length)(hs:s.length<=4611686018427387904)(hg:g<1024:=by decide) :
  an Tryz.prog aE 111 [.str s,.int .i64 (i:Int),.func (.func g) [] []] H fun v H'=>v=.int .i64 (cU p s i:Int)/\H=H':=by
 refine ai hN Ko rfl ?_
 simp only[KZ,hg,sA,sB,seval]
 refine bL (fun q (T:bK) H'=>∃j:Nat,j<=s.length/\q=s.length-j/\T 0=.str s/\T 1=.int .i64 (j:Int)/\T 2=.func (.func g) [] []/\cU p s i=cU p s j/\H=H') (s.length-i) ⟨i,hi,rfl,rfl,rfl,rfl,rfl,rfl⟩ ?_
 rintro q T _ ⟨j,hj,rfl,g0,g1,g2,hA,rfl⟩
 by_cases hlt:j<s.length
 ·have hlt':(j:Int)<(s.length:Int):=om
  obtain⟨c,hc⟩:=aO hlt
  simp only[sA,sB,seval,hg,g0,g1,g2,hlt',bi hc]
  refine (hp c H).mono ?_
  rintro v _ ⟨rfl,rfl⟩
  cases hb:p c with
  | true=>
   simp only[sA,sB,seval,hg,g0,g1,g2,cF j om]
   exact⟨_,om,j+1,om,rfl,by trivial,rfl,by trivial,by rw[hA,zC hc hb],by trivial⟩
  | false=>
   simp only[sA,sB,seval,hg,g0,g1,g2]
   exact⟨by rw[hA,Gq hc hb],by trivial⟩
 ·have hlt':¬(j:Int)<(s.length:Int):=om
  simp only[sA,sB,seval,hg,g0,g1,g2,hlt']
  exact⟨by rw[hA,Dv om],by trivial⟩
theorem tz(h23:aE.is 104=false)(h25:aE.is 111=false)(h22:aE.is 103=false){H:ae}{s:Bs}{i:Nat}(hi:i<=s.length)(hs:s.length<=4611686018427387904) :
  an Tryz.prog aE 104 [.str s,.int .i64 (i:Int)] H fun v H'=>v=.int .i64 (qJ s i:Int)/\H=H':=by
 refine ai h23 Kq rfl ?_
 simp only[Lb,sA,sB,seval]
 refine (uR h25 (kL h22) hi hs).mono ?_
 rintro v _ ⟨rfl,rfl⟩
 have h1:=zD fr s i
 have h2:=ob (p:=fr) hi
 unfold qJ
 generalize cU fr s i=e at *
 by_cases he:(e:Int)=(i:Int)
 ·obtain rfl:e=i:=om
  simp only[sA,sB,seval]
  exact⟨by rw[if_pos (.inl (by trivial))],by trivial⟩
 by_cases hl:(e:Int)=(s.length:Int)
 ·obtain rfl:e=s.length:=om
  have hn:s[s.length]?=none:=NQ om
  simp only[sA,sB,seval,he]
  exact⟨by rw[if_pos (.inr (by rw[hn]; simp))],by trivial⟩
 obtain⟨c,hc⟩:=aO (l:=s) (i:=e) om
 by_cases h46:(c.toNat:Int)=46
 ·have hc46:s[e]?=some 46:=by
   rw[hc]; congr 1; exact UInt8.toNat_inj.1 (by simpa using (show c.toNat=46 by omega))
  have hcond:¬(e=i∨s[e]?≠some 46):=by
   rintro (h | h)
   ·omega
   ·exact h hc46
  rw[if_neg hcond]
  simp only[sA,sB,seval,he,hl,bi hc,h46,cF e om]
  refine (uR h25 (kL h22) (i:=e+1) om hs).mono ?_
  rintro v _ ⟨rfl,rfl⟩
  by_cases hm:((e+1:Nat):Int)<(cU fr s (e+1):Int)
  ·simp only[sA,sB,seval,cF e om,hm]
   exact⟨by rw[if_pos om],by trivial⟩
  ·simp only[sA,sB,seval,cF e om,hm]
   exact⟨by rw[if_neg om],by trivial⟩
 ·have hcond:e=i∨s[e]?≠some 46:=by
   right
   rw[hc]
   intro h
   simp only[sJ]at h
   subst h
   exact h46 rfl
  rw[if_pos hcond]
  simp only[sA,sB,seval,he,hl,bi hc,h46]
  exact⟨by trivial,by trivial⟩
open Go.Abs Go.Abs.S
def kJ(s:Bs):List Nat:=s.map dv
theorem oj{s:Bs}(h:∀c∈s,fr c=true):∀d∈kJ s,d<=9:=by
 intro d hd
 obtain⟨c,hc,rfl⟩:=List.mem_map.1 hd
 have:=h c hc
 simp[fr]at this
 unfold dv; omega
def zP(s:Bs)(i:Nat):List Nat:=kJ (s.take i)++List.replicate (32-i) 0
theorem zO(s:Bs){i:Nat}(h:i<=s.length)(h2:i<=32):(zP s i).length=32:=by
 simp[zP,kJ]; omega
theorem Gz(s:Bs){i:Nat}{c:UInt8}(hc:s[i]?=some c)(h2:i<32):(zP s i).set i (dv c)=zP s (i+1):=by
 have hlt:=(NA.1 hc).1
 have hl:(kJ (s.take i)).length=i:=by simp[kJ]; omega
 unfold zP
 rw[List.set_append_right _ _ om,hl,Nat.sub_self,show 32-i=(32-(i+1))+1 by omega,List.replicate_succ,List.set_cons_zero]
 rw[List.take_add_one,hc]
 simp[kJ]
theorem DH(s:Bs)(h:∀c∈s,fr c=true):kl (zP s (min s.length 32))=kl (kJ s):=by
 by_cases hl:s.length<=32
 ·rw[Nat.min_eq_left hl,zP,List.take_length,Ew]
 ·rw[Nat.min_eq_right om]
  have e:zP s 32=(kJ s).take 32:=by simp[zP,kJ,List.map_take]
  rw[e,BX (oj h) (by simp[kJ]; omega)]
def nP(l:List Nat)(m:Nat):List Nat:=l.take m++(jF (l.drop m)).2
theorem Eu(l:List Nat):nP l l.length=l:=by simp[nP,jF]
theorem BV(l:List Nat):nP l 0=(jF l).2:=by simp[nP]
theorem vG(l:List Nat)(m:Nat):(nP l m).length=l.length:=by
 simp[nP,ot]; omega
theorem Et{l:List Nat}{m d:Nat}(h:l[m]?=some d):(nP l (m+1))[m]?=some d:=by
 have hlt:=(NA.1 h).1
 rw[nP,NO (by simp; omega),List.getElem?_take_of_lt om,h]
theorem As{l:List Nat}{m d:Nat}(h:l[m]?=some d):l.drop m=d::l.drop (m+1):=by
 have hlt:=(NA.1 h).1
 rw[List.drop_eq_getElem_cons hlt]
 congr 1
 rw[Nz hlt]at h
 simpa using h
theorem Es{l:List Nat}{m d:Nat}(h:l[m]?=some d):(nP l (m+1)).set m ((d*2+(jF (l.drop (m+1))).1) % 10)=nP l m:=by
 have hlt:=(NA.1 h).1
 unfold nP
 rw[As h,jF]
 rw[List.set_append_left _ _ (by simp; omega)]
 rw[List.take_add_one,h,Option.toList_some,List.set_append_right _ _ (by simp; omega),NM]
 congr 1
 have:m-(l.take m).length=0:=by simp; omega
 rw[this]; rfl
theorem BB(h35:aE.is 105=false){H:ae}{s:Bs}(hd:∀c∈s,fr c=true)(hs:s.length<=4611686018427387904) :
  an Tryz.prog aE 105 [.str s] H fun v H'=>v=.int .i64 (kl (kJ s):Int)/\bw H.next H H':=by
 refine ai h35 Kp rfl ?_
 obtain⟨H1,m1,r1,n1,k1⟩:=aP H (gr (List.replicate 32 0)) (n:=32) rfl
 have hz:gr (List.replicate 32 0)=[.int .u8 0,.int .u8 0,.int .u8 0,.int .u8 0,.int .u8 0,.int .u8 0,.int .u8 0,.int .u8 0,.int .u8 0,.int .u8 0,.int .u8 0,.int .u8 0,.int .u8 0,.int .u8 0,.int .u8 0,.int .u8 0,.int .u8 0,.int .u8 0,.int .u8 0,.int .u8 0,.int .u8 0,.int .u8 0,.int .u8 0,.int .u8 0,.int .u8 0,.int .u8 0,.int .u8 0,.int .u8 0,.int .u8 0,.int .u8 0,.int .u8 0,.int .u8 0]:=rfl
 rw[hz]at m1
 have hmin:(if (32:Int)<(s.length:Int) then (32:Int) else (s.length:Int))=((min s.length 32:Nat):Int):=by
  split <;> omega
 simp only[La,sA,sB,seval,m1,hmin]
 have p0:zP s 0=List.replicate 32 0:=by simp[zP,kJ]
 rw[<- p0]at r1
 generalize hb:H.next=b at *
 refine bL (fun q (T:bK) H'=>∃i:Nat,i<=min s.length 32/\q=min s.length 32-i/\T 0=.str s/\T 3=ak b 32 0/\T 11=.int .i64 ((min s.length 32:Nat):Int)/\T 12=.int .i64 (i:Int)/\Row H' b (gr (zP s i))/\H'.next=b+1/\∀c,c<b->H'.get c=H.get c) (min s.length 32)
  ⟨0,Nat.zero_le _,rfl,rfl,by simp only[sA,sB,seval],by simp only[sA,sB,seval],by simp only[sA,sB,seval]; try rfl,r1,om,fun c hc=>k1 c om⟩ ?_
 clear m1 r1 k1 n1 H1
 rintro q T H1 ⟨i,hi,rfl,g0,g3,g11,g12,r1,n1,k1⟩
 by_cases hlt:i<min s.length 32
 ·have hlt':(i:Int)<((min s.length 32:Nat):Int):=om
  obtain⟨c,hc⟩:=aO (l:=s) (i:=i) om
  have hdc:=hd c (NH hc)
  have hdv:(c.toNat:Int)-48=((dv c:Nat):Int):=by simp[fr]at hdc; unfold dv; omega
  have hd9:dv c<=9:=by simp[fr]at hdc; unfold dv; omega
  have hw:IntKind.u8.wrap ((dv c:Nat):Int)=((dv c:Nat):Int):=dz om om
  have ia:=ud (b:=b) (n:=32) (i:=i) om .i64
  obtain⟨H2,m2,r2,n2,k2⟩:=bj r1 (n:=32) (by rw[fG,zO s om om]) (i:=i) om (x:=.int .u8 ((dv c:Nat):Int)) rfl
  simp only[sA,sB,seval,g0,g3,g11,g12,hlt',bi hc,hdv,hw,ia,m2,cF i om]
  refine⟨_,om,i+1,om,rfl,by trivial,by trivial,by trivial,rfl,?_,om,fun c hc=>(k2 c om).trans (k1 c hc)⟩
  rw[<- Gz s hc om,th]
  exact r2
 obtain rfl:i=min s.length 32:=om
 simp only[sA,sB,seval,g0,g3,g11,g12,Int.lt_irrefl]
 have hl:=zO s (i:=min s.length 32) om om
 have hp9:∀d∈zP s (min s.length 32),d<=9:=by
  intro d hdm
  rcases List.mem_append.1 hdm with h | h
  ·exact oj (s:=s.take (min s.length 32)) (fun c hc=>hd c (List.mem_of_mem_take hc)) d h
  ·have:=(List.mem_replicate.1 h).2; omega
 rw[<- DH s hd]
 generalize zP s (min s.length 32)=l at *
 refine bL (fun q (T:bK) H'=>∃k:Nat,k<=32/\q=32-k/\T 3=ak b 32 0/\T 5=.int .i64 ((bits l 0 k).1:Int)/\T 22=.int .i64 (k:Int)/\Row H' b (gr (bits l 0 k).2)/\H'.next=b+1/\∀c,c<b->H'.get c=H.get c) 32
  ⟨0,Nat.zero_le _,rfl,by simp only[sA,sB,seval,g3],by simp only[sA,sB,seval]; try rfl,by simp only[sA,sB,seval]; try rfl,r1,n1,k1⟩ ?_
 clear g0 g3 g11 g12 r1 n1 k1 T H1
 rintro q T H1 ⟨k,hk,rfl,g3,g5,g22,r1,n1,k1⟩
 by_cases hlt:k<32
 ·have hlt':(k:Int)<32:=om
  have hb9:=wi hp9 0 k
  have hbl:=lY l 0 k
  rw[hl]at hbl
  have hbv:(bits l 0 k).1<2 ^ 32:=by
   have h1:=p9 l 0 k
   have h2:=k8 hp9
   rw[Nat.zero_mul,Nat.zero_add,hl]at h1
   rw[hl]at h2
   have h3:2 ^ k<=2 ^ 32:=Nat.pow_le_pow_right om hk
   have h4:(bits l 0 k).1*10 ^ 32<2 ^ 32*10 ^ 32:=by
    calc (bits l 0 k).1*10 ^ 32<=2 ^ k*ep l:=om
     _<=2 ^ 32*ep l:=Nat.mul_le_mul_right _ h3
     _<2 ^ 32*10 ^ 32:=Nat.mul_lt_mul_of_pos_left h2 dD
   exact Nat.lt_of_mul_lt_mul_right h4
  simp only[sA,sB,seval,g3,g5,g22,hlt']
  have hbits:bits l 0 (k+1)=(2*(bits l 0 k).1+(jF (bits l 0 k).2).1,(jF (bits l 0 k).2).2):=rfl
  generalize hm:(bits l 0 k).2=m at *
  generalize hout:(bits l 0 k).1=out at *
  have hov:=pO hb9
  refine bL (fun q (T:bK) H'=>∃j:Nat,j<=32/\j=q/\T 3=ak b 32 0/\T 5=.int .i64 (out:Int)/\T 22=.int .i64 (k:Int)/\T 6=.int .u8 ((jF (m.drop j)).1:Int)/\T 7=.int .i64 ((j:Int)-1)/\Row H' b (gr (nP m j))/\H'.next=b+1/\∀c,c<b->H'.get c=H.get c) 32
   ⟨32,om,rfl,by simp only[sA,sB,seval,g3],by simp only[sA,sB,seval,g5],by simp only[sA,sB,seval,g22],by simp only[sA,sB,seval]; rw[List.drop_eq_nil_of_le om]; rfl,by simp only[sA,sB,seval]; try rfl,by rw[<- hbl,Eu]; exact r1,n1,k1⟩ ?_
  clear g3 g5 g22 r1 n1 k1 T H1
  rintro q T H1 ⟨j,hj,rfl,g3,g5,g22,g6,g7,r1,n1,k1⟩
  cases j with
  | zero=>
   have c0:¬(0:Int)<=((0:Nat):Int)-1:=om
   rw[List.drop_zero]at g6
   rw[BV]at r1
   have hsh:out*2 ^ 1<2 ^ 63:=om
   have e1:=wm (k':=.u64) (a:=out) (b:=1) om hsh
   have e2:=AE (a:=out*2 ^ 1) (b:=(jF m).1) hsh om
   rw[DJ 1 out om]at e2
   have hw:IntKind.i64.wrap ((jF m).1:Int)=((jF m).1:Int):=aR om om
   simp only[Int.cast_ofNat_Int]at e1
   simp only[sA,sB,seval,g3,g5,g22,g6,g7,c0,e1,e2,hw,cF k om]
   refine⟨_,om,k+1,om,rfl,by trivial,?_,rfl,?_,n1,k1⟩
   ·rw[hbits]; simp only; congr 2; omega
   ·rw[hbits]; exact r1
  | succ j=>
   have c0:(0:Int)<=((j+1:Nat):Int)-1:=om
   have ej:((j+1:Nat):Int)-1=(j:Int):=om
   rw[ej]at g7 c0
   obtain⟨d,hdd⟩:=aO (l:=m) (i:=j) om
   have hd9:=hb9 d (NH hdd)
   have ho:=pO (l:=m.drop (j+1)) fun x hx=>hb9 x (List.mem_of_mem_drop hx)
   have hset:=Es hdd
   have hdr:jF (m.drop j)=((d*2+(jF (m.drop (j+1))).1) / 10,(d*2+(jF (m.drop (j+1))).1) % 10::(jF (m.drop (j+1))).2):=by rw[As hdd]; rfl
   generalize (jF (m.drop (j+1))).1=o at *
   have ia:=ud (b:=b) (n:=32) (i:=j) om .i64
   have l1:=ib r1 (n:=32) (by rw[fG,vG,hbl]) (Gf (Et hdd))
   have w1:IntKind.u8.wrap ((d:Int)*2)=((d*2:Nat):Int):=by rw[dz om om]; omega
   have w2:IntKind.u8.wrap (((d*2:Nat):Int)+(o:Int))=((d*2+o:Nat):Int):=by rw[dz om om]; omega
   have e3:bV .rem (.int .u8 ((d*2+o:Nat):Int)) (.int .u8 10)=some (.int .u8 (((d*2+o) % 10:Nat):Int)):=by
    rw[oA _ _ _ om]; rfl
   have e4:bV .quo (.int .u8 ((d*2+o:Nat):Int)) (.int .u8 10)=some (.int .u8 (((d*2+o) / 10:Nat):Int)):=by
    rw[uc _ _ _ om]
    have:((d*2+o:Nat):Int).tdiv 10=(((d*2+o) / 10:Nat):Int):=rfl
    rw[this,dz om om]
   obtain⟨H2,m2,r2,n2,k2⟩:=bj r1 (n:=32) (by rw[fG,vG,hbl]) (i:=j) om (x:=.int .u8 (((d*2+o) % 10:Nat):Int)) rfl
   have hwj:IntKind.i64.wrap ((j:Int)-1)=(j:Int)-1:=aR om om
   simp only[sA,sB,seval,g3,g5,g22,g6,g7,c0,ia,l1,w1,w2,e3,e4,m2,hwj]
   refine⟨_,Nat.lt_succ_self j,j,om,rfl,by trivial,by trivial,by trivial,by rw[hdr],by trivial,?_,om,fun c hc=>(k2 c om).trans (k1 c hc)⟩
   rw[<- hset,th]
   exact r2
 obtain rfl:k=32:=om
 have hlast:=Cg hp9 0
 rw[Nat.mul_zero,Nat.zero_add]at hlast
 rw[hlast]at g5
 simp only[sA,sB,seval,g3,g5,g22,Int.cast_ofNat_Int,Int.lt_irrefl]
 exact⟨by trivial,⟨om,fun c hc=>k1 c om⟩⟩
open Go.Abs Go.Abs.S
def rI(c:UInt8):Bool:=!decide (c.toNat=46)
def b8(s:Bs):Bs:=s.takeWhile rI
def behind(s:Bs):Bs:=(s.dropWhile rI).drop 1
def gE(s:Bs):Bool:=!(s.all rI)
theorem ur(s:Bs):(b8 s).length<=s.length:=(List.takeWhile_sublist (p:=rI) (l:=s)).length_le
theorem oL(s:Bs):b8 s=s.take (b8 s).length:=by
 exact (List.prefix_iff_eq_take.1 (List.takeWhile_prefix rI (l:=s)))
theorem ym(s:Bs):s.drop (b8 s).length=s.dropWhile rI:=by
 have h:b8 s++s.dropWhile rI=s:=List.takeWhile_append_dropWhile (p:=rI) (l:=s)
 generalize hw:b8 s=w at *
 conv=>lhs; rw[<- h]
 rw[List.drop_left]
theorem kd(s:Bs):behind s=s.drop ((b8 s).length+1):=by
 rw[behind,<- ym,List.drop_drop]
theorem Er{s:Bs}(h:gE s=true):(b8 s).length<s.length:=by
 rcases Nat.lt_or_ge (b8 s).length s.length with hl | hl
 ·exact hl
 ·have e:b8 s=s:=by rw[oL s,List.take_of_length_le hl]
  have:s.all rI=true:=by rw[<- e]; exact List.all_takeWhile
  simp[gE,this]at h
theorem Jr(s:Bs)(n:Nat):vC 46 s n=if gE s then ((n+(b8 s).length:Nat):Int) else -1:=by
 induction s generalizing n with
 | nil=>rfl
 | cons c r ih=>
  rw[vC]
  by_cases h:c.toNat=46
  ·have hc:c=46:=UInt8.toNat_inj.1 h
   subst hc
   simp[gE,rI,b8]
  ·have hc:¬c=46:=fun e=>h (by rw[e]; rfl)
   have hn:rI c=true:=by simp[rI,h]
   have e1:gE (c::r)=gE r:=by simp[gE,hn]
   have e2:(b8 (c::r)).length=(b8 r).length+1:=by rw[b8,List.takeWhile_cons_of_pos hn]; rfl
   have e3:Nat.beq c.toNat (UInt8.toNat 46)=false:=by
    cases hb:Nat.beq c.toNat (UInt8.toNat 46) with
    | false=>rfl
    | true=>exact absurd (NG hb) h
   rw[e1,e2,e3,cond_false,ih,show n+1+(b8 r).length=n+((b8 r).length+1) by omega]
theorem Ig{s:Bs}(h:gE s=false):b8 s=s/\behind s=[]:=by
 have ha:s.all rI=true:=by simpa[gE] using h
 have hall:=List.all_eq_true.1 ha
 have e:b8 s=s:=by
  rw[b8]
  have:=List.takeWhile_append_of_pos (p:=rI) (l₁:=s) (l₂:=[]) hall
  simpa using this
 exact⟨e,by rw[kd,e]; simp⟩
theorem Eo(h76:aE.is 107=false){H:ae}{s:Bs}:an Tryz.prog aE 107 [.str s,.int .u8 46] H fun v H'=>v=.int .i64 (vC 46 s 0)/\H=H':=by
 refine ai h76 HM rfl ?_
 have e:jj .ibs [.str s,.int .u8 46]=some (.int .i64 (vC 46 s 0)):=rfl
 simp only[JO,sA,sB,seval,e]
 exact⟨by trivial,by trivial⟩
theorem xV(h74:aE.is 99=false)(h76:aE.is 107=false){H:ae}{s:Bs}:an Tryz.prog aE 99 [.str s,.str [46]] H fun v H'=>v=.int .i64 (vC 46 s 0)/\H=H':=by
 refine ai h74 Kl rfl ?_
 have i0:iC (.str [46]) (.int .i64 0)=some (.int .u8 46):=rfl
 have hl1:((List.length [(46:UInt8)]:Nat):Int)=1:=rfl
 by_cases hs:[46]=s
 ·subst hs
  have e:vC 46 [46] 0=0:=rfl
  rw[e]
  simp only[KX,sA,sB,seval,hl1]
  exact⟨by trivial,by trivial⟩
 ·simp only[KX,sA,sB,seval,hl1,hs,i0]
  refine (Eo h76).mono ?_
  rintro v _ ⟨rfl,rfl⟩
  simp only[sA,sB,seval]
  exact⟨by trivial,by trivial⟩
theorem EO(h34:aE.is 62=false)(h57:aE.is 85=false)(h74:aE.is 99=false)(h76:aE.is 107=false){H:ae}{s:Bs}(hs:s.length<=4611686018427387904) :
  an Tryz.prog aE 62 [.str s,.str [46]] H fun v H'=>v=.tuple [.str (b8 s),.str (behind s),.bool (gE s)]/\H=H':=by
 refine ai h34 Kn rfl ?_
 simp only[Ng,sA,sB,seval]
 have key:an Tryz.prog aE 85 [.str s,.str [46]] H fun v H'=>v=.tuple [.str (b8 s),.str (behind s),.bool (gE s)]/\H=H':=by
  refine ai h57 Km rfl ?_
  simp only[Nc,sA,sB,seval]
  refine (xV h74 h76).mono ?_
  rintro v _ ⟨rfl,rfl⟩
  have hl1:((List.length [(46:UInt8)]:Nat):Int)=1:=rfl
  rw[Jr]
  cases hp:gE s with
  | true=>
   have hlt:=Er hp
   have hge:(0:Int)<=((0+(b8 s).length:Nat):Int):=om
   rw[Nat.zero_add]at *
   have e1:=nY (s:=s) (h:=(b8 s).length) (ur s)
   have e2:=nX (s:=s) (l:=(b8 s).length+1) om
   rw[<- oL]at e1
   rw[<- kd]at e2
   simp only[sA,sB,seval,hge,hl1,cF (b8 s).length om,e1,e2]
   exact⟨by trivial,by trivial⟩
  | false=>
   obtain⟨e1,e2⟩:=Ig hp
   simp only[sA,sB,seval,e1,e2]
   exact⟨by trivial,by trivial⟩
 refine key.mono ?_
 rintro v _ ⟨rfl,rfl⟩
 simp only[dl,NI,NJ,sA,sB,seval]
 exact⟨by trivial,by trivial⟩
open Go.Abs Go.Abs.S
def pC(s:Bs):Bool:=(match s with | []=>false | c::_=>fr c)&&decide (qJ s 0=s.length)
def fA(s:Bs):Option Nat:=if pC s=true/\cR (b8 s)<2147483648 then some (cR (b8 s)*2 ^ 32+kl (kJ (behind s))) else none
def Bn:Option Nat->af
 | some n=>.tuple [.int .i64 (n:Int),.bool true]
 | none=>.tuple [.int .i64 0,.bool false]
theorem At{c:UInt8}(h:fr c=true):rI c=true:=by
 simp[fr]at h; simp[rI]; omega
theorem Bh(s:Bs):(b8 s).length=cU rI s 0:=by simp[cU,b8]
theorem vf{s:Bs}(h:pC s=true):(∀c∈b8 s,fr c=true)/\∀c∈behind s,fr c=true:=by
 simp only[pC,NC,NL]at h
 obtain⟨h0,h1⟩:=h
 have hin:∀{a j:Nat} {c:UInt8},a<=j->j<cU fr s a->s[j]?=some c->fr c=true:=by
  intro a j c ha hj hc
  obtain⟨d,hd,hp⟩:=zB ha hj
  rw[hc]at hd; cases hd; exact hp
 have hle:=ob (p:=fr) (s:=s) (i:=0) (Nat.zero_le _)
 by_cases hd:s[cU fr s 0]?=some 46
 ·have hlt:=(NA.1 hd).1
  have hp0:cU fr s 0≠0:=by
   intro e
   cases s with
   | nil=>simp at hlt
   | cons c r=>
    simp only at h0
    rw[zC (c:=c) rfl h0]at e
    have:=zD fr (c::r) (0+1)
    omega
  have hw:(b8 s).length=cU fr s 0:=by
   rw[Bh]
   rcases Nat.lt_trichotomy (cU rI s 0) (cU fr s 0) with hl | hl | hl
   ·obtain⟨c,hc⟩:=aO (l:=s) (i:=cU rI s 0) om
    have:=Du hc
    rw[At (hin (Nat.zero_le _) hl hc)]at this
    cases this
   ·exact hl
   ·obtain⟨c,hc,hp⟩:=zB (Nat.zero_le _) hl
    rw[hd]at hc; cases hc
    simp[rI]at hp
  unfold qJ at h1
  rw[if_neg (by rintro (e | e); exact hp0 e; exact e hd)]at h1
  split at h1
  ·constructor
   ·intro c hc
    rw[oL,hw]at hc
    obtain⟨j,hj⟩:=List.mem_iff_getElem?.1 hc
    have hjl:=(NA.1 hj).1
    simp only[NR]at hjl
    rw[List.getElem?_take_of_lt om]at hj
    exact hin (Nat.zero_le _) om hj
   ·intro c hc
    rw[kd,hw]at hc
    obtain⟨j,hj⟩:=List.mem_iff_getElem?.1 hc
    rw[List.getElem?_drop]at hj
    have hjl:=(NA.1 hj).1
    exact hin (a:=cU fr s 0+1) om om hj
  ·omega
 ·unfold qJ at h1
  rw[if_pos (.inr hd)]at h1
  have hall:∀c∈s,fr c=true:=by
   intro c hc
   obtain⟨j,hj⟩:=List.mem_iff_getElem?.1 hc
   have hjl:=(NA.1 hj).1
   exact hin (Nat.zero_le _) om hj
  have hp:gE s=false:=by
   simp only[gE,Bool.not_eq_false']
   exact List.all_eq_true.2 fun c hc=>At (hall c hc)
  obtain⟨e1,e2⟩:=Ig hp
  rw[e1,e2]
  exact⟨hall,by simp⟩
theorem uu(l:Bs)(i:Nat):cR (l.take i)<=cR l:=by
 have h:=B2 (l.drop i) (cR (l.take i))
 have e:cR l=List.foldl (fun n c=>n*10+dv c) (cR (l.take i)) (l.drop i):=by
  unfold cR
  rw[<- List.foldl_append,List.take_append_drop]
 rw[e,h]
 have:cR (l.take i)*1<=cR (l.take i)*10 ^ (l.drop i).length:=Nat.mul_le_mul_left _ (Nat.pos_of_ne_zero (by simp))
 omega
theorem nB(h12:aE.is 94=false)(h22:aE.is 103=false)(h23:aE.is 104=false)(h25:aE.is 111=false)(h34:aE.is 62=false)(h35:aE.is 105=false)(h57:aE.is 85=false)(h74:aE.is 99=false)(h76:aE.is 107=false)
  {H:ae} {s:Bs} (hs:s.length<=4611686018427387904):an Tryz.prog aE 94 [.str s] H fun v H'=>v=Bn (fA s)/\bw H.next H H':=by
 refine ai h12 LN rfl ?_
 cases s with
 | nil=>
  have e:fA []=none:=rfl
  rw[e]
  simp only[Na,sA,sB,seval]
  exact⟨by trivial,bw.refl _ _⟩
 | cons c r=>
  have i0:iC (.str (c::r)) (.int .i64 0)=some (by8 c):=bi (s:=c::r) (i:=0) rfl .i64
  have hne:¬c::r=[]:=by simp
  simp only[Na,sA,sB,seval,hne,i0]
  refine (kL h22 c H).mono ?_
  rintro v _ ⟨rfl,rfl⟩
  cases hd:fr c with
  | false=>
   have e:fA (c::r)=none:=by simp[fA,pC,hd]
   rw[e]
   simp only[sA,sB,seval]
   exact⟨by trivial,bw.refl _ _⟩
  | true=>
  simp only[sA,sB,seval]
  refine (tz h23 h25 h22 (Nat.zero_le _) hs).mono ?_
  rintro v _ ⟨rfl,rfl⟩
  have hle:=GG (s:=c::r) (Nat.zero_le _)
  by_cases hn:qJ (c::r) 0=(c::r).length
  ·have hnum:pC (c::r)=true:=by simp only[pC,hd,hn,decide_true,Bool.and_self]
   have hn':((qJ (c::r) 0:Nat):Int)=((c::r).length:Int):=by rw[hn]
   generalize c::r=s at *
   obtain⟨hw,hb⟩:=vf hnum
   simp only[sA,sB,seval,hn']
   refine (EO h34 h57 h74 h76 hs).mono ?_
   rintro v _ ⟨rfl,rfl⟩
   simp only[dl,NI,NJ,sA,sB,seval]
   have hwl:=ur s
   have hbl:(behind s).length<=s.length:=by rw[kd]; simp
   have hsay:fA s=if cR (b8 s)<2147483648 then some (cR (b8 s)*2 ^ 32+kl (kJ (behind s))) else none:=by simp[fA,hnum]
   rw[hsay]
   generalize b8 s=w at *
   generalize behind s=t at *
   refine bL (fun q (T:bK) H'=>∃i:Nat,i<=w.length/\q=w.length-i/\T 4=.str w/\T 5=.str t/\T 7=.int .i64 (cR (w.take i):Int)/\cR (w.take i)<2147483648/\T 31=.int .i64 (w.length:Int)/\T 32=.int .i64 (i:Int)/\H=H') w.length
    ⟨0,Nat.zero_le _,rfl,rfl,rfl,rfl,by simp[cR],rfl,rfl,rfl⟩ ?_
   rintro q T _ ⟨i,hi,rfl,g4,g5,g7,hv,g31,g32,rfl⟩
   by_cases hlt:i<w.length
   ·have hlt':(i:Int)<(w.length:Int):=om
    obtain⟨c,hc⟩:=aO hlt
    have hdc:=hw c (NH hc)
    have hdv:(c.toNat:Int)-48=((dv c:Nat):Int):=by simp[fr]at hdc; unfold dv; omega
    have hd9:dv c<=9:=by simp[fr]at hdc; unfold dv; omega
    have hw1:IntKind.u8.wrap ((dv c:Nat):Int)=((dv c:Nat):Int):=dz om om
    have hw2:IntKind.i64.wrap ((dv c:Nat):Int)=((dv c:Nat):Int):=aR om om
    have hw3:IntKind.i64.wrap ((cR (w.take i):Int)*10)=((cR (w.take i)*10:Nat):Int):=by rw[aR om om]; omega
    have hw4:IntKind.i64.wrap (((cR (w.take i)*10:Nat):Int)+((dv c:Nat):Int))=((cR (w.take (i+1)):Nat):Int):=by
     rw[aR om om,List.take_add_one,hc,Option.toList_some,uw]; omega
    simp only[sA,sB,seval,g4,g5,g7,g31,g32,hlt',bi hc,hdv,hw1,hw2,hw3,hw4]
    by_cases hbig:cR (w.take (i+1))<2147483648
    ·have hbig':¬(2147483648:Int)<=((cR (w.take (i+1)):Nat):Int):=om
     simp only[sA,sB,seval,g4,g5,g7,g31,g32,hbig',cF i om]
     exact⟨_,om,i+1,om,rfl,by trivial,by trivial,rfl,hbig,by trivial,rfl,by trivial⟩
    ·have hbig':(2147483648:Int)<=((cR (w.take (i+1)):Nat):Int):=om
     have:=uu w (i+1)
     simp only[sA,sB,seval,g4,g5,g7,g31,g32,hbig']
     exact⟨by rw[if_neg om]; rfl,bw.refl _ _⟩
   ·obtain rfl:i=w.length:=om
    rw[List.take_length]at g7 hv
    have e1:=wm (k':=.u64) (a:=cR w) (b:=32) om om
    simp only[Int.cast_ofNat_Int]at e1
    simp only[sA,sB,seval,g4,g5,g7,g31,g32,Int.lt_irrefl,e1]
    refine (BB h35 hb om).mono ?_
    rintro v H' ⟨rfl,hx⟩
    have hf:=Aj (oj hb)
    have e2:=AE (a:=cR w*2 ^ 32) (b:=kl (kJ t)) om om
    rw[DJ 32 _ hf]at e2
    simp only[sA,sB,seval,e2]
    exact⟨by rw[if_pos hv]; rfl,hx⟩
  ·have hn':¬((qJ (c::r) 0:Nat):Int)=((c::r).length:Int):=om
   have e:fA (c::r)=none:=by simp only[fA,pC,hn,decide_false,Bool.and_false,NK,false_and,if_false]
   rw[e]
   simp only[sA,sB,seval,hn']
   exact⟨by trivial,bw.refl _ _⟩
open Go.Abs Go.Abs.S
end Go.Proofs.Wo
namespace Go.Proofs.Wo
open Go.Abs Go.Abs.S
open Go.Abs Go.Abs.S
def xn(n:Nat):List Nat:=if h:n<10 then [n] else n % 10::xn (n / 10)
termination_by n
decreasing_by omega
def cg(n:Nat):List Nat:=(xn n).reverse
theorem Gr{n:Nat}(h:n<10):xn n=[n]:=by rw[xn,dif_pos h]
theorem Gs{n:Nat}(h:¬n<10):xn n=n % 10::xn (n / 10):=by rw[xn,dif_neg h]
theorem iR{n:Nat}(h:n<10):cg n=[n]:=by rw[cg,Gr h]; rfl
theorem ol{n:Nat}(h:¬n<10):cg n=cg (n / 10)++[n % 10]:=by rw[cg,Gs h]; simp[cg]
def iq:Nat->Nat->List Nat
 | 0,_=>[]
 | k+1,r=>if r=0 then [] else r*10 / 4294967296::iq k (r*10 % 4294967296)
def eW(l:List Nat):Bs:=l.map fun d=>UInt8.ofNat (48+d)
theorem ke(l:List Nat):(eW l).length=l.length:=by simp[eW]
def hJ(r:Nat):Bs:=if r=0 then [] else 46::eW (iq 32 r)
def aC(n:Int):Bs:=(if n<0 then [45] else [])++(eW (cg (n.natAbs / 4294967296))++hJ (n.natAbs % 4294967296))
theorem B1(k r:Nat):(iq k r).length<=k:=by
 induction k generalizing r with
 | zero=>simp[iq]
 | succ k ih=>
  rw[iq]
  split
  ·simp
  ·have:=ih (r*10 % 4294967296); simp; omega
theorem pN(k:Nat):∀n,n<10 ^ (k+1)->(cg n).length<=k+1:=by
 induction k with
 | zero=>intro n h; rw[iR (by simpa using h)]; simp
 | succ k ih=>
  intro n h
  by_cases hn:n<10
  ·rw[iR hn]; simp
  ·rw[ol hn]
   have:=ih (n / 10) (by rw[Nat.pow_succ]at h; omega)
   simp; omega
open Go.Abs Go.Abs.S
theorem F8{a:Int}(h1:0<=a)(h2:a<18446744073709551616):IntKind.u64.wrap a=a:=by
 rw[IntKind.wrap_u64]; omega
theorem C4(k:IntKind)(n:Int):CC .neg (.int k n)=some (.int k (k.wrap (0-n))):=by
 simp only[CC,ku]
theorem BZ{k r:Nat}(hk:k<=32)(hr:r<4294967296)(hd:2 ^ (32-k) ∣ r)(h0:r≠0):∃k',k=k'+1/\iq k r=r*10 / 4294967296::iq k' (r*10 % 4294967296)/\2 ^ (32-k') ∣ r*10 % 4294967296:=by
 cases k with
 | zero=>
  exfalso
  obtain⟨c,hc⟩:=hd
  simp only[Nat.sub_zero]at hc
  have:c≠0:=by rintro rfl; simp at hc; exact h0 hc
  have:2 ^ 32*1<=2 ^ 32*c:=Nat.mul_le_mul_left _ om
  omega
 | succ k=>
  refine⟨k,rfl,by rw[iq,if_neg h0],?_⟩
  have e:32-k=(32-(k+1))+1:=om
  have h1:2 ^ (32-k) ∣ r*10:=by
   obtain⟨c,hc⟩:=hd
   refine⟨c*5,?_⟩
   rw[e,Nat.pow_succ]
   generalize 2 ^ (32-(k+1))=p at *
   subst hc
   rw[Nat.mul_assoc p 2,Nat.mul_assoc p c 10]
   congr 1
   omega
  have h2:2 ^ (32-k) ∣ 4294967296:=by
   have:=Nat.pow_dvd_pow 2 (show 32-k<=32 by omega)
   exact this
  exact (Nat.dvd_mod_iff h2).2 h1
theorem Fg(n:Nat):eW (cg n)≠[]:=by
 by_cases h:n<10
 ·rw[iR h]; simp[eW]
 ·rw[ol h]; simp[eW]
open Go.Abs Go.Abs.S
def pre(s t:Bs):Bool:=decide (s.take t.length=t)
theorem rF(h75:aE.is 35=false)(s t:Bs){H:ae}:an Tryz.prog aE 35 [.str s,.str t] H fun v H'=>v=.bool (pre s t)/\H=H':=by
 refine ai h75 MJ rfl ?_
 by_cases h:t.length<=s.length
 ·have h':(t.length:Int)<=(s.length:Int):=om
  simp only[Nr,sA,sB,seval,h',nY h]
  exact⟨by trivial,by trivial⟩
 ·have h':¬(t.length:Int)<=(s.length:Int):=om
  have e:pre s t=false:=by
   unfold pre
   rw[decide_eq_false]
   intro he
   have:=congrArg List.length he
   simp at this; omega
  simp only[Nr,sA,sB,seval,h',e]
  exact⟨by trivial,by trivial⟩
theorem DE(h51:aE.is 12=false)(h75:aE.is 35=false)(s t:Bs){H:ae}:an Tryz.prog aE 12 [.str s,.str t] H fun v H'=>v=.bool (pre s t)/\H=H':=by
 refine ai h51 M0 rfl ?_
 simp only[c12,sA,sB,seval]
 have key:=rF h75 s t (H:=H)
 refine key.mono ?_
 rintro v _ ⟨rfl,rfl⟩
 simp only[sA,sB,seval]
 exact⟨by trivial,by trivial⟩
theorem Cc(s:Bs)(n:Nat):FW 10 s n=n+s.count 10:=by
 induction s generalizing n with
 | nil=>simp[FW]
 | cons c r ih=>
  rw[FW]
  by_cases h:c=10
  ·subst h
   have e:Nat.beq (UInt8.toNat 10) 10=true:=rfl
   rw[e,cond_true,ih]; simp; omega
  ·have e:Nat.beq c.toNat 10=false:=by
    cases hb:Nat.beq c.toNat 10 with
    | false=>rfl
    | true=>exact absurd (UInt8.toNat_inj.1 (NG hb)) h
   rw[e,cond_false,ih,List.count_cons_of_ne (by exact h)]
theorem yo(hN:aE.is 83=false)(s:Bs){H:ae}:an Tryz.prog aE 83 [.str s,.str [10]] H fun v H'=>v=.int .i64 (s.count 10:Int)/\H=H':=by
 refine ai hN LT rfl ?_
 have hl1:((List.length [(10:UInt8)]:Nat):Int)=1:=rfl
 have i0:iC (.str [10]) (.int .i64 0)=some (.int .u8 10):=rfl
 have e:jj .cbs [.str s,.int .u8 10]=some (.int .i64 (s.count 10:Int)):=by
  have:jj .cbs [.str s,.int .u8 10]=some (.int .i64 (FW 10 s 0:Int)):=rfl
  rw[this,Cc,Nat.zero_add]
 simp only[c83,sA,sB,seval,hl1,i0,e]
 exact⟨by trivial,by trivial⟩
open Go.Abs Go.Abs.S
end Go.Proofs.Wo
namespace Go.Proofs.Wo
open Go.Abs Go.Abs.S
open Go.Abs Go.Abs.S
def pd:Nat->Nat->List Nat
 | 0,_=>[]
 | k+1,u=>pd k (u / 10)++[u % 10]
theorem DG(k u:Nat):(pd k u).length=k:=by
 induction k generalizing u with
 | zero=>rfl
 | succ k ih=>simp[pd,ih]
theorem mD(k:Nat):∀u,10 ^ k<=u->u<10 ^ (k+1)->pd (k+1) u=cg u:=by
 induction k with
 | zero=>
  intro u h1 h2
  rw[iR (by simpa using h2)]
  have:u % 10=u:=Nat.mod_eq_of_lt (by simpa using h2)
  simp[pd,this]
 | succ k ih=>
  intro u h1 h2
  have h10:¬u<10:=by
   have:10 ^ 1<=10 ^ (k+1):=Nat.pow_le_pow_right om om
   omega
  rw[ol h10,pd,ih (u / 10) (by rw[Nat.pow_succ]at h1; omega) (by rw[Nat.pow_succ]at h2; omega)]
def gN:Bs:=(List.range 100).flatMap fun d=>[UInt8.ofNat (48+d / 10),UInt8.ofNat (48+d % 10)]
theorem Dm{d:Nat}(h:d<100):gN[d*2]?=some (UInt8.ofNat (48+d / 10)):=by
 have:∀d,d<100->gN[d*2]?=some (UInt8.ofNat (48+d / 10)):=by decide
 exact this d h
theorem Dl{d:Nat}(h:d<100):gN[d*2+1]?=some (UInt8.ofNat (48+d % 10)):=by
 have:∀d,d<100->gN[d*2+1]?=some (UInt8.ofNat (48+d % 10)):=by decide
 exact this d h
open Go.Abs Go.Abs.S
theorem ky:gN=[48,48,48,49,48,50,48,51,48,52,48,53,48,54,48,55,48,56,48,57,49,48,49,49,49,50,49,51,49,52,49,53,49,54,49,55,49,56,49,57,50,48,50,49,50,50,50,51,50,52,50,53,50,54,50,55,50,56,50,57,51,48,51,49,51,50,51,51,51,52,51,53,51,54,51,55,51,56,51,57,52,48,52,49,52,50,52,51,52,52,52,53,52,54,52,55,52,56,52,57,53,48,53,49,53,50,53,51,53,52,53,53,53,54,53,55,53,56,53,57,54,48,54,49,54,50,54,51,54,52,54,53,54,54,54,55,54,56,54,57,55,48,55,49,55,50,55,51,55,52,55,53,55,54,55,55,55,56,55,57,56,48,56,49,56,50,56,51,56,52,56,53,56,54,56,55,56,56,56,57,57,48,57,49,57,50,57,51,57,52,57,53,57,54,57,55,57,56,57,57]:=by kernel_rfl
theorem ff{d:Nat}(h:d<100)(k:IntKind):iC (.str gN) (.int k ((d*2:Nat):Int))=some (.int .u8 ((48+d / 10:Nat):Int)):=by
 rw[bi (Dm h)]
 have:(UInt8.ofNat (48+d / 10)).toNat=48+d / 10:=by rw[UInt8.toNat_ofNat']; omega
 rw[this]
theorem ee{d:Nat}(h:d<100)(k:IntKind):iC (.str gN) (.int k ((d*2+1:Nat):Int))=some (.int .u8 ((48+d % 10:Nat):Int)):=by
 rw[bi (Dl h)]
 have:(UInt8.ofNat (48+d % 10)).toNat=48+d % 10:=by rw[UInt8.toNat_ofNat']; omega
 rw[this]
theorem Dk{d:Nat}(h:d<100):eI (.str gN) (some (.int .i64 ((d*2:Nat):Int))) (some (.int .i64 ((d*2+2:Nat):Int)))=some (.str [UInt8.ofNat (48+d / 10),UInt8.ofNat (48+d % 10)]):=by
 have hl:gN.length=200:=by kernel_rfl
 rw[wZ om om]
 have:∀d,d<100->(gN.drop (d*2)).take 2=[UInt8.ofNat (48+d / 10),UInt8.ofNat (48+d % 10)]:=of_decide_eq_true (by kernel_rfl)
 rw[show d*2+2-d*2=2 by omega,this d h]
def Gj:Bs:=[48,49,50,51,52,53,54,55,56,57,97,98,99,100,101,102,103,104,105,106,107,108,109,110,111,112,113,114,115,116,117,118,119,120,121,122]
theorem Gi{d:Nat}(h:d<10):eI (.str Gj) (some (.int .i64 (d:Int))) (some (.int .i64 ((d+1:Nat):Int)))=some (.str [UInt8.ofNat (48+d)]):=by
 have hl:Gj.length=36:=by decide
 rw[wZ om om]
 have:∀d,d<10->(Gj.drop d).take 1=[UInt8.ofNat (48+d)]:=by decide
 rw[show d+1-d=1 by omega,this d h]
theorem Ea:Gj=[48,49,50,51,52,53,54,55,56,57,97,98,99,100,101,102,103,104,105,106,107,108,109,110,111,112,113,114,115,116,117,118,119,120,121,122]:=rfl
set_option maxRecDepth 100000 in
theorem kz(h77:aE.is 72=false){d:Nat}(hd:d<100){H:ae} :
  an Tryz.prog aE 72 [.int .i64 (d:Int)] H fun v H'=>v=.str (eW (cg d))/\H'=H:=by
 refine ai h77 Mc rfl ?_
 simp only[c72,<- ky,<- Ea]
 by_cases h:d<10
 ·have h':(d:Int)<10:=om
  simp only[sA,sB,Int.reduceNegSucc,reduceCtorEq,Nat.reduceEqDiff,↓reduceIte,Nat.reduceAdd,Int.reduceEq,Int.reduceLT,Int.reduceLE,Nat.reduceLT,h',cF d om,Gi h]
  exact⟨by rw[iR h]; rfl,by trivial⟩
 ·have h':¬(d:Int)<10:=om
  have w1:IntKind.i64.wrap ((d:Int)*2)=((d*2:Nat):Int):=by rw[aR om om]; omega
  have w2:IntKind.i64.wrap (((d*2:Nat):Int)+2)=((d*2+2:Nat):Int):=by rw[aR om om]; omega
  simp only[sA,sB,Int.reduceNegSucc,reduceCtorEq,Nat.reduceEqDiff,↓reduceIte,Nat.reduceAdd,Int.reduceEq,Int.reduceLT,Int.reduceLE,Nat.reduceLT,h',w1,w2,Dk hd]
  refine⟨?_,by trivial⟩
  rw[ol h,iR om]; simp[eW]
theorem yC(h95:aE.is 90=false)(b:Bool){H:ae} :
  an Tryz.prog aE 90 [.bool b] H fun v H'=>v=.int .i64 ((if b=true then 1 else 0:Nat):Int)/\H'=H:=by
 refine ai h95 LP rfl ?_
 cases b with
 | true=>simp only[Nb,sA,sB,Int.reduceNegSucc,reduceCtorEq,Nat.reduceEqDiff,↓reduceIte,Nat.reduceAdd,Int.reduceEq,Int.reduceLT,Int.reduceLE,Nat.reduceLT]; exact⟨by trivial,by trivial⟩
 | false=>simp only[Nb,sA,sB,Int.reduceNegSucc,reduceCtorEq,Nat.reduceEqDiff,↓reduceIte,Nat.reduceAdd,Int.reduceEq,Int.reduceLT,Int.reduceLE,Nat.reduceLT]; exact⟨by trivial,by trivial⟩
theorem xL(h93:aE.is 88=false){x:Nat}(hx:x<=64){H:ae} :
  an Tryz.prog aE 88 [.int .i64 (x:Int)] H fun v H'=>v=.int .i64 ((x*78913 / 262144:Nat):Int)/\H'=H:=by
 refine ai h93 LR rfl ?_
 have w1:IntKind.i64.wrap ((x:Int)*78913)=((x*78913:Nat):Int):=by rw[aR om om]; omega
 have e1:=qF .i64 .u64 (x*78913) (b:=18) dD
 simp only[Int.cast_ofNat_Int]at e1
 simp only[c88,sA,sB,Int.reduceNegSucc,reduceCtorEq,Nat.reduceEqDiff,↓reduceIte,Nat.reduceAdd,Int.reduceEq,Int.reduceLT,Int.reduceLE,Nat.reduceLT,w1,e1]
 exact⟨by trivial,by trivial⟩
def GP:Bs:=[0,1,2,2,3,3,3,3,4,4,4,4,4,4,4,4,5,5,5,5,5,5,5,5,5,5,5,5,5,5,5,5,6,6,6,6,6,6,6,6,6,6,6,6,6,6,6,6,6,6,6,6,6,6,6,6,6,6,6,6,6,6,6,6,7,7,7,7,7,7,7,7,7,7,7,7,7,7,7,7,7,7,7,7,7,7,7,7,7,7,7,7,7,7,7,7,7,7,7,7,7,7,7,7,7,7,7,7,7,7,7,7,7,7,7,7,7,7,7,7,7,7,7,7,7,7,7,7,8,8,8,8,8,8,8,8,8,8,8,8,8,8,8,8,8,8,8,8,8,8,8,8,8,8,8,8,8,8,8,8,8,8,8,8,8,8,8,8,8,8,8,8,8,8,8,8,8,8,8,8,8,8,8,8,8,8,8,8,8,8,8,8,8,8,8,8,8,8,8,8,8,8,8,8,8,8,8,8,8,8,8,8,8,8,8,8,8,8,8,8,8,8,8,8,8,8,8,8,8,8,8,8,8,8,8,8,8,8,8,8,8,8,8,8,8,8,8,8,8,8,8,8,8,8,8,8]
theorem Eb:GP=[0,1,2,2,3,3,3,3,4,4,4,4,4,4,4,4,5,5,5,5,5,5,5,5,5,5,5,5,5,5,5,5,6,6,6,6,6,6,6,6,6,6,6,6,6,6,6,6,6,6,6,6,6,6,6,6,6,6,6,6,6,6,6,6,7,7,7,7,7,7,7,7,7,7,7,7,7,7,7,7,7,7,7,7,7,7,7,7,7,7,7,7,7,7,7,7,7,7,7,7,7,7,7,7,7,7,7,7,7,7,7,7,7,7,7,7,7,7,7,7,7,7,7,7,7,7,7,7,8,8,8,8,8,8,8,8,8,8,8,8,8,8,8,8,8,8,8,8,8,8,8,8,8,8,8,8,8,8,8,8,8,8,8,8,8,8,8,8,8,8,8,8,8,8,8,8,8,8,8,8,8,8,8,8,8,8,8,8,8,8,8,8,8,8,8,8,8,8,8,8,8,8,8,8,8,8,8,8,8,8,8,8,8,8,8,8,8,8,8,8,8,8,8,8,8,8,8,8,8,8,8,8,8,8,8,8,8,8,8,8,8,8,8,8,8,8,8,8,8,8,8,8,8,8,8,8]:=rfl
theorem gD{v:Nat}(h:v<256):∃l:UInt8,GP[v]?=some l/\v<2 ^ l.toNat/\(0<v->2 ^ l.toNat<=2*v)/\l.toNat<=8:=by
 have:∀v,v<256->(match GP[v]? with | some l=>decide (v<2 ^ l.toNat)&&(decide (v=0)||decide (2 ^ l.toNat<=2*v))&&decide (l.toNat<=8) | none=>false)=true:=of_decide_eq_true (by kernel_rfl)
 have:=this v h
 cases hl:GP[v]? with
 | none=>rw[hl]at this; simp at this
 | some l=>
  rw[hl]at this
  simp only[NC,Bool.or_eq_true,NL]at this
  exact⟨l,rfl,this.1.1,fun h0=>by rcases this.1.2 with h | h; omega; exact h,this.2⟩
set_option maxRecDepth 100000 in
theorem xS(h94:aE.is 89=false){u:Nat}(h0:0<u)(hu:u<18446744073709551616){H:ae} :
  an Tryz.prog aE 89 [.int .u64 (u:Int)] H fun v H'=>(∃L:Nat,v=.int .i64 (L:Int)/\u<2 ^ L/\2 ^ L<=2*u/\L<=64)/\H'=H:=by
 refine ai h94 LQ rfl ?_
 simp only[c89,<- Eb]
 have key:∀(x:Nat) (s l:Nat),u / 2 ^ s=x->0<x->x<2 ^ l->2 ^ l<=2*x->s<=56->u<2 ^ (s+l)/\2 ^ (s+l)<=2*u:=by
  intro x s l hx hx0 h1 h2 hs
  have hp:0<2 ^ s:=Nat.pos_of_ne_zero (by simp)
  rw[Nat.pow_add]
  generalize 2 ^ s=p at *
  generalize 2 ^ l=q at *
  subst hx
  have h3:=Nat.div_mul_le_self u p
  have h4:=Nat.lt_div_mul_add hp (a:=u)
  constructor
  ·have:(u / p+1)*p<=q*p:=Nat.mul_le_mul_right _ h1
   rw[Nat.add_mul,Nat.one_mul]at this
   rw[Nat.mul_comm p q]
   omega
  ·calc p*q<=p*(2*(u / p)):=Nat.mul_le_mul_left _ h2
    _=2*(u / p*p):=by rw[Nat.mul_comm p,Nat.mul_assoc]
    _<=2*u:=om
 by_cases c0:4294967296<=u
 ·have n32:(4294967296:Int)<=(u:Int):=om
  have e32:=qF .u64 .u64 u (b:=32) dD
  simp only[Int.cast_ofNat_Int,Nat.reducePow]at e32
  have w0:IntKind.i64.wrap (0+32)=32:=by decide
  have hy:u / 4294967296<4294967296:=om
  have hyu:u / 2 ^ 32=u / 4294967296:=rfl
  have key':∀(x s:Nat) (l:Nat),u / 4294967296 / 2 ^ s=x->0<x->x<2 ^ l->2 ^ l<=2*x->s<=24->u<2 ^ (32+s+l)/\2 ^ (32+s+l)<=2*u:=fun x s l h a b c d=>key x (32+s) l (by rw[Nat.pow_add,<- Nat.div_div_eq_div_mul]; exact h) a b c om
  have hy0:0<u / 4294967296:=om
  generalize u / 4294967296=y at *
  have e16:=qF .u64 .u64 y (b:=16) dD
  simp only[Int.cast_ofNat_Int,Nat.reducePow]at e16
  by_cases c1:65536<=y
  ·have c1':(65536:Int)<=(y:Int):=om
   have e8:=qF .u64 .u64 (y / 65536) (b:=8) dD
   simp only[Int.cast_ofNat_Int,Nat.reducePow]at e8
   have w1:IntKind.i64.wrap (32+16)=48:=by decide
   by_cases c2:256<=y / 65536
   ·have c2':(256:Int)<=((y / 65536:Nat):Int):=om
    have w2:IntKind.i64.wrap (48+8)=56:=by decide
    obtain⟨l,l1,l2,l3,l4⟩:=gD (v:=y / 65536 / 256) om
    have w3:IntKind.u8.wrap ((y / 65536 / 256:Nat):Int)=((y / 65536 / 256:Nat):Int):=dz om om
    have w4:IntKind.i64.wrap (l.toNat:Int)=(l.toNat:Int):=aR om om
    have w5:IntKind.i64.wrap (56+(l.toNat:Int))=((56+l.toNat:Nat):Int):=by rw[aR om om]; omega
    simp only[sA,sB,Int.reduceNegSucc,reduceCtorEq,Nat.reduceEqDiff,↓reduceIte,Nat.reduceAdd,Int.reduceEq,Int.reduceLT,Int.reduceLE,Nat.reduceLT,n32,e32,w0,e16,c1',w1,c2',e8,w2,w3,bi l1,w4,w5]
    obtain⟨k1,k2⟩:=key' (y / 65536 / 256) 24 l.toNat om om l2 (l3 om) om
    exact⟨⟨56+l.toNat,by trivial,k1,k2,om⟩,by trivial⟩
   ·have c2':¬(256:Int)<=((y / 65536:Nat):Int):=om
    obtain⟨l,l1,l2,l3,l4⟩:=gD (v:=y / 65536) om
    have w3:IntKind.u8.wrap ((y / 65536:Nat):Int)=((y / 65536:Nat):Int):=dz om om
    have w4:IntKind.i64.wrap (l.toNat:Int)=(l.toNat:Int):=aR om om
    have w5:IntKind.i64.wrap (48+(l.toNat:Int))=((48+l.toNat:Nat):Int):=by rw[aR om om]; omega
    simp only[sA,sB,Int.reduceNegSucc,reduceCtorEq,Nat.reduceEqDiff,↓reduceIte,Nat.reduceAdd,Int.reduceEq,Int.reduceLT,Int.reduceLE,Nat.reduceLT,n32,e32,w0,e16,c1',w1,c2',w3,bi l1,w4,w5]
    obtain⟨k1,k2⟩:=key' (y / 65536) 16 l.toNat om om l2 (l3 om) om
    exact⟨⟨48+l.toNat,by trivial,k1,k2,om⟩,by trivial⟩
  ·have c1':¬(65536:Int)<=(y:Int):=om
   have e8:=qF .u64 .u64 y (b:=8) dD
   simp only[Int.cast_ofNat_Int,Nat.reducePow]at e8
   by_cases c2:256<=y
   ·have c2':(256:Int)<=(y:Int):=om
    have w2:IntKind.i64.wrap (32+8)=40:=by decide
    obtain⟨l,l1,l2,l3,l4⟩:=gD (v:=y / 256) om
    have w3:IntKind.u8.wrap ((y / 256:Nat):Int)=((y / 256:Nat):Int):=dz om om
    have w4:IntKind.i64.wrap (l.toNat:Int)=(l.toNat:Int):=aR om om
    have w5:IntKind.i64.wrap (40+(l.toNat:Int))=((40+l.toNat:Nat):Int):=by rw[aR om om]; omega
    simp only[sA,sB,Int.reduceNegSucc,reduceCtorEq,Nat.reduceEqDiff,↓reduceIte,Nat.reduceAdd,Int.reduceEq,Int.reduceLT,Int.reduceLE,Nat.reduceLT,n32,e32,w0,c1',c2',e8,w2,w3,bi l1,w4,w5]
    obtain⟨k1,k2⟩:=key' (y / 256) 8 l.toNat om om l2 (l3 om) om
    exact⟨⟨40+l.toNat,by trivial,k1,k2,om⟩,by trivial⟩
   ·have c2':¬(256:Int)<=(y:Int):=om
    obtain⟨l,l1,l2,l3,l4⟩:=gD (v:=y) om
    have w3:IntKind.u8.wrap (y:Int)=(y:Int):=dz om om
    have w4:IntKind.i64.wrap (l.toNat:Int)=(l.toNat:Int):=aR om om
    have w5:IntKind.i64.wrap (32+(l.toNat:Int))=((32+l.toNat:Nat):Int):=by rw[aR om om]; omega
    simp only[sA,sB,Int.reduceNegSucc,reduceCtorEq,Nat.reduceEqDiff,↓reduceIte,Nat.reduceAdd,Int.reduceEq,Int.reduceLT,Int.reduceLE,Nat.reduceLT,n32,e32,w0,c1',c2',w3,bi l1,w4,w5]
    obtain⟨k1,k2⟩:=key' y 0 l.toNat (by simp) om l2 (l3 om) om
    exact⟨⟨32+l.toNat,by trivial,k1,k2,om⟩,by trivial⟩
 ·have n32:¬(4294967296:Int)<=(u:Int):=om
  have e16:=qF .u64 .u64 u (b:=16) dD
  simp only[Int.cast_ofNat_Int,Nat.reducePow]at e16
  by_cases c1:65536<=u
  ·have c1':(65536:Int)<=(u:Int):=om
   have e8:=qF .u64 .u64 (u / 65536) (b:=8) dD
   simp only[Int.cast_ofNat_Int,Nat.reducePow]at e8
   have w1:IntKind.i64.wrap (0+16)=16:=by decide
   by_cases c2:256<=u / 65536
   ·have c2':(256:Int)<=((u / 65536:Nat):Int):=om
    have w2:IntKind.i64.wrap (16+8)=24:=by decide
    obtain⟨l,l1,l2,l3,l4⟩:=gD (v:=u / 65536 / 256) om
    have w3:IntKind.u8.wrap ((u / 65536 / 256:Nat):Int)=((u / 65536 / 256:Nat):Int):=dz om om
    have w4:IntKind.i64.wrap (l.toNat:Int)=(l.toNat:Int):=aR om om
    have w5:IntKind.i64.wrap (24+(l.toNat:Int))=((24+l.toNat:Nat):Int):=by rw[aR om om]; omega
    simp only[sA,sB,Int.reduceNegSucc,reduceCtorEq,Nat.reduceEqDiff,↓reduceIte,Nat.reduceAdd,Int.reduceEq,Int.reduceLT,Int.reduceLE,Nat.reduceLT,n32,e16,c1',w1,c2',e8,w2,w3,bi l1,w4,w5]
    obtain⟨k1,k2⟩:=key (u / 65536 / 256) 24 l.toNat om om l2 (l3 om) om
    exact⟨⟨24+l.toNat,by trivial,k1,k2,om⟩,by trivial⟩
   ·have c2':¬(256:Int)<=((u / 65536:Nat):Int):=om
    obtain⟨l,l1,l2,l3,l4⟩:=gD (v:=u / 65536) om
    have w3:IntKind.u8.wrap ((u / 65536:Nat):Int)=((u / 65536:Nat):Int):=dz om om
    have w4:IntKind.i64.wrap (l.toNat:Int)=(l.toNat:Int):=aR om om
    have w5:IntKind.i64.wrap (16+(l.toNat:Int))=((16+l.toNat:Nat):Int):=by rw[aR om om]; omega
    simp only[sA,sB,Int.reduceNegSucc,reduceCtorEq,Nat.reduceEqDiff,↓reduceIte,Nat.reduceAdd,Int.reduceEq,Int.reduceLT,Int.reduceLE,Nat.reduceLT,n32,e16,c1',w1,c2',w3,bi l1,w4,w5]
    obtain⟨k1,k2⟩:=key (u / 65536) 16 l.toNat om om l2 (l3 om) om
    exact⟨⟨16+l.toNat,by trivial,k1,k2,om⟩,by trivial⟩
  ·have c1':¬(65536:Int)<=(u:Int):=om
   have e8:=qF .u64 .u64 u (b:=8) dD
   simp only[Int.cast_ofNat_Int,Nat.reducePow]at e8
   by_cases c2:256<=u
   ·have c2':(256:Int)<=(u:Int):=om
    have w2:IntKind.i64.wrap (0+8)=8:=by decide
    obtain⟨l,l1,l2,l3,l4⟩:=gD (v:=u / 256) om
    have w3:IntKind.u8.wrap ((u / 256:Nat):Int)=((u / 256:Nat):Int):=dz om om
    have w4:IntKind.i64.wrap (l.toNat:Int)=(l.toNat:Int):=aR om om
    have w5:IntKind.i64.wrap (8+(l.toNat:Int))=((8+l.toNat:Nat):Int):=by rw[aR om om]; omega
    simp only[sA,sB,Int.reduceNegSucc,reduceCtorEq,Nat.reduceEqDiff,↓reduceIte,Nat.reduceAdd,Int.reduceEq,Int.reduceLT,Int.reduceLE,Nat.reduceLT,n32,c1',c2',e8,w2,w3,bi l1,w4,w5]
    obtain⟨k1,k2⟩:=key (u / 256) 8 l.toNat om om l2 (l3 om) om
    exact⟨⟨8+l.toNat,by trivial,k1,k2,om⟩,by trivial⟩
   ·have c2':¬(256:Int)<=(u:Int):=om
    obtain⟨l,l1,l2,l3,l4⟩:=gD (v:=u) om
    have w3:IntKind.u8.wrap (u:Int)=(u:Int):=dz om om
    have w4:IntKind.i64.wrap (l.toNat:Int)=(l.toNat:Int):=aR om om
    have w5:IntKind.i64.wrap (0+(l.toNat:Int))=(l.toNat:Int):=by rw[aR om om]; omega
    simp only[sA,sB,Int.reduceNegSucc,reduceCtorEq,Nat.reduceEqDiff,↓reduceIte,Nat.reduceAdd,Int.reduceEq,Int.reduceLT,Int.reduceLE,Nat.reduceLT,n32,c1',c2',w3,bi l1,w4,w5]
    exact⟨⟨l.toNat,by trivial,l2,l3 h0,om⟩,by trivial⟩
def iL:List af:=(List.range 20).map fun i=>.int .u64 ((10 ^ i:Nat):Int)
theorem DF{i:Nat}(h:i<20):iL[i]?=some (.int .u64 ((10 ^ i:Nat):Int)):=by
 simp[iL,h]
theorem jE(h78:aE.is 73=false)(h93:aE.is 88=false)(h94:aE.is 89=false)(h95:aE.is 90=false){u:Nat}(h0:0<u)(hu:u<18446744073709551616){H:ae}(G:nO H 0 iL) :
  an Tryz.prog aE 73 [.int .u64 (u:Int)] H fun v H'=>(∃k:Nat,v=.int .i64 ((k+1:Nat):Int)/\10 ^ k<=u/\u<10 ^ (k+1)/\k<20)/\H'=H:=by
 refine ai h78 Mb rfl ?_
 simp only[c73,sA,sB,Int.reduceNegSucc,reduceCtorEq,Nat.reduceEqDiff,↓reduceIte,Nat.reduceAdd,Int.reduceEq,Int.reduceLT,Int.reduceLE,Nat.reduceLT]
 refine (xS h94 h0 hu).mono ?_
 rintro v _ ⟨⟨L,rfl,l1,l2,l3⟩,rfl⟩
 simp only[sA,sB,Int.reduceNegSucc,reduceCtorEq,Nat.reduceEqDiff,↓reduceIte,Nat.reduceAdd,Int.reduceEq,Int.reduceLT,Int.reduceLE,Nat.reduceLT]
 refine (xL h93 (show L<=64 by omega)).mono ?_
 rintro v _ ⟨rfl,rfl⟩
 have hL:1<=L:=by
  rcases Nat.eq_zero_or_pos L with h | h
  ·subst h; simp at l1; omega
  ·exact h
 have all:∀L,L<=64->1<=L->2 ^ L<=10 ^ (L*78913 / 262144+1)/\(10 ^ (L*78913 / 262144-1)*2<=2 ^ L)/\L*78913 / 262144<20:=of_decide_eq_true (by kernel_rfl)
 obtain⟨a1,a2,a3⟩:=all L l3 hL
 generalize L*78913 / 262144=t at *
 have ht:t<20:=om
 simp only[sA,sB,Int.reduceNegSucc,reduceCtorEq,Nat.reduceEqDiff,↓reduceIte,Nat.reduceAdd,Int.reduceEq,Int.reduceLT,Int.reduceLE,Nat.reduceLT,Jv G (n:=20) dD ht,G5 G (n:=20) dD (DF ht)]
 refine (yC h95 _).mono ?_
 rintro v _ ⟨rfl,rfl⟩
 by_cases hc:10 ^ t<=u
 ·have hc':((10 ^ t:Nat):Int)<=(u:Int):=om
  have w:IntKind.i64.wrap ((t:Int)+1)=((t+1:Nat):Int):=by rw[aR om om]; omega
  simp only[sA,sB,Int.reduceNegSucc,reduceCtorEq,Nat.reduceEqDiff,↓reduceIte,Nat.reduceAdd,Int.reduceEq,Int.reduceLT,Int.reduceLE,Nat.reduceLT,hc',w]
  exact⟨⟨t,by trivial,hc,om,a3⟩,by trivial⟩
 ·have hc':¬((10 ^ t:Nat):Int)<=(u:Int):=om
  have w:IntKind.i64.wrap ((t:Int)+0)=(t:Int):=by rw[aR om om]; omega
  simp only[sA,sB,Int.reduceNegSucc,reduceCtorEq,Nat.reduceEqDiff,↓reduceIte,Nat.reduceAdd,Int.reduceEq,Int.reduceLT,Int.reduceLE,Nat.reduceLT,hc',w]
  have ht0:t≠0:=by rintro rfl; simp at hc; omega
  obtain⟨s,rfl⟩:=Nat.exists_eq_succ_of_ne_zero ht0
  exact⟨⟨s,rfl,by simp at a2; omega,by simpa using hc,om⟩,by trivial⟩
open Go.Abs Go.Abs.S
def put:Nat->List Nat->Nat->List Nat
 | 0,l,_=>l
 | i+1,l,u=>put i (l.set i (48+u % 10)) (u / 10)
def xj(l:List Nat)(i d:Nat):List Nat:=(l.set (i+1) (48+d % 10)).set i (48+d / 10)
theorem dT(l:List Nat)(i d:Nat):(xj l i d).length=l.length:=by simp[xj]
theorem iK(i:Nat)(l:List Nat)(u:Nat):put (i+2) l u=put i (xj l i (u % 100)) (u / 100):=by
 simp only[put,xj]
 rw[Nat.div_div_eq_div_mul]
 congr 3
 ·omega
 ·omega
theorem pc:∀(k:Nat) (l:List Nat) (u:Nat),k<=l.length->put k l u=(pd k u).map (48+·)++l.drop k
 | 0,l,u,_=>by simp[put,pd]
 | k+1,l,u,h=>by
  rw[put,pc k _ _ (by simp; omega),pd,List.map_append,NM]
  congr 1
  have hlt:k<(l.set k (48+u % 10)).length:=by simp; omega
  rw[List.drop_eq_getElem_cons hlt]
  simp[List.drop_set]
theorem od:∀(k:Nat) (l:List Nat) (u:Nat),(put k l u).length=l.length
 | 0,l,u=>rfl
 | k+1,l,u=>by rw[put,od k]; simp
def nQ(b o k:Nat):af:=.slice (some ⟨b,24,o⟩) k (.known (24-o))
theorem ge{b o k:Nat}(K:IntKind){i:Nat}(h:i<k):gi 1 (nQ b o k) (.int K (i:Int))=some (ak b 24 (o+i)):=by
 show (bif Nat.blt i k then some (af.ptr (some ⟨b,24,o+i*1⟩)) else none)=_
 have:Nat.blt i k=true:=by simpa[Nat.blt_eq] using h
 rw[this,Nat.mul_one]; rfl
theorem jn(p l:List Nat)(i x:Nat):gr (p++l.set i x)=(gr (p++l)).set (p.length+i) (.int .u8 (x:Int)):=by
 rw[<- th,List.set_append,if_neg om,show p.length+i-p.length=i by omega]
theorem Fa(b o k:Nat):fD false (nQ b o k)=some (.int .i64 (k:Int)):=_root_.id rfl
theorem fT{H:ae}{b:Nat}{p l:List Nat}(hr:Row H b (gr (p++l)))(hl:p.length+l.length=24){i d:Nat}(hi:p.length+i+1<24) :
  ∃H1 H2,bB 1 H (ak b 24 (p.length+(i+1))) (.int .u8 ((48+d % 10:Nat):Int))=some H1/\bB 1 H1 (ak b 24 (p.length+i)) (.int .u8 ((48+d / 10:Nat):Int))=some H2/\Row H2 b (gr (p++xj l i d))/\H2.next=H.next/\∀c,c≠b->H2.get c=H.get c:=by
 have hL:(gr (p++l)).length=24:=by rw[fG,lA,hl]
 obtain⟨H1,m1,r1,n1,k1⟩:=bj hr (n:=24) hL (i:=p.length+(i+1)) om (x:=.int .u8 ((48+d % 10:Nat):Int)) rfl
 rw[<- jn]at r1
 obtain⟨H2,m2,r2,n2,k2⟩:=bj r1 (n:=24) (by rw[fG,lA,List.length_set,hl]) (i:=p.length+i) om (x:=.int .u8 ((48+d / 10:Nat):Int)) rfl
 rw[<- jn]at r2
 exact⟨H1,H2,m1,m2,r2,om,fun c hc=>(k2 c hc).trans (k1 c hc)⟩
def qG:bC->bC
 | .seq _ b=>b
 | c=>c
def Ie(t:bC):bC:=match JN.body with
 | .seq a (.seq b (.seq c (.seq d _)))=>.seq a (.seq b (.seq c (.seq d t)))
 | x=>x
def yp:bC:=qG (qG (qG (qG JN.body)))
set_option maxRecDepth 100000 in
theorem IU{b k:Nat}{p:List Nat}(hk:p.length+k<=24){R:List Nat}{Q:ae->Prop}(hQ:∀H',Row H' b (gr (p++R))->Q H'->Q H'){H0:ae}{H:ae}{m:List Nat}(hm:p.length+m.length=24){i x:Nat}(hi:i<4)(hik:i<=k)(hx:x<10 ^ i)(hp:put i m x=R)
  {T:bK} (g0:T 0=nQ b p.length k) (g4:T 4=.int .i64 (i:Int)) (g12:T 12=.int .u32 (x:Int)) (hr:Row H b (gr (p++m))) (hn:H.next=H0.next) (ho:∀c,c≠b->H.get c=H0.get c) :
  wp (an Tryz.prog aE) yp (gX JN.res fun v H'=>Row H' b (gr (p++R))/\H'.next=H0.next/\∀c,c≠b->H'.get c=H0.get c) T H:=by
 simp only[yp,qG,JN,<- ky,sA,sB,seval]
 have fin1:∀{T:bK} {H:ae} {m:List Nat} {x:Nat},x<10->p.length+m.length=24->put 1 m x=R->Row H b (gr (p++m))->H.next=H0.next->(∀c,c≠b->H.get c=H0.get c)->1<=k ->
   IntKind.u32.wrap (48+(x:Int))=((48+x:Nat):Int)/\IntKind.u8.wrap ((48+x:Nat):Int)=((48+x:Nat):Int)/\gi 1 (nQ b p.length k) (.int .i64 0)=some (ak b 24 (p.length+0)) /\
   ∃H',bB 1 H (ak b 24 (p.length+0)) (.int .u8 ((48+x:Nat):Int))=some H'/\Row H' b (gr (p++R))/\H'.next=H0.next/\∀c,c≠b->H'.get c=H0.get c:=by
  intro T H m x hx hm hp hr hn ho hk1
  refine⟨by rw[eU om om]; omega,dz om om,ge .i64 (i:=0) hk1,?_⟩
  obtain⟨H1,m1,r1,n1,k1⟩:=bj hr (n:=24) (by rw[fG,lA,hm]) (i:=p.length+0) om (x:=.int .u8 ((48+x:Nat):Int)) rfl
  rw[<- jn]at r1
  refine⟨H1,m1,?_,om,fun c hc=>(k1 c hc).trans (ho c hc)⟩
  have:x % 10=x:=om
  rw[<- hp]
  simpa only [put,this] using r1
 by_cases c2:2<=i
 ·obtain⟨j,rfl⟩:∃j,i=j+2:=⟨i-2,om⟩
  have c2':(2:Int)<=((j+2:Nat):Int):=om
  have e1:=mA (a:=x) 100 om
  have hx4:x<10 ^ 4:=NN hx (Nat.pow_le_pow_right om om)
  have e2:=mB (a:=x) 100 om om
  simp only[Int.cast_ofNat_Int]at e1 e2
  have w1:IntKind.u32.wrap (((x % 100:Nat):Int)*2)=((x % 100*2:Nat):Int):=by rw[eU om om]; omega
  have w2:IntKind.u32.wrap (((x % 100*2:Nat):Int)+1)=((x % 100*2+1:Nat):Int):=by rw[eU om om]; omega
  have s1:IntKind.i64.wrap (((j+2:Nat):Int)-1)=((j+1:Nat):Int):=by rw[aR om om]; omega
  have s2:IntKind.i64.wrap (((j+2:Nat):Int)-2)=((j:Nat):Int):=by rw[aR om om]; omega
  obtain⟨H1,H2,m1,m2,r2,n2,k2⟩:=fT hr hm (i:=j) (d:=x % 100) om
  have hd:x % 100<100:=om
  rw[iK]at hp
  by_cases c0:0<j
  ·have hj:j=1:=om
   have c0':(0:Int)<(j:Int):=om
   have hx2:x / 100<10:=by
    rw[hj]at hx
    have:x<10 ^ 3:=hx
    omega
   rw[hj]at hp r2
   obtain⟨f1,f2,f3,H3,f4,f5⟩:=fin1 (T:=T) hx2 (by rw[dT,hm]) hp r2 om (fun c hc=>(k2 c hc).trans (ho c hc)) om
   simp only[sA,sB,seval,g0,g4,g12,c2',e1,e2,w1,w2,s1,s2,ff hd,ee hd,ge .i64 (show j+1<k by omega),ge .i64 (show j<k by omega),m1,m2,c0',f1,f2,f3,f4,fZ]
   exact f5
  ·have hj:j=0:=om
   have c0':¬(0:Int)<(j:Int):=om
   rw[hj]at hp r2
   simp only[sA,sB,seval,g0,g4,g12,c2',e1,e2,w1,w2,s1,s2,ff hd,ee hd,ge .i64 (show j+1<k by omega),ge .i64 (show j<k by omega),m1,m2,c0',fZ]
   refine⟨by rw[<- hp]; exact r2,om,fun c hc=>(k2 c hc).trans (ho c hc)⟩
 ·have c2':¬(2:Int)<=(i:Int):=om
  by_cases c0:0<i
  ·have hj:i=1:=om
   have c0':(0:Int)<(i:Int):=om
   rw[hj]at hp hx
   obtain⟨f1,f2,f3,H3,f4,f5⟩:=fin1 (T:=T) (by simpa using hx) hm hp hr hn ho om
   simp only[sA,sB,seval,g0,g4,g12,c2',c0',f1,f2,f3,f4,fZ]
   exact f5
  ·have hj:i=0:=om
   have c0':¬(0:Int)<(i:Int):=om
   rw[hj]at hp
   simp only[sA,sB,seval,g0,g4,g12,c2',c0',fZ]
   exact⟨by rw[<- hp]; exact hr,hn,ho⟩
set_option maxRecDepth 100000 in
theorem rY(h79:aE.is 74=false){b k u:Nat}{p l:List Nat}{H:ae}(hr:Row H b (gr (p++l)))(hl:p.length+l.length=24)(hk:p.length+k<=24)(hu:u<10 ^ k)(hu64:u<18446744073709551616) :
  an Tryz.prog aE 74 [nQ b p.length k,.int .u64 (u:Int)] H fun v H'=>Row H' b (gr (p++put k l u))/\H'.next=H.next/\∀c,c≠b->H'.get c=H.get c:=by
 refine ai h79 Ma rfl ?_
 have t:=fun (T:bK) (H1:ae) (m:List Nat) (i x:Nat) hm hi hik hx hp g0 g4 g12 hr hn ho=>IU (b:=b) (k:=k) (p:=p) hk (R:=put k l u) (Q:=fun _=>True) (fun _ _ h=>h) (H0:=H) (H:=H1) (m:=m) hm (i:=i) (x:=x) hi hik hx hp (T:=T) g0 g4 g12 hr hn ho
 show wp _ (Ie yp) (gX JN.res _) _ _
 simp only[Ie,JN,<- ky,sA,sB,seval,Fa]
 refine bL (fun q (T:bK) H'=>∃(i x:Nat) (m:List Nat),i<=k/\i=q/\p.length+m.length=24/\x<10 ^ i/\x<18446744073709551616/\T 0=nQ b p.length k/\T 1=.int .u64 (x:Int)/\T 4=.int .i64 (i:Int)/\put i m x=put k l u/\Row H' b (gr (p++m))/\H'.next=H.next/\∀c,c≠b->H'.get c=H.get c) k
  ⟨k,u,l,Nat.le_refl _,rfl,hl,hu,hu64,by simp only[sA,sB,seval],by simp only[sA,sB,seval],by simp only[sA,sB,seval],rfl,hr,rfl,fun c _=>rfl⟩ ?_
 rintro q T H1 ⟨i,x,m,hi,rfl,hm,hx,hx64,g0,g1,g4,hp,hr1,hn,ho⟩
 clear hr
 by_cases c8:8<=i
 ·obtain⟨j,rfl⟩:∃j,i=j+8:=⟨i-8,om⟩
  have c8':(8:Int)<=((j+8:Nat):Int):=om
  have e1:=I8 (a:=x) 100000000 om
  have e2:=DD (a:=x) 100000000 om hx64
  have w0:IntKind.u32.wrap ((x % 100000000:Nat):Int)=((x % 100000000:Nat):Int):=eU om om
  have p1:x % 100000000 % 10000 % 100=x % 100:=om
  have p2:x % 100000000 % 10000 / 100=x / 100 % 100:=om
  have p3:x % 100000000 / 10000 % 100=x / 100 / 100 % 100:=om
  have p4:x % 100000000 / 10000 / 100=x / 100 / 100 / 100 % 100:=om
  have p5:x / 100 / 100 / 100 / 100=x / 100000000:=om
  rw[iK (j+6),iK (j+4),iK (j+2),iK j,p5,<- p1,<- p2,<- p3,<- p4]at hp
  have hA:x % 100000000<100000000:=om
  have hx':x / 100000000<10 ^ j:=by
   rw[Nat.pow_add]at hx
   exact Nat.div_lt_of_lt_mul (by rw[Nat.mul_comm]; exact hx)
  have hxx:x / 100000000<18446744073709551616:=om
  generalize x / 100000000=x' at *
  generalize x % 100000000=A at *
  have e3:=mB (a:=A) 10000 om om
  have e4:=mA (a:=A) 10000 om
  have hB:A / 10000<10000:=om
  have hC:A % 10000<10000:=om
  generalize A / 10000=B at *
  generalize A % 10000=C at *
  have e5:=mB (a:=C) 100 om om
  have e6:=mA (a:=C) 100 om
  have e7:=mB (a:=B) 100 om om
  have e8:=mA (a:=B) 100 om
  have d1:C % 100<100:=om
  have d2:C / 100<100:=om
  have d3:B % 100<100:=om
  have d4:B / 100<100:=om
  generalize C % 100=y1 at *
  generalize C / 100=y2 at *
  generalize B % 100=y3 at *
  generalize B / 100=y4 at *
  simp only[Int.cast_ofNat_Int]at e1 e2 e3 e4 e5 e6 e7 e8
  have ww:∀y:Nat,y<100->IntKind.u32.wrap ((y:Int)*2)=((y*2:Nat):Int):=fun y hy=>by rw[eU om om]; omega
  have wa:∀y:Nat,y<100->IntKind.u32.wrap (((y*2:Nat):Int)+1)=((y*2+1:Nat):Int):=fun y hy=>by rw[eU om om]; omega
  have s1:IntKind.i64.wrap (((j+8:Nat):Int)-1)=((j+6+1:Nat):Int):=by rw[aR om om]; omega
  have s2:IntKind.i64.wrap (((j+8:Nat):Int)-2)=((j+6:Nat):Int):=by rw[aR om om]; omega
  have s3:IntKind.i64.wrap (((j+8:Nat):Int)-3)=((j+4+1:Nat):Int):=by rw[aR om om]; omega
  have s4:IntKind.i64.wrap (((j+8:Nat):Int)-4)=((j+4:Nat):Int):=by rw[aR om om]; omega
  have s5:IntKind.i64.wrap (((j+8:Nat):Int)-5)=((j+2+1:Nat):Int):=by rw[aR om om]; omega
  have s6:IntKind.i64.wrap (((j+8:Nat):Int)-6)=((j+2:Nat):Int):=by rw[aR om om]; omega
  have s7:IntKind.i64.wrap (((j+8:Nat):Int)-7)=((j+1:Nat):Int):=by rw[aR om om]; omega
  have s8:IntKind.i64.wrap (((j+8:Nat):Int)-8)=((j:Nat):Int):=by rw[aR om om]; omega
  obtain⟨H2,H3,m2,m3,r3,n3,k3⟩:=fT hr1 hm (i:=j+6) (d:=y1) om
  obtain⟨H4,H5,m4,m5,r5,n5,k5⟩:=fT r3 (by rw[dT,hm]) (i:=j+4) (d:=y2) om
  obtain⟨H6,H7,m6,m7,r7,n7,k7⟩:=fT r5 (by rw[dT,dT,hm]) (i:=j+2) (d:=y3) om
  obtain⟨H8,H9,m8,m9,r9,n9,k9⟩:=fT r7 (by rw[dT,dT,dT,hm]) (i:=j) (d:=y4) om
  have ix:∀i,i<k->gi 1 (nQ b p.length k) (.int .i64 (i:Int))=some (ak b 24 (p.length+i)):=fun i h=>ge .i64 h
  simp only[sA,sB,seval,g0,g1,g4,c8',e1,e2,e3,e4,e5,e6,e7,e8,w0,ww y1 d1,ww y2 d2,ww y3 d3,ww y4 d4,wa y1 d1,wa y2 d2,wa y3 d3,wa y4 d4,s1,s2,s3,s4,s5,s6,s7,s8,ff d1,ee d1,ff d2,ee d2,ff d3,ee d3,ff d4,ee d4,
   ix (j+6+1) om,ix (j+6) om,ix (j+4+1) om,ix (j+4) om,ix (j+2+1) om,ix (j+2) om,ix (j+1) om,ix j om,m2,m3,m4,m5,m6,m7,m8,m9]
  refine⟨_,Nat.lt_add_of_pos_right om,j,x',_,om,rfl,?_,hx',hxx,by trivial,by trivial,by trivial,hp,r9,om,fun c hc=>(k9 c hc).trans ((k7 c hc).trans ((k5 c hc).trans ((k3 c hc).trans (ho c hc))))⟩
  simp only[dT,hm]
 ·have c8':¬(8:Int)<=(i:Int):=om
  have hx7:x<10 ^ 7:=NN hx (Nat.pow_le_pow_right om om)
  have w0:IntKind.u32.wrap (x:Int)=(x:Int):=eU om om
  by_cases c4:4<=i
  ·obtain⟨j,rfl⟩:∃j,i=j+4:=⟨i-4,om⟩
   have c4':(4:Int)<=((j+4:Nat):Int):=om
   have e1:=mA (a:=x) 10000 om
   have e2:=mB (a:=x) 10000 om om
   have p1:x % 10000 % 100=x % 100:=om
   have p2:x % 10000 / 100=x / 100 % 100:=om
   have p5:x / 100 / 100=x / 10000:=om
   rw[iK (j+2),iK j,p5,<- p1,<- p2]at hp
   have hx':x / 10000<10 ^ j:=by
    rw[Nat.pow_add]at hx
    exact Nat.div_lt_of_lt_mul (by rw[Nat.mul_comm]; exact hx)
   have hC:x % 10000<10000:=om
   generalize x / 10000=x' at *
   generalize x % 10000=C at *
   have e5:=mB (a:=C) 100 om om
   have e6:=mA (a:=C) 100 om
   have d1:C % 100<100:=om
   have d2:C / 100<100:=om
   generalize C % 100=y1 at *
   generalize C / 100=y2 at *
   simp only[Int.cast_ofNat_Int]at e1 e2 e5 e6
   have ww:∀y:Nat,y<100->IntKind.u32.wrap ((y:Int)*2)=((y*2:Nat):Int):=fun y hy=>by rw[eU om om]; omega
   have wa:∀y:Nat,y<100->IntKind.u32.wrap (((y*2:Nat):Int)+1)=((y*2+1:Nat):Int):=fun y hy=>by rw[eU om om]; omega
   have s1:IntKind.i64.wrap (((j+4:Nat):Int)-1)=((j+2+1:Nat):Int):=by rw[aR om om]; omega
   have s2:IntKind.i64.wrap (((j+4:Nat):Int)-2)=((j+2:Nat):Int):=by rw[aR om om]; omega
   have s3:IntKind.i64.wrap (((j+4:Nat):Int)-3)=((j+1:Nat):Int):=by rw[aR om om]; omega
   have s4:IntKind.i64.wrap (((j+4:Nat):Int)-4)=((j:Nat):Int):=by rw[aR om om]; omega
   obtain⟨H2,H3,m2,m3,r3,n3,k3⟩:=fT hr1 hm (i:=j+2) (d:=y1) om
   obtain⟨H4,H5,m4,m5,r5,n5,k5⟩:=fT r3 (by rw[dT,hm]) (i:=j) (d:=y2) om
   have ix:∀i,i<k->gi 1 (nQ b p.length k) (.int .i64 (i:Int))=some (ak b 24 (p.length+i)):=fun i h=>ge .i64 h
   simp only[sA,sB,seval,g0,g1,g4,c8',w0,c4',e1,e2,e5,e6,ww y1 d1,ww y2 d2,wa y1 d1,wa y2 d2,s1,s2,s3,s4,ff d1,ee d1,ff d2,ee d2,ix (j+2+1) om,ix (j+2) om,ix (j+1) om,ix j om,m2,m3,m4,m5]
   refine t _ _ (xj (xj m (j+2) y1) j y2) j x' ?_ om om hx' hp ?_ ?_ ?_ r5 om fun c hc=>(k5 c hc).trans ((k3 c hc).trans (ho c hc))
   ·simp only[dT,hm]
   all_goals simp only[sA,sB,seval,g0]
  ·have c4':¬(4:Int)<=(i:Int):=om
   simp only[sA,sB,seval,g0,g1,g4,c8',w0,c4']
   refine t _ _ m i x hm om hi hx hp ?_ ?_ ?_ hr1 hn ho
   all_goals simp only[sA,sB,seval,g0,g4]
theorem vI(h79:aE.is 74=false){b k u:Nat}{l:List Nat}{H:ae}(hr:Row H b (gr l))(hl:l.length=24)(hk:k<=24)(hu:u<10 ^ k)(hu64:u<18446744073709551616) :
  an Tryz.prog aE 74 [jK b 24 k,.int .u64 (u:Int)] H fun v H'=>Row H' b (gr (put k l u))/\H'.next=H.next/\∀c,c≠b->H'.get c=H.get c:=
 rY (p:=[]) h79 hr (by simpa using hl) (by simpa using hk) hu hu64
end Go.Proofs.Wo
