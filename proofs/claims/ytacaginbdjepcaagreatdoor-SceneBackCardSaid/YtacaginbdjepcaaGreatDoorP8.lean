/- Part of a proof (ML3 ML4 ML5 VSL VN0 W0 W1 VW2 VW3 VW4 VW5 VW6 VW7 VW8 VW9 VWA VWB VWD VWE VWF); no condition. -/
import Derived.Lib.Repeat
import Derived.Lib.Join
import Derived.Test.YtacaginbdjepcaaGreatDoorP6
import Derived.Test.YtacaginbdjepcaaGreatDoorP7
set_option linter.unusedSimpArgs false
set_option linter.unusedVariables false
set_option linter.unnecessarySimpa false
namespace Go.Abs
structure vz(P:Program)(n:Nat)(A4 A5 A6:Array Oper)(g:FuncId)(t0 t1:TypeId):Prop where
 n4:A4.size=2
 nx:rS n A4 0 (some 23) (.next (.tmp 22) false)
 ex:rt P n A4 1 (some 24) (.extract 0 (.t 23))
 n5:A5.size=7
 en:rS n A5 0 (some 25) (.entry (.tmp 22))
 e0:rt P n A5 1 (some 26) (.extract 0 (.t 25))
 e1:rt P n A5 2 (some 27) (.extract 1 (.t 25))
 a0:rS n A5 3 (some 5) (.alloc t0)
 z0:cB P t0=some [.str []]
 a1:rS n A5 4 (some 6) (.alloc t1)
 z1:cB P t1=some [.nilFunc]
 s0:rt P n A5 5 none (.store 1 (.t 5) (.t 26))
 s1:rt P n A5 6 none (.store 1 (.t 6) (.t 27))
 n6:A6.size=4
 m0:rt P n A6 0 (some 28) (.mv (.t 4))
 m1:rt P n A6 1 (some 29) (.load false 1 (.t 5))
 m2:rt P n A6 2 (some 30) (.mkFunc (.func g) [] [.t 1,.t 5,.t 6])
 m3:rt P n A6 3 none (.hf (.mf (.upd .str)) [.t 28,.t 29,.t 30])
structure Ht(Prot:Gh)(w0:World)(ds:List Deferred)(n N m:Nat)(g:FuncId)(rv:af)(ks:List oN)(H0:ae)(it:Nat)(s:Nat->Bool)(ρ:Pl)(T:Tr af)(H:ae)(a:Act)(w:World)(seen:Array Nat)(L:Loc):Prop where
 rel:Rel ⟨Prot.prot,fun d=>Prot.dead d∨Gz N ks s d⟩ w0 ρ H w
 lh:LH N m g rv ks H0 s H
 ht:aJ ρ n T a.tmps
 hd:a.defers=ds
 t1:T.get 1=some rv
 t4:T.get 4=some (.map (some m))
 t22:T.get 22=some (.val (.pointer (some ⟨it,0,none⟩)))
 mp:ρ m 0=some L
 hi:w.heap[it]?=some (.mapIter (some L.c) ks.length seen ks.length)
 sn:∀i,i<ks.length->seen.contains i=s i
section
variable {ρ:Pl}
theorem az.len:∀{es:List gr} {ES:List MapEntry},az ρ es ES->es.length=ES.length
 | [],ES,h=>by simp only[az]at h; subst h; rfl
 | x::l,ES,h=>by
  simp only[az]at h
  obtain⟨e,r,rfl,_,h⟩:=h
  simp[az.len h]
theorem az.at_:∀{es:List gr} {ES:List MapEntry},az ρ es ES->∀{i:Nat} {x:gr},es[i]?=some x->∃E,ES[i]?=some E/\jj ρ x E
 | [],_,_,i,x,hx=>by simp at hx
 | y::l,ES,h,i,x,hx=>by
  simp only[az]at h
  obtain⟨e,r,rfl,h1,h⟩:=h
  cases i with
  | zero=>simp only[PA,sJ]at hx; subst hx; exact⟨e,rfl,h1⟩
  | succ i=>simp only[PC]at hx ⊢; exact az.at_ h hx
end
section
variable {P:Program} {Prot:Gh} {w0:World} {ds:List Deferred} {n N m:Nat} {g:FuncId} {rv:af} {ks:List oN} {H0:ae} {it:Nat} {tb:FuncId->Bool} {A4 A5 A6:Array Oper} {t0 t1:TypeId}
theorem BV{s:Nat->Bool}{ρ:Pl}{ES:List MapEntry}(hE:az ρ (eZ N g rv s 0 ks) ES):ES.length=ks.length/\∀(i:Nat) (E:MapEntry),ES[i]?=some E->E.born=i/\i<ks.length:=by
 have hl:=hE.len
 rw[xi]at hl
 refine⟨hl.symm,fun i E h=>?_⟩
 have hlt:=(Ps.1 h).1
 have hk:i<ks.length:=om
 obtain⟨E',h1,h2⟩:=hE.at_ (ph s ks 0 i ks[i] (Pr hk))
 rw[h]at h1
 simp only[sJ]at h1
 subst h1
 exact⟨by have:=h2.2.2; simpa using this,hk⟩
theorem qM{ES:List MapEntry}(h:∀(i:Nat) (E:MapEntry),ES[i]?=some E->E.born=i):(ES.map (·.born)).Nodup:=by
 have e:ES.map (·.born)=List.range ES.length:=by
  apply List.ext_getElem?
  intro i
  rw[List.getElem?_map]
  cases hi:ES[i]? with
  | none=>
   rw[List.getElem?_eq_none_iff]at hi
   rw[PL (by simpa using hi)]; rfl
  | some E=>
   have hlt:=(Ps.1 hi).1
   rw[Option.map_some,h i E hi,List.getElem?_range hlt]
 rw[e]
 exact List.nodup_range
theorem tw{a:Act}{w:World}{ty:Nat}{x:Value}(ho:rS n A4 0 (some 23) (.next (.tmp 22) false))(hx:a.eval (.tmp 22)=x){r:Result Value}(hr:∀ty,(Instr.next x false ty).run P w=r){u:Value}{w1:World}(hr':r=.ok u w1) :
  (execOp a.eval (jS A4 0)).run P w=.ok (.value u) w1:=by
 have h:=ho.op
 generalize jS A4 0=oo at *
 obtain⟨dst,op,type,pos,after,guard⟩:=oo
 simp only at h
 subst h
 show (do pure (Next.value (<- Instr.next (a.eval (.tmp 22)) false type)):Sem Next).run P w=_
 rw[hx]
 simp only[Sem.run_bind,hr type,hr',Result.andThen_ok]
 rfl
theorem zX{a:Act}{w:World}{x:Value}(ho:rS n A5 0 (some 25) (.entry (.tmp 22)))(hx:a.eval (.tmp 22)=x){u:Value}{w1:World}(hr:(Instr.entry x).run P w=.ok u w1) :
  (execOp a.eval (jS A5 0)).run P w=.ok (.value u) w1:=by
 have h:=ho.op
 generalize jS A5 0=oo at *
 obtain⟨dst,op,type,pos,after,guard⟩:=oo
 simp only at h
 subst h
 show (do pure (Next.value (<- Instr.entry (a.eval (.tmp 22)))):Sem Next).run P w=_
 rw[hx]
 simp only[Sem.run_bind,hr,Result.andThen_ok]
 rfl
theorem eY{T:Tr af}{t:Nat}{v:af}(h:T.get t=some v):ev T (.t t)=v:=by simp only[ev,h]
theorem ap{T:Tr af}{t k:Nat}{v:af}(h:t≠k):(T.set k v).get t=T.get t:=by rw[Tr.get_set,if_neg h]
theorem bF{T:Tr af}{k:Nat}{v:af}:(T.set k v).get k=some v:=by rw[Tr.get_set,if_pos rfl]
def yq(i4 i5 i6:Nat)(A4 A5 A6:Array Oper):Code:=.seq (.region i4 A4 false) (.seq (.cond (.tmp 24) .skip (.exit 0)) (.block 1 (.seq (.region i5 A5 false) (.region i6 A6 false))))
theorem Fh(htb:∀f,Nat.blt f bO=true->tb f=true->bc P f=true)(C:vz P n A4 A5 A6 g t0 t1)(hks:(ks.map (·.1)).Nodup)(hv:∀p∈ks,p.2.cells=[p.2]/\p.2.one=true)(hmN:m<N)(hD:∀d,Prot.dead d->d<N)(hip:¬Prot.prot it)
  {s:Nat->Bool} {ρ:Pl} {T:Tr af} {H:ae} {a:Act} {w:World} {seen:Array Nat} {L:Loc} (I:Ht Prot w0 ds n N m g rv ks H0 it s ρ T H a w seen L) {i4 i5 i6:Nat} {Q:Exit->Act->World->Prop}
  (hend:(∀i,i<ks.length->s i=true)->∀ρ' T' a' w',ρ.le ρ'->Ht Prot w0 ds n N m g rv ks H0 it s ρ' T' H a' w' seen L->Q (.exit 0) a' w')
  (hgo:∀i ρ' T' H' a' w' seen',i<ks.length->s i=false->ρ.le ρ'->Ht Prot w0 ds n N m g rv ks H0 it (Eh s i) ρ' T' H' a' w' seen' L->Q .normal a' w') :
  (yq i4 i5 i6 A4 A5 A6).wp P Q a w:=by
 obtain⟨R,lh,ht,hd,g1,g4,g22,mp,hi,sn⟩:=I
 obtain⟨L',ES,hL,_,hb,hE⟩:=lC R (mv:=.map (some L.c)) (by simp only[ag]; exact⟨L,mp,rfl⟩) lh.map
 rw[mp]at hL
 simp only[sJ]at hL
 subst hL
 obtain⟨hlen,hborn⟩:=BV hE
 have hold:∀x∈ES.toList,x.born<ks.length:=by
  intro x hx
  obtain⟨i,h⟩:=List.mem_iff_getElem?.1 hx
  have:=hborn i x h
  omega
 have ev22:a.eval (.tmp 22)=.pointer (some ⟨it,0,none⟩):=by
  have:=ht.at_ 22
  rw[eY g22]at this
  simp only[ag]at this
  exact this.1
 have w24:∀{a:Act} {T:Tr af} {ρ:Pl} {b:Bool},aJ ρ n (aO T (some 24) (.bool b)) a.tmps->a.eval (.tmp 24)=.bool b:=by
  intro a T ρ b h
  have:=h.at_ 24
  rw[eY (v:=.bool b) (by simp only[aO]; exact bF)]at this
  simp only[ag]at this
  exact this
 have w22:∀(a:Act) (u:Value),a.defers=ds->(a.put (some 23) u).defers=ds:=fun a u h=>h
 unfold yq
 refine wp_seq (wp_region ?_)
 rw[C.n4]
 show wpOps P A4 _ [0,1] a w
 rcases ov (P:=P) 0 hi hb hold rL with⟨h0,_⟩ | ⟨e,he,w1,hrun,hw1,ho1,ho2,ho3⟩
 ·-- over
  have hall:∀i,i<ks.length->s i=true:=by
   intro i hlt
   cases hs:s i with
   | true=>rfl
   | false=>
    exfalso
    have hil:i<ES.toList.length:=om
    have hE':ES.toList[i]?=some ES.toList[i]:=Pr hil
    have hbi:=(hborn i _ hE').1
    have:ES.toList[i]∈(leftOf ES seen).toList:=by
     unfold leftOf
     rw[Array.toList_filter]
     refine List.mem_filter.2 ⟨List.getElem_mem hil,?_⟩
     rw[hbi,sn i hlt,hs]; rfl
    rw[Array.eq_empty_of_size_eq_zero h0]at this
    simp at this
  have hr:∀ty,(Instr.next (.pointer (some ⟨it,0,none⟩)) false ty).run P w=.ok (.tuple #[.bool false]) w:=by
   intro ty
   rcases ov (P:=P) ty hi hb hold rL with⟨_,h⟩ | ⟨e,he,_⟩
   ·exact h
   ·rw[Array.eq_empty_of_size_eq_zero h0]at he; simp at he
  refine p7 C.nx (tw (ty:=0) C.nx ev22 hr rfl) ?_
  have ht1:aJ ρ n (aO T (some 23) (.tuple [.bool false])) (a.put (some 23) (.tuple #[.bool false])).tmps:=bu ht C.nx.ok (by simp[ag,ah])
  refine gD htb C.ex (R.rebase hi) ht1 (w22 a _ hd) (v:=.bool false) (H1:=H) (by simp only[bG,ev,aO,bF]; rfl) ?_
  intro ρ1 a1 w1 hle R1 ht2 hd2
  obtain⟨R2,hit⟩:=R.unbase R1
  refine wp_seq (wp_cond_false (w24 ht2) (wp_exit ?_))
  refine hend hall ρ1 _ a1 w1 hle ⟨R2,lh,ht2,hd2,?_,?_,?_,hle _ _ _ mp,hit.trans hi,sn⟩
  ·simp only[aO]; rw[ap dD,ap dD]; exact g1
  ·simp only[aO]; rw[ap dD,ap dD]; exact g4
  ·simp only[aO]; rw[ap dD,ap dD]; exact g22
 ·-- one that is left
  have hbound:it<w.heap.size:=(Array.getElem?_eq_some_iff.1 hi).1
  obtain⟨hm1,hm2⟩:=mem_left he
  obtain⟨i,hie⟩:=List.mem_iff_getElem?.1 hm1
  obtain⟨hbi,hik⟩:=hborn i e hie
  have hsi:s i=false:=by rw[<- sn i hik,<- hbi]; exact hm2
  obtain⟨p,hp⟩:∃p,ks[i]?=some p:=⟨_,Pr hik⟩
  obtain⟨E',hE1,hek,hev,_⟩:=hE.at_ (ph s ks 0 i p hp)
  rw[hie]at hE1
  simp only[sJ]at hE1
  subst hE1
  simp only[Nat.zero_add,hsi,cond_false]at hek hev
  have R1:Rel ⟨Prot.prot,fun d=>Prot.dead d∨Gz N ks s d⟩ w0 ρ H w1:=R.iterSet hi hip ho1 ho2 ho3 hw1
  have hi1:w1.heap[it]?=some (.mapIter (some L.c) ks.length (seen.push e.born) ks.length):=by
   rw[hw1]; simp[hbound]
  have hb1:w1.heap[L.c]?=some (.map ES ks.length):=by
   rw[hw1,Array.getElem?_setIfInBounds,if_neg (fun h=>R.noIter hi mp h.symm)]; exact hb
  have hfind:ES.find? (fun x=>x.born==e.born)=some e:=by
   rw[<- Array.find?_toList]; exact find_born e _ (qM fun i E h=>(hborn i E h).1) hm1
  refine p7 C.nx (tw (ty:=0) C.nx ev22 (fun ty=>rfl) hrun) ?_
  have ht1:aJ ρ n (aO T (some 23) (.tuple [.bool true,.str p.1,p.2])) (a.put (some 23) (.tuple #[.bool true,e.key,e.val])).tmps:=
   bu ht C.nx.ok (by simp only[ag,ah]; exact⟨_,rfl,_,_,rfl,rfl,_,_,rfl,hek,_,_,rfl,hev,rfl⟩)
  refine gD htb C.ex (R1.rebase hi1) ht1 (w22 a _ hd) (v:=.bool true) (H1:=H) (by simp only[bG,ev,aO,bF]; rfl) ?_
  intro ρ2 a2 w2 hle2 R2' ht2 hd2
  obtain⟨R2,hit2⟩:=R1.unbase R2'
  have hi2:=hit2.trans hi1
  refine wp_seq (wp_cond_true (w24 ht2) (wp_skip ?_))
  refine wp_block (wp_seq (wp_region ?_))
  rw[C.n5]
  show wpOps P A5 _ [0,1,2,3,4,5,6] a2 w2
  obtain⟨L3,ES3,hL3,_,hb3,hE3⟩:=lC R2 (mv:=.map (some L.c)) (by simp only[ag]; exact⟨L,hle2 _ _ _ mp,rfl⟩) lh.map
  rw[hle2 _ _ _ mp]at hL3
  simp only[sJ]at hL3
  subst hL3
  obtain⟨hlen3,hborn3⟩:=BV hE3
  obtain⟨e3,hie3,hek3,hev3,_⟩:=hE3.at_ (ph s ks 0 i p hp)
  simp only[Nat.zero_add,hsi,cond_false]at hek3 hev3
  have hbe:e.born=e3.born:=by rw[hbi,(hborn3 i e3 hie3).1]
  have hfind3:ES3.find? (fun x=>x.born==e3.born)=some e3:=by
   rw[<- Array.find?_toList]; exact find_born e3 _ (qM fun i E h=>(hborn3 i E h).1) (Pz hie3)
  rw[hbe]at hi2
  have ev22':a2.eval (.tmp 22)=.pointer (some ⟨it,0,none⟩):=by
   have:=ht2.at_ 22
   rw[eY (v:=.val (.pointer (some ⟨it,0,none⟩))) (by simp only[aO]; rw[ap dD,ap dD]; exact g22)]at this
   simp only[ag]at this
   exact this.1
  refine p7 C.en (zX C.en ev22' (uz hi2 hb3 hfind3)) ?_
  generalize hT2:aO (aO T (some 23) (.tuple [.bool true,.str p.1,p.2])) (some 24) (.bool true)=T2 at ht2
  have k1:T2.get 1=some rv:=by rw[<- hT2]; simp only[aO]; rw[ap dD,ap dD]; exact g1
  have k4:T2.get 4=some (.map (some m)):=by rw[<- hT2]; simp only[aO]; rw[ap dD,ap dD]; exact g4
  have k22:T2.get 22=some (.val (.pointer (some ⟨it,0,none⟩))):=by rw[<- hT2]; simp only[aO]; rw[ap dD,ap dD]; exact g22
  have ht3:aJ ρ2 n (aO T2 (some 25) (.tuple [.str p.1,p.2])) (a2.put (some 25) (.tuple #[e3.key,e3.val])).tmps:=
   bu ht2 C.en.ok (by simp only[ag,ah]; exact⟨_,rfl,_,_,rfl,hek3,_,_,rfl,hev3,rfl⟩)
  obtain⟨hpc,hpo⟩:=hv p (Pz hp)
  have hnm:=lh.nm i p hp
  have hdv:=lh.dv i p hp
  simp only[hsi,cond_false]at hnm hdv
  have RB:=R2.rebase hi2
  refine gD htb C.e0 RB ht3 (hd2:(a2.put (some 25) _).defers=ds) (v:=.str p.1) (H1:=H) (by simp only[bG,ev,aO,bF]; rfl) ?_
  intro ρ4 a4 w4 hle4 R4 ht4 hd4
  refine gD htb C.e1 R4 ht4 hd4 (v:=p.2) (H1:=H) (by simp only[bG,ev,aO]; rw[ap dD,bF]; rfl) ?_
  intro ρ5 a5 w5 hle5 R5 ht5 hd5
  refine Fy (b:=N+2*i) C.a0 C.z0 R5 ht5 hd5 (.inr ⟨i,hik,hsi,.inl rfl⟩) hnm ?_
  intro ρ6 a6 w6 hle6 R6 ht6 hd6
  refine Fy (b:=N+2*i+1) C.a1 C.z1 R6 ht6 hd6 ⟨.inr ⟨i,hik,hsi,.inr rfl⟩,om⟩ hdv ?_
  intro ρ7 a7 w7 hle7 R7 ht7 hd7
  simp only[Pv,Pw,Nat.zero_add]at ht7
  refine gD htb C.s0 R7 ht7 hd7 (v:=aN) (H1:=H.set (N+2*i) (.cells [.str p.1] 1 false)) (by
   simp only[bG,ev,aO]
   rw[ap dD,bF,ap dD,ap dD,ap dD,bF]
   simp only[kh (x:=.str p.1) rfl rfl hnm]) ?_
  intro ρ8 a8 w8 hle8 R8 ht8 hd8
  have hdv1:(H.set (N+2*i) (.cells [.str p.1] 1 false)).get (N+2*i+1)=some (.cells [.nilFunc] 0 false):=by rw[ae.get_set,if_neg om]; exact hdv
  refine gD htb C.s1 R8 ht8 hd8 (v:=aN) (H1:=(H.set (N+2*i) (.cells [.str p.1] 1 false)).set (N+2*i+1) (.cells [p.2] 1 false)) (by
   simp only[bG,ev,aO]
   rw[bF,ap dD,ap dD,bF]
   simp only[kh hpc hpo hdv1]) ?_
  intro ρ9 a9 w9 hle9 R9 ht9 hd9
  generalize hH9:(H.set (N+2*i) (.cells [.str p.1] 1 false)).set (N+2*i+1) (.cells [p.2] 1 false)=H9 at R9
  generalize hT9:aO (aO (aO (aO (aO (aO (aO T2 (some 25) (.tuple [.str p.1,p.2])) (some 26) (.str p.1)) (some 27) p.2) (some 5) (.ptr (some ⟨N+2*i,1,0⟩))) (some 6) (.ptr (some ⟨N+2*i+1,1,0⟩))) none aN) none aN=T9 at ht9
  have j1:T9.get 1=some rv:=by rw[<- hT9]; simp only[aO]; rw[ap dD,ap dD,ap dD,ap dD,ap dD]; exact k1
  have j4:T9.get 4=some (.map (some m)):=by rw[<- hT9]; simp only[aO]; rw[ap dD,ap dD,ap dD,ap dD,ap dD]; exact k4
  have j22:T9.get 22=some (.val (.pointer (some ⟨it,0,none⟩))):=by rw[<- hT9]; simp only[aO]; rw[ap dD,ap dD,ap dD,ap dD,ap dD]; exact k22
  have j5:T9.get 5=some (.ptr (some ⟨N+2*i,1,0⟩)):=by rw[<- hT9]; simp only[aO]; rw[ap dD,bF]
  have j6:T9.get 6=some (.ptr (some ⟨N+2*i+1,1,0⟩)):=by rw[<- hT9]; simp only[aO]; rw[bF]
  have hm9:H9.get m=some (.map (eZ N g rv s 0 ks) ks.length):=by rw[<- hH9,ae.get_set,if_neg om,ae.get_set,if_neg om]; exact lh.map
  have hn9:H9.get (N+2*i)=some (.cells [.str p.1] 1 false):=by rw[<- hH9,ae.get_set,if_neg om,ae.get_set,if_pos rfl]
  show Exit.then _ _ .normal a9 w9
  refine wp_region ?_
  rw[C.n6]
  show wpOps P A6 _ [0,1,2,3] a9 w9
  refine gD htb C.m0 R9 ht9 hd9 (v:=.map (some m)) (H1:=H9) (by simp only[bG,eY j4]) ?_
  intro ρa aa wa hlea Ra hta hda
  refine gD htb C.m1 Ra hta hda (v:=.str p.1) (H1:=H9) (by
   simp only[bG]
   rw[eY (show (aO T9 (some 28) (.map (some m))).get 5=_ by simp only[aO]; rw[ap dD]; exact j5),lL (Nat.le_refl 1) hn9]; rfl) ?_
  intro ρb ab wb hleb Rb htb' hdb
  refine gD htb C.m2 Rb htb' hdb (v:=Dt N g rv i) (H1:=H9) (by
   simp only[bG,eX]
   rw[eY (show (aO (aO T9 (some 28) (.map (some m))) (some 29) (.str p.1)).get 1=_ by simp only[aO]; rw[ap dD,ap dD]; exact j1),
    eY (show (aO (aO T9 (some 28) (.map (some m))) (some 29) (.str p.1)).get 5=_ by simp only[aO]; rw[ap dD,ap dD]; exact j5),
    eY (show (aO (aO T9 (some 28) (.map (some m))) (some 29) (.str p.1)).get 6=_ by simp only[aO]; rw[ap dD,ap dD]; exact j6)]
   rfl) ?_
  intro ρc ac wc hlec Rc htc hdc
  have hfnd:=tB (N:=N) (g:=g) (rv:=rv) s ks 0 0 i p hks hp
  have hset:=xh (N:=N) (g:=g) (rv:=rv) s ks 0 i p hp
  simp only[Nat.zero_add]at hfnd hset
  have hup:mY (.mf (.upd .str)) H9 [.map (some m),.str p.1,Dt N g rv i]=some (.tuple [],H9.set m (.map (eZ N g rv (Eh s i) 0 ks) ks.length)):=by
   simp only[mY,HG,hm9,LS,rI,cond_true,hfnd,hset]
  refine gD htb C.m3 Rc htc hdc (v:=.tuple []) (H1:=H9.set m (.map (eZ N g rv (Eh s i) 0 ks) ks.length)) (by
   simp only[bG,eX]
   rw[eY (show (aO (aO (aO T9 (some 28) (.map (some m))) (some 29) (.str p.1)) (some 30) (Dt N g rv i)).get 28=some (.map (some m)) by simp only[aO]; rw[ap dD,ap dD,bF]),
    eY (show (aO (aO (aO T9 (some 28) (.map (some m))) (some 29) (.str p.1)) (some 30) (Dt N g rv i)).get 29=some (.str p.1) by simp only[aO]; rw[ap dD,bF]),
    eY (show (aO (aO (aO T9 (some 28) (.map (some m))) (some 29) (.str p.1)) (some 30) (Dt N g rv i)).get 30=some (Dt N g rv i) by simp only[aO]; rw[bF])]
   rw[hup]; rfl) ?_
  intro ρd ad wd hled Rd htd hdd
  have hle9:ρ2.le ρd:=Pl.le_trans hle4 (Pl.le_trans hle5 (Pl.le_trans hle6 (Pl.le_trans hle7 (Pl.le_trans hle8 (Pl.le_trans hle9 (Pl.le_trans hlea (Pl.le_trans hleb (Pl.le_trans hlec hled))))))))
  obtain⟨Re,hite⟩:=R2.unbase Rd
  show Exit.inBlock 1 _ .normal ad wd
  refine hgo i ρd _ _ ad wd (seen.push e3.born) hik hsi (Pl.le_trans hle2 hle9) ⟨Re.fewer fun d hd=>?_,⟨?_,?_,?_,?_,?_⟩,htd,hdd,?_,?_,?_,hle9 _ _ _ (hle2 _ _ _ mp),hite.trans hi2,?_⟩
  ·rcases hd with hd | ⟨j,hj,hsj,hdj⟩
   ·have:=hD d hd
    exact⟨⟨.inl hd,om⟩,om⟩
   ·have hji:j≠i:=fun e=>by rw[e,gz]at hsj; simp at hsj
    rw[ld hji]at hsj
    exact⟨⟨.inr ⟨j,hj,hsj,hdj⟩,om⟩,om⟩
  ·show H9.next=_
   rw[<- hH9]; exact lh.next
  ·intro b hb hbm
   rw[ae.get_set,if_neg hbm,<- hH9,ae.get_set,if_neg om,ae.get_set,if_neg om]
   exact lh.old b hb hbm
  ·rw[ae.get_set,if_pos rfl]
  ·intro j q hq
   rw[ae.get_set,if_neg om,<- hH9,ae.get_set,if_neg om,ae.get_set]
   by_cases hji:j=i
   ·subst hji
    rw[hp]at hq
    simp only[sJ]at hq
    subst hq
    rw[if_pos rfl,gz]; rfl
   ·rw[if_neg om,ld hji]
    exact lh.nm j q hq
  ·intro j q hq
   rw[ae.get_set,if_neg om,<- hH9,ae.get_set]
   by_cases hji:j=i
   ·subst hji
    rw[hp]at hq
    simp only[sJ]at hq
    subst hq
    rw[if_pos rfl,gz]; rfl
   ·rw[if_neg om,ae.get_set,if_neg om,ld hji]
    exact lh.dv j q hq
  ·simp only[aO]; rw[ap dD,ap dD,ap dD]; exact j1
  ·simp only[aO]; rw[ap dD,ap dD,ap dD]; exact j4
  ·simp only[aO]; rw[ap dD,ap dD,ap dD]; exact j22
  ·intro j hj
   rw[contains_push,(hborn3 i e3 hie3).1,sn j hj]
   by_cases hji:j=i
   ·subst hji; rw[gz]; simp
   ·rw[ld hji]; simp[hji]
end
end Go.Abs
namespace Go.Abs
section
variable {P:Program} {Prot:Gh} {w0:World} {ds:List Deferred} {n N m:Nat} {g:FuncId} {rv:af} {ks:List oN} {H0:ae} {it:Nat} {tb:FuncId->Bool} {A3 A4 A5 A6:Array Oper} {t0 t1:TypeId}
def Fj(k:Nat)(s:Nat->Bool):Nat:=((List.range k).filter fun i=>!s i).length
theorem Ig{k i:Nat}{s:Nat->Bool}(hi:i<k)(hs:s i=false):Fj k (Eh s i)<Fj k s:=by
 unfold Fj
 refine filter_lt (fun i=>!s i) (fun j=>!Eh s i j) (fun x hx=>?_) i (by simp[hs]) (by simp[gz]) _ (List.mem_range.2 hi)
 by_cases h:x=i
 ·subst h; rw[gz]at hx; simp at hx
 ·rw[ld h]at hx; exact hx
theorem sF(htb:∀f,Nat.blt f bO=true->tb f=true->bc P f=true)(C:vz P n A4 A5 A6 g t0 t1)(hks:(ks.map (·.1)).Nodup)(hv:∀p∈ks,p.2.cells=[p.2]/\p.2.one=true)(hmN:m<N)(hD:∀d,Prot.dead d->d<N)(hip:¬Prot.prot it)
  {i4 i5 i6:Nat} {Q:Exit->Act->World->Prop} {L:Loc} {ρ0:Pl}
  (hend:∀s ρ' T' H' a' w' seen,ρ0.le ρ'->(∀i,i<ks.length->s i=true)->Ht Prot w0 ds n N m g rv ks H0 it s ρ' T' H' a' w' seen L->Q (.exit 0) a' w') :
  ∀(k:Nat) (s:Nat->Bool) (ρ:Pl) (T:Tr af) (H:ae) (a:Act) (w:World) (seen:Array Nat),ρ0.le ρ->Fj ks.length s<k->Ht Prot w0 ds n N m g rv ks H0 it s ρ T H a w seen L->Code.rounds P (yq i4 i5 i6 A4 A5 A6) Q k a w
 | 0,_,_,_,_,_,_,_,_,h,_=>absurd h (Nat.not_lt_zero _)
 | k+1,s,ρ,T,H,a,w,seen,hle,h,I=>by
  rw[rounds_succ]
  refine Fh htb C hks hv hmN hD hip I (fun hall ρ' T' a' w' hl I'=>hend s ρ' T' H a' w' seen (Pl.le_trans hle hl) hall I') fun i ρ' T' H' a' w' seen' hi hs hl I'=>?_
  exact sF htb C hks hv hmN hD hip hend k _ ρ' T' H' a' w' seen' (Pl.le_trans hle hl) (by have:=Ig hi hs; omega) I'
def jP:List oN->ae->ae
 | [],H=>H
 | _::r,H=>jP r ((H.push (.cells [.str []] 0 false)).push (.cells [.nilFunc] 0 false))
theorem pV:∀(ks:List oN) (H:ae),(jP ks H).next=H.next+2*ks.length
 | [],H=>rfl
 | p::r,H=>by
  simp only[jP,pV r,Pv]
  show H.next+1+1+_=_
  omega
theorem iP:∀(ks:List oN) (H:ae) {b:Nat},b<H.next->(jP ks H).get b=H.get b
 | [],H,b,_=>rfl
 | p::r,H,b,h=>by
  simp only[jP]
  rw[iP r _ (b:=b) (show b<H.next+1+1 by omega),ae.get_push,if_neg (by show b≠H.next+1; omega),ae.get_push,if_neg om]
theorem pW:∀(ks:List oN) (H:ae) {i:Nat},i<ks.length->(jP ks H).get (H.next+2*i)=some (.cells [.str []] 0 false)/\(jP ks H).get (H.next+2*i+1)=some (.cells [.nilFunc] 0 false)
 | [],H,i,h=>absurd h (Nat.not_lt_zero _)
 | p::r,H,0,_=>by
  simp only[jP]
  rw[iP r _ (show H.next+2*0<H.next+1+1 by omega),iP r _ (show H.next+2*0+1<H.next+1+1 by omega)]
  refine⟨?_,?_⟩
  ·rw[ae.get_push,if_neg (by show H.next+2*0≠H.next+1; omega),ae.get_push,if_pos om]
  ·rw[ae.get_push,if_pos (by show H.next+2*0+1=H.next+1; omega)]
 | p::r,H,i+1,h=>by
  simp only[jP]
  have:=pW r ((H.push (.cells [.str []] 0 false)).push (.cells [.nilFunc] 0 false)) (i:=i) (by simpa using h)
  have e:((H.push (.cells [.str []] 0 false)).push (.cells [.nilFunc] 0 false)).next=H.next+2:=rfl
  rw[e]at this
  rw[show H.next+2*(i+1)=H.next+2+2*i by omega]
  exact this
theorem sN{ρ:Pl}{w:World}{pr:Nat->Prop}:∀(ks:List oN) (D:Nat->Prop) (H:ae),Rel ⟨pr,D⟩ w0 ρ H w->Rel ⟨pr,fun d=>D d∨∃i,i<ks.length/\(d=H.next+2*i∨d=H.next+2*i+1)⟩ w0 ρ (jP ks H) w
 | [],D,H,R=>R.fewer fun d hd=>by
  rcases hd with hd | ⟨i,hi,_⟩
  ·exact hd
  ·exact absurd hi (Nat.not_lt_zero _)
 | p::r,D,H,R=>by
  have R1:=R.reserve (.cells [.str []] 0 false) rfl
  have R2:=R1.reserve (.cells [.nilFunc] 0 false) rfl
  have:=sN r _ _ R2
  refine Rel.fewer this fun d hd=>?_
  rcases hd with hd | ⟨i,hi,hd⟩
  ·exact .inl (.inl (.inl hd))
  ·cases i with
   | zero=>
    rcases hd with hd | hd
    ·exact .inl (.inl (.inr om))
    ·exact .inl (.inr (show d=H.next+1 by omega))
   | succ i=>
    refine .inr ⟨i,by simpa using hi,?_⟩
    show d=H.next+1+1+2*i∨d=H.next+1+1+2*i+1
    omega
structure Hs(P:Program)(n:Nat)(A3:Array Oper)(ty:TypeId):Prop where
 n3:A3.size=2
 mv:rt P n A3 0 (some 21) (.mv (.t 4))
 rg:rS n A3 1 (some 22) (.range ty (.tmp 21))
 ut:∃k e,P.underlying ty=some (.map k e)
theorem zW{a:Act}{w:World}{ty:Nat}{x:Value}(ho:rS n A3 1 (some 22) (.range ty (.tmp 21)))(hx:a.eval (.tmp 21)=x){u:Value}{w1:World}(hr:(Instr.range ty x).run P w=.ok u w1) :
  (execOp a.eval (jS A3 1)).run P w=.ok (.value u) w1:=by
 have h:=ho.op
 generalize jS A3 1=oo at *
 obtain⟨dst,op,type,pos,after,guard⟩:=oo
 simp only at h
 subst h
 show (do pure (Next.value (<- Instr.range ty (a.eval (.tmp 21)))):Sem Next).run P w=_
 rw[hx]
 simp only[Sem.run_bind,hr,Result.andThen_ok]
 rfl
theorem xV(w:World)(o:Obj):RowKit.Below w.heap.size w (w.alloc o):=by
 refine⟨rfl,rfl,rfl,?_,fun c hc=>?_⟩
 ·show w.heap.size<=(w.heap.push o).size
  simp
 ·exact heap_alloc_old w o hc
theorem FH(htb:∀f,Nat.blt f bO=true->tb f=true->bc P f=true){ty:TypeId}(C3:Hs P n A3 ty)(C:vz P n A4 A5 A6 g t0 t1)(hks:(ks.map (·.1)).Nodup)(hv:∀p∈ks,p.2.cells=[p.2]/\p.2.one=true)
  {ρ:Pl} {T:Tr af} {H:ae} {a:Act} {w:World} (R:Rel Prot w0 ρ H w) (ht:aJ ρ n T a.tmps) (hd:a.defers=ds) (hm:H.get m=some (.map (eZ H.next g rv (fun _=>false) 0 ks) ks.length)) (hmn:m<H.next) (g1:T.get 1=some rv) (g4:T.get 4=some (.map (some m)))
  {i3 i4 i5 i6:Nat} {Q:Exit->Act->World->Prop}
  (hQ:∀ρ' T' H' a' w' s,ρ.le ρ'->Rel Prot w0 ρ' H' w'->(∀i,i<ks.length->s i=true)->LH H.next m g rv ks H s H'->aJ ρ' n T' a'.tmps->a'.defers=ds->T'.get 1=some rv->T'.get 4=some (.map (some m))->Q .normal a' w') :
  (Code.seq (.region i3 A3 false) (.block 0 (.loop (yq i4 i5 i6 A4 A5 A6)))).wp P Q a w:=by
 have hD:∀d,Prot.dead d->d<H.next:=fun d h=>(R.dead d h).1
 refine wp_seq (wp_region ?_)
 rw[C3.n3]
 show wpOps P A3 _ [0,1] a w
 refine gD htb C3.mv R ht hd (v:=.map (some m)) (H1:=H) (by simp only[bG,eY g4]) ?_
 intro ρ1 a1 w1 hle1 R1 ht1 hd1
 obtain⟨L,ES,hL,_,hb,hE⟩:=lC R1 (mv:=a1.eval (.tmp 21)) (by have:=ht1.at_ 21; rw[eY (v:=.map (some m)) (by simp only[aO]; exact bF)]at this; exact this) hm
 have e21:a1.eval (.tmp 21)=.map (some L.c):=by
  have:=ht1.at_ 21
  rw[eY (v:=.map (some m)) (by simp only[aO]; exact bF)]at this
  simp only[ag]at this
  obtain⟨L',h1,h2⟩:=this
  rw[hL]at h1
  simp only[sJ]at h1
  rw[h1]; exact h2
 obtain⟨kt,et,hut⟩:=C3.ut
 have hrg:=run_range_map w1 ty kt et L.c ES ks.length hut hb
 refine p7 C3.rg (zW C3.rg e21 hrg) ?_
 have R2:Rel Prot w0 ρ1 H (w1.alloc (.mapIter (some L.c) ks.length #[] ks.length)):=R1.keep (xV _ _)
 have ht2:aJ ρ1 n (aO (aO T (some 21) (.map (some m))) (some 22) (.val (.pointer (some ⟨w1.heap.size,0,none⟩)))) (a1.put (some 22) (.pointer (some ⟨w1.heap.size,0,none⟩))).tmps:=
  bu ht1 C3.rg.ok (by simp only[ag]; exact⟨trivial,rfl⟩)
 have R3:=sN ks Prot.dead H R2
 have hip:¬Prot.prot w1.heap.size:=fun h=>by
  have h1:=(R1.prot _ h).1
  have h2:=R1.size
  omega
 show Exit.then _ _ .normal _ _
 refine wp_block (wp_loop_rounds (ks.length+1) ?_)
 have hrem:Fj ks.length (fun _=>false)<ks.length+1:=by
  have h:∀f:Nat->Bool,((List.range ks.length).filter f).length<ks.length+1:=fun f=>by
   have:=List.length_filter_le f (List.range ks.length)
   rw[List.length_range]at this
   omega
  exact h _
 refine sF (N:=H.next) (m:=m) (rv:=rv) (ks:=ks) (H0:=H) (it:=w1.heap.size) (ds:=ds) (L:=L) (ρ0:=ρ1) htb C hks hv hmn hD hip ?_ (ks.length+1) (fun _=>false) ρ1 _ (jP ks H) _ _ #[] (Pl.le_refl _) hrem
  ⟨R3.fewer fun d hd=>?_,⟨pV ks H,fun b hb _=>iP ks H hb,by rw[iP ks H hmn]; exact hm,fun i p hp=>?_,fun i p hp=>?_⟩,ht2,hd1,?_,?_,?_,hL,heap_alloc_new _ _,fun i _=>by simp⟩
 ·intro s ρ' T' H' a' w' seen hl hall I
  have hdead:∀d,¬Gz H.next ks s d:=by
   rintro d ⟨i,hi,hs,_⟩
   rw[hall i hi]at hs; simp at hs
  show Exit.inBlock 0 Q (.exit 0) a' w'
  simp only[Exit.inBlock,if_true]
  exact hQ ρ' T' H' a' w' s (Pl.le_trans hle1 hl) (I.rel.fewer fun d hd=>.inl hd) hall I.lh I.ht I.hd I.t1 I.t4
 ·rcases hd with hd | ⟨i,hi,_,hd⟩
  ·exact .inl hd
  ·exact .inr ⟨i,hi,hd⟩
 ·exact (pW ks H (Ps.1 hp).1).1
 ·exact (pW ks H (Ps.1 hp).1).2
 ·simp only[aO]; rw[ap dD,ap dD]; exact g1
 ·simp only[aO]; rw[ap dD,ap dD]; exact g4
 ·simp only[aO]; rw[bF]
end
end Go.Abs
namespace Go.Abs
open Go.Abs.S
def Ks:pt->Exit
 | .normal=>.normal
 | .exit id=>.exit id
 | .ret=>.ret
section
variable {P:Program} {Prot:Gh} {w0:World} {ρ:Pl} {H:ae} {w:World}
theorem vW{tab:Tr cg}(hT:Cp P tab):∀f,Nat.blt f bO=true->vC iU tab f=true->bc P f=true:=by
 intro f hf h
 have hg:∃fn,tab.get f=some fn:=by
  unfold vC iU at h
  simp only[cond_false]at h
  split at h
  ·exact⟨_,by assumption⟩
  ·simp at h
 obtain⟨fn,hg⟩:=hg
 obtain⟨md,he⟩:=hT _ _ hg
 rcases Gw hf he with h9 | ⟨m,h9⟩
 ·obtain⟨fc,c,q1,q2,q3,_⟩:=mS h9; exact jy hf q1 q2 q3
 ·obtain⟨fc,c,b,r,q1,q2,q3,_⟩:=kP h9; exact jy hf q1 q2 q3
theorem ml(hfol:P.follows .mixedOrders=true){n:Nat}{c:Code}{ac:bh}(hc:dq P n c=some ac){Qs:kU}{T:Tr af}(h:wp (aq P iU) ac Qs (en T) H){ds:List Deferred}{a:Act}(R:Rel Prot w0 ρ H w)(ht:aJ ρ n T a.tmps)(hd:a.defers=ds)
  {Q:Exit->Act->World->Prop} (hQ:∀e T' H' ρ' a' w',Qs e (en T') H'->ρ.le ρ'->Rel Prot w0 ρ' H' w'->aJ ρ' n T' a'.tmps->a'.defers=ds->Q (Ks e) a' w'):c.wp P Q a w:=by
 obtain⟨k,e,T',H',h1,h2⟩:=vH _ _ _ _ h
 refine wp_mono (qB hfol (vW (oV P iU)) (yk hfol FC (oV P iU) k) (ds:=ds) c ac hc ρ T T' H H' e a w R ht hd h1) ?_
 rintro e' a' w' ⟨he,ρ',hl,R',ht',hd'⟩
 have:=hQ e T' H' ρ' a' w' h2 hl R' ht' hd'
 cases e with
 | normal=>simp only at he; subst he; exact this
 | exit id=>simp only at he; subst he; exact this
 | ret=>simp only at he; subst he; exact this
end
end Go.Abs
namespace Go.Proofs.Wo
open Go.Abs Go.Abs.S
open Go Go.Abs Go.Abs.S
def cl:Code->Code
 | .seq a _=>a
 | c=>c
def cr:Code->Code
 | .seq _ b=>b
 | c=>c
def Nv:Code->Array Oper
 | .region _ ops _=>ops
 | _=>#[]
def Nw:Code->Nat
 | .region i _ _=>i
 | _=>0
def M9:Code->Code
 | .block _ c=>c
 | c=>c
def loC:Code->Code
 | .loop c=>c
 | c=>c
noncomputable section
def HJ:Code:=match Tryz.f20.body with
 | some c=>c
 | none=>.skip
def Pj:Code:=cl (cr (cr (cr HJ)))
def R20:Code:=cr (cr (cr (cr HJ)))
def DP:Code:=loC (M9 (cr Pj))
def A3:Array Oper:=Nv (cl Pj)
def A4:Array Oper:=Nv (cl DP)
def A5:Array Oper:=Nv (cl (M9 (cr (cr DP))))
def A6:Array Oper:=Nv (cr (M9 (cr (cr DP))))
end
theorem NH:Tryz.f20.body=some HJ:=by kernel_rfl
theorem HY:HJ=.seq (cl HJ) (.seq (cl (cr HJ)) (.seq (cl (cr (cr HJ))) (.seq (.seq (.region (Nw (cl Pj)) A3 false) (.block 0 (.loop (yq (Nw (cl DP)) (Nw (cl (M9 (cr (cr DP))))) (Nw (cr (M9 (cr (cr DP))))) A4 A5 A6)))) R20))):=by kernel_rfl
theorem La:Hs Tryz.prog 47 A3 70:=⟨by kernel_rfl,⟨by kernel_rfl,by kernel_rfl,by kernel_rfl,by kernel_rfl,by kernel_rfl⟩,⟨by kernel_rfl,by kernel_rfl,by kernel_rfl,by kernel_rfl,by kernel_rfl⟩,⟨_,_,Tryz.underlying70⟩⟩
theorem Lq:vz Tryz.prog 47 A4 A5 A6 53 9 75:=⟨by kernel_rfl,⟨by kernel_rfl,by kernel_rfl,by kernel_rfl,by kernel_rfl,by kernel_rfl⟩,⟨by kernel_rfl,by kernel_rfl,by kernel_rfl,by kernel_rfl,by kernel_rfl⟩,by kernel_rfl,⟨by kernel_rfl,by kernel_rfl,by kernel_rfl,by kernel_rfl,by kernel_rfl⟩,⟨by kernel_rfl,by kernel_rfl,by kernel_rfl,by kernel_rfl,by kernel_rfl⟩,⟨by kernel_rfl,by kernel_rfl,by kernel_rfl,by kernel_rfl,by kernel_rfl⟩,⟨by kernel_rfl,by kernel_rfl,by kernel_rfl,by kernel_rfl,by kernel_rfl⟩,by kernel_rfl,⟨by kernel_rfl,by kernel_rfl,by kernel_rfl,by kernel_rfl,by kernel_rfl⟩,by kernel_rfl,⟨by kernel_rfl,by kernel_rfl,by kernel_rfl,by kernel_rfl,by kernel_rfl⟩,⟨by kernel_rfl,by kernel_rfl,by kernel_rfl,by kernel_rfl,by kernel_rfl⟩,by kernel_rfl,⟨by kernel_rfl,by kernel_rfl,by kernel_rfl,by kernel_rfl,by kernel_rfl⟩,⟨by kernel_rfl,by kernel_rfl,by kernel_rfl,by kernel_rfl,by kernel_rfl⟩,⟨by kernel_rfl,by kernel_rfl,by kernel_rfl,by kernel_rfl,by kernel_rfl⟩,⟨by kernel_rfl,by kernel_rfl,by kernel_rfl,by kernel_rfl,by kernel_rfl⟩⟩
def Je:bh->bh
 | .seq a _=>a
 | c=>c
def xZ:bh->bh
 | .seq _ b=>b
 | c=>c
theorem p0:dq Tryz.prog 47 (cl HJ)=some (Je vF.body):=by kernel_rfl
theorem p1:dq Tryz.prog 47 (cl (cr HJ))=some (Je (xZ vF.body)):=by kernel_rfl
theorem p2:dq Tryz.prog 47 (cl (cr (cr HJ)))=some (Je (xZ (xZ vF.body))):=by kernel_rfl
theorem p3:dq Tryz.prog 47 R20=some (xZ (xZ (xZ (xZ vF.body)))):=by kernel_rfl
def vD(sp:af):List oN:=[([115,105,122,101],.func (.func 40) [] [sp]),([115,97,109,112,108,101,115],.func (.func 42) [] [sp]),([98,111,117,110,99,101,115],.func (.func 43) [] [sp]),([115,101,101,100],.func (.func 44) [] [sp]),([101,121,101],.func (.func 46) [] [sp]),([97,116],.func (.func 48) [] [sp]),([117,112],.func (.func 49) [] [sp]),([119,105,100,101],.func (.func 50) [] [sp]),([115,107,121],.func (.func 52) [] [sp])]
def MG(rp r:af):List gr:=[(.str [100,105,102,102,117,115,101],.func (.func 54) [] [rp],9),(.str [109,105,114,114,111,114],.func (.func 56) [] [rp],10),(.str [103,108,111,119],.func (.func 57) [] [rp],11),(.str [115,104,97,100,101,114],.func (.func 58) [r] [],12),(.str [98,97,108,108],.func (.func 59) [r] [],13),(.str [109,101,115,104],.func (.func 60) [r] [],14)]
theorem FV(sp:af):((vD sp).map (·.1)).Nodup:=by
 show ([[115,105,122,101],[115,97,109,112,108,101,115],[98,111,117,110,99,101,115],[115,101,101,100],[101,121,101],[97,116],[117,112],[119,105,100,101],[115,107,121]]:List (List UInt8)).Nodup
 decide
theorem KS(sp:af):∀p∈vD sp,p.2.cells=[p.2]/\p.2.one=true:=by
 intro p hp
 simp only[vD,List.mem_cons,List.not_mem_nil,or_false]at hp
 rcases hp with rfl | rfl | rfl | rfl | rfl | rfl | rfl | rfl | rfl <;> exact⟨rfl,rfl⟩
theorem dh{H:ae}{m:Nat}{es:List gr}{c:Nat}{k:List UInt8}{v:af}(hg:H.get m=some (.map es c))(hf:bY .str (.str k) es 0=some none) :
  ∃H',mY (.mf (.upd .str)) H [.map (some m),.str k,v]=some (.tuple [],H')/\H'.next=H.next/\H'.get m=some (.map (es++[(.str k,v,c)]) (c+1))/\∀b,b≠m->H'.get b=H.get b:=
 ⟨H.set m (.map (es++[(.str k,v,c)]) (c+1)),by simp only[mY,HG,hg,LS,rI,cond_true,hf],rfl,by rw[ae.get_set,if_pos rfl],fun b hb=>by rw[ae.get_set,if_neg hb]⟩
def iQ:List oN->ae->ae
 | [],H=>H
 | (nm,v)::r,H=>iQ r ((H.push (.cells [.str nm] 1 false)).push (.cells [v] 1 false))
theorem lw:∀(ks:List oN) (H:ae),(iQ ks H).next=H.next+2*ks.length
 | [],H=>rfl
 | p::r,H=>by
  obtain⟨a,b⟩:=p
  simp only[iQ,lw r,Pv]
  show H.next+1+1+_=_
  omega
theorem eJ:∀(ks:List oN) (H:ae) {b:Nat},(b<H.next∨H.next+2*ks.length<=b)->(iQ ks H).get b=H.get b
 | [],H,b,_=>rfl
 | (x,y)::r,H,b,h=>by
  simp only[iQ,Pv]at h ⊢
  rw[eJ r _ (b:=b) (show b<H.next+1+1∨H.next+1+1+2*r.length<=b by omega),ae.get_push,if_neg (by show b≠H.next+1; omega),ae.get_push,if_neg om]
theorem mi:∀(ks:List oN) (H:ae) {i:Nat} {p:oN},ks[i]?=some p->(iQ ks H).get (H.next+2*i)=some (.cells [.str p.1] 1 false)/\(iQ ks H).get (H.next+2*i+1)=some (.cells [p.2] 1 false)
 | [],H,i,p,h=>by simp at h
 | (x,y)::r,H,0,p,h=>by
  simp only[PA,sJ]at h
  subst h
  simp only[iQ]
  rw[eJ r _ (show H.next+2*0<H.next+1+1∨_ by omega),eJ r _ (show H.next+2*0+1<H.next+1+1∨_ by omega)]
  refine⟨?_,?_⟩
  ·rw[ae.get_push,if_neg (by show H.next+2*0≠H.next+1; omega),ae.get_push,if_pos om]
  ·rw[ae.get_push,if_pos (by show H.next+2*0+1=H.next+1; omega)]
 | (x,y)::r,H,i+1,p,h=>by
  simp only[PC]at h
  simp only[iQ]
  have:=mi r ((H.push (.cells [.str x] 1 false)).push (.cells [y] 1 false)) h
  have e:((H.push (.cells [.str x] 1 false)).push (.cells [y] 1 false)).next=H.next+2:=rfl
  rw[e]at this
  rw[show H.next+2*(i+1)=H.next+2+2*i by omega]
  exact this
def iR(H:ae)(a:Ad):ae:=((H.push (.cells [.ptr (some a)] 0 false)).push (.cells [.ptr (some ⟨a.b,a.lim,a.o+0⟩)] 1 false)).push (.map [] 0)
def ny(H:ae):af:=.ptr (some ⟨H.next,1,0⟩)
def lS(H:ae):af:=.ptr (some ⟨H.next+1,1,0⟩)
def oR(H:ae)(a:Ad):List gr:=eZ (H.next+3) 53 (ny H) (fun _=>true) 0 (vD (lS H))++MG (ny H) (.ptr (some a))
def nH(H:ae):List af->Option (af×ae)
 | [.ptr (some a)]=>some (.map (some (H.next+2)),(iQ (vD (lS H)) (iR H a)).set (H.next+2) (.map (oR H a) 15))
 | _=>none
theorem _root_.Go.Abs.Rel.heap_eq'{Prot:Gh}{w0:World}{ρ:Pl}{H:ae}{w:World}(R:Rel Prot w0 ρ H w){H':ae}(hn:H'.next=H.next)(hg:∀b,b<H.next->H'.get b=H.get b)(hj:∀b l low,H.next<=b->H'.get b≠some (.cells l low true)):Rel Prot w0 ρ H' w:=by
 refine ⟨R.os, R.tape, R.output, R.size, R.prot, fun b l L h => by rw [hn]; exact R.dom b l L h, fun b l L h => by rw [hg b (R.dom b l L h).1]; exact R.obj b l L h, fun b l L x h hx => R.free b l L x h (by rw [<- hg b (R.dom b l L h).1]; exact hx),
  fun b l L b' l' L' x h h' e hx => R.inj b l L b' l' L' x h h' e (by rw [<- hg b (R.dom b l L h).1]; exact hx), fun b h => by rw [hn]; exact R.dead b h, fun b l low h => ?_⟩
 by_cases hb:b<H.next
 ·exact R.glob b l low (by rw[<- hg b hb]; exact h)
 ·exact absurd h (hj b l low om)
theorem _root_.Go.Abs.Rel.junk{Prot:Gh}{w0:World}{ρ:Pl}{H:ae}{w:World}(R:Rel Prot w0 ρ H w)(b:Nat)(l:List af)(low:Nat)(hb:H.next<=b):H.get b≠some (.cells l low true):=fun h=>by
 obtain⟨L,h1,_⟩:=R.glob b l low h
 have:=(R.dom _ _ _ h1).1
 omega
theorem NB:(Tryz.prog).follows .mixedOrders=true:=by kernel_rfl
theorem KH{H:ae}{a:Ad}{T:bN}(g0:T 0=.ptr (some a)) :
  wp (aq Tryz.prog iU) (Je vF.body) (fun e T' H'=>e=.normal/\H'=H.push (.cells [.ptr (some a)] 0 false)/\T' 0=.ptr (some a)/\T' 1=ny H) T H:=by
 have m1:eR H [.ptr (some a)]=(ny H,H.push (.cells [.ptr (some a)] 0 false)):=rfl
 simp only[vF,Je,sA,sB,seval,g0,af.cells,m1]
 exact⟨tt,tt,tt,tt⟩
theorem Ii{H:ae}{a:Ad}{T:bN}(g1:T 1=ny H) :
  wp (aq Tryz.prog iU) (Je (xZ vF.body)) (fun e T' H'=>e=.normal/\H'.next=H.next+2/\H'.get H.next=some (.cells [.ptr (some a)] 0 false)/\H'.get (H.next+1)=some (.cells [.ptr (some ⟨a.b,a.lim,a.o+0⟩)] 1 false)/\(∀b,b≠H.next->b≠H.next+1->H'.get b=H.get b)/\T' 1=ny H/\T' 3=lS H) T (H.push (.cells [.ptr (some a)] 0 false)):=by
 have l1:bi false 1 (H.push (.cells [.ptr (some a)] 0 false)) (ny H)=some (.ptr (some a)):=lL (Nat.zero_le _) (by rw[ae.get_push,if_pos rfl])
 have e1:ck (.ptr (some a))=some (.ptr (some a)):=rfl
 have e2:gQ 0 (.ptr (some a))=some (.ptr (some ⟨a.b,a.lim,a.o+0⟩)):=rfl
 have m1:eR (H.push (.cells [.ptr (some a)] 0 false)) [.ptr none]=(lS H,(H.push (.cells [.ptr (some a)] 0 false)).push (.cells [.ptr none] 0 false)):=rfl
 have m2:bD 1 ((H.push (.cells [.ptr (some a)] 0 false)).push (.cells [.ptr none] 0 false)) (lS H) (.ptr (some ⟨a.b,a.lim,a.o+0⟩))=some (((H.push (.cells [.ptr (some a)] 0 false)).push (.cells [.ptr none] 0 false)).set (H.next+1) (.cells [.ptr (some ⟨a.b,a.lim,a.o+0⟩)] 1 false)):=kh (y:=.ptr none) rfl rfl (by rw[ae.get_push,if_pos (by rfl)])
 simp only[vF,Je,xZ,sA,sB,seval,g1,l1,e1,e2,m1,m2]
 refine⟨tt,rfl,?_,?_,fun b h1 h2=>?_,tt,tt⟩
 ·rw[ae.get_set,if_neg om,ae.get_push,if_neg (by show H.next≠H.next+1; omega),ae.get_push,if_pos rfl]
 ·rw[ae.get_set,if_pos rfl]
 ·rw[ae.get_set,if_neg h2,ae.get_push,if_neg (by show b≠H.next+1; omega),ae.get_push,if_neg h1]
theorem Ih{H K:ae}{T:bN}(hK:K.next=H.next+2)(g1:T 1=ny H)(g3:T 3=lS H) :
  wp (aq Tryz.prog iU) (Je (xZ (xZ vF.body))) (fun e T' H'=>e=.normal/\H'.next=H.next+3/\H'.get (H.next+2)=some (.map (eZ (H.next+3) 53 (ny H) (fun _=>false) 0 (vD (lS H))) 9)/\(∀b,b≠H.next+2->H'.get b=K.get b)/\T' 1=ny H/\T' 4=.map (some (H.next+2))) T K:=by
 have mm:mY .mkMap K []=some (.map (some (H.next+2)),K.push (.map [] 0)):=by rw[<- hK]; rfl
 have q0:(K.push (.map [] 0)).get (H.next+2)=some (.map [] 0):=by rw[ae.get_push,if_pos hK.symm]
 have n0:(K.push (.map [] 0)).next=H.next+3:=by show K.next+1=_; omega
 have o0:∀b,b≠H.next+2->(K.push (.map [] 0)).get b=K.get b:=fun b hb=>by rw[ae.get_push,if_neg om]
 obtain⟨K1,m1,n1,q1,o1⟩:=dh (H:=(K.push (.map [] 0))) (v:=.func (.func 40) [] [lS H]) q0 (k:=[115,105,122,101]) rfl
 obtain⟨K2,m2,n2,q2,o2⟩:=dh (H:=K1) (v:=.func (.func 42) [] [lS H]) q1 (k:=[115,97,109,112,108,101,115]) rfl
 obtain⟨K3,m3,n3,q3,o3⟩:=dh (H:=K2) (v:=.func (.func 43) [] [lS H]) q2 (k:=[98,111,117,110,99,101,115]) rfl
 obtain⟨K4,m4,n4,q4,o4⟩:=dh (H:=K3) (v:=.func (.func 44) [] [lS H]) q3 (k:=[115,101,101,100]) rfl
 obtain⟨K5,m5,n5,q5,o5⟩:=dh (H:=K4) (v:=.func (.func 46) [] [lS H]) q4 (k:=[101,121,101]) rfl
 obtain⟨K6,m6,n6,q6,o6⟩:=dh (H:=K5) (v:=.func (.func 48) [] [lS H]) q5 (k:=[97,116]) rfl
 obtain⟨K7,m7,n7,q7,o7⟩:=dh (H:=K6) (v:=.func (.func 49) [] [lS H]) q6 (k:=[117,112]) rfl
 obtain⟨K8,m8,n8,q8,o8⟩:=dh (H:=K7) (v:=.func (.func 50) [] [lS H]) q7 (k:=[119,105,100,101]) rfl
 obtain⟨K9,m9,n9,q9,o9⟩:=dh (H:=K8) (v:=.func (.func 52) [] [lS H]) q8 (k:=[115,107,121]) rfl
 simp only[vF,Je,xZ,sA,sB,seval,g1,g3,mm,m1,m2,m3,m4,m5,m6,m7,m8,m9]
 refine⟨tt,om,q9,fun b hb=>by rw[o9 b hb,o8 b hb,o7 b hb,o6 b hb,o5 b hb,o4 b hb,o3 b hb,o2 b hb,o1 b hb,o0 b hb],tt,tt⟩
theorem Ik{H K:ae}{a:Ad}{T:bN}(hm:K.get (H.next+2)=some (.map (eZ (H.next+3) 53 (ny H) (fun _=>true) 0 (vD (lS H))) 9))(hb:K.get H.next=some (.cells [.ptr (some a)] 0 false))(g1:T 1=ny H)(g4:T 4=.map (some (H.next+2))) :
  wp (aq Tryz.prog iU) (xZ (xZ (xZ (xZ vF.body)))) (fun e T' H'=>e=.ret/\H'.next=K.next/\H'.get (H.next+2)=some (.map (oR H a) 15)/\(∀b,b≠H.next+2->H'.get b=K.get b)/\T' 2=.map (some (H.next+2))) T K:=by
 obtain⟨K1,m1,n1,q1,o1⟩:=dh (H:=K) (v:=.func (.func 54) [] [ny H]) hm (k:=[100,105,102,102,117,115,101]) rfl
 obtain⟨K2,m2,n2,q2,o2⟩:=dh (H:=K1) (v:=.func (.func 56) [] [ny H]) q1 (k:=[109,105,114,114,111,114]) rfl
 obtain⟨K3,m3,n3,q3,o3⟩:=dh (H:=K2) (v:=.func (.func 57) [] [ny H]) q2 (k:=[103,108,111,119]) rfl
 obtain⟨K4,m4,n4,q4,o4⟩:=dh (H:=K3) (v:=.func (.func 58) [.ptr (some a)] []) q3 (k:=[115,104,97,100,101,114]) rfl
 obtain⟨K5,m5,n5,q5,o5⟩:=dh (H:=K4) (v:=.func (.func 59) [.ptr (some a)] []) q4 (k:=[98,97,108,108]) rfl
 obtain⟨K6,m6,n6,q6,o6⟩:=dh (H:=K5) (v:=.func (.func 60) [.ptr (some a)] []) q5 (k:=[109,101,115,104]) rfl
 have lr:∀{J:ae},J.get H.next=K.get H.next->bi false 1 J (ny H)=some (.ptr (some a)):=fun h=>lL (Nat.zero_le _) (h.trans hb)
 have hne:H.next≠H.next+2:=om
 have l3:=lr (J:=K3) (by rw[o3 _ hne,o2 _ hne,o1 _ hne])
 have l4:=lr (J:=K4) (by rw[o4 _ hne,o3 _ hne,o2 _ hne,o1 _ hne])
 have l5:=lr (J:=K5) (by rw[o5 _ hne,o4 _ hne,o3 _ hne,o2 _ hne,o1 _ hne])
 simp only[vF,xZ,sA,sB,seval,g1,g4,m1,m2,m3,m4,m5,m6,l3,l4,l5]
 refine⟨tt,om,q6,fun b hb=>by rw[o6 b hb,o5 b hb,o4 b hb,o3 b hb,o2 b hb,o1 b hb],tt⟩
theorem C7{args:List af}{H:ae}{v:af}{H':ae}(h:nH H args=some (v,H'))(Prot:Gh)(w0:World)(ρ:Pl)(w:World)(vs:Array Value)(R:Rel Prot w0 ρ H w)(hv:ah ρ args vs.toList) :
  Calls Tryz.prog 20 vs w fun e w'=>∃ρ' u,ρ.le ρ'/\e=.returned u/\Rel Prot w0 ρ' H' w'/\ag ρ' v u:=by
 unfold nH at h
 split at h <;> first | (simp at h; done) | skip
 rename_i a
 simp only[sJ,pJ]at h
 obtain⟨rfl,rfl⟩:=h
 refine calls_of_wp Tryz.func20 NH ?_
 have hst:=kA (ρ:=ρ) hv (n:=47) (by simp)
 have hnt:Tryz.f20.ntmps=47:=by kernel_rfl
 rw[hnt,HY]
 have hout:∀b l low,b<H.next∨H.next+21<=b->H.next<=b->H.get b≠some (.cells l low true):=fun b l low _ hb=>R.junk b l low hb
 refine wp_seq (ml NB p0 (KH (H:=H) (a:=a) rfl) (ds:=[]) R hst rfl ?_)
 rintro _ T1 _ ρ1 a1 w1 ⟨rfl,rfl,g0,g1⟩ hl1 R1 ht1 hd1
 refine wp_seq (ml NB p1 (Ii (H:=H) (a:=a) g1) R1 ht1 hd1 ?_)
 rintro _ T2 K ρ2 a2 w2 ⟨rfl,n2,k0,k1,ko,g1,g3⟩ hl2 R2 ht2 hd2
 refine wp_seq (ml NB p2 (Ih (H:=H) n2 g1 g3) R2 ht2 hd2 ?_)
 rintro _ T3 K3 ρ3 a3 w3 ⟨rfl,n3,k3,ko3,g1,g4⟩ hl3 R3 ht3 hd3
 have tget:∀{T:Tr af} {t:Nat} {v:af},en T t=v->v≠aN->T.get t=some v:=by
  intro T t v h hv
  unfold en ev at h
  simp only at h
  split at h
  ·rw[<- h]; assumption
  ·exact absurd h.symm hv
 have hks:=FV (lS H)
 rw[<- n3]at k3
 refine wp_seq (FH (m:=H.next+2) (rv:=ny H) (ks:=vD (lS H)) (fun f hf h=>vW (oV Tryz.prog iU) f hf h) La Lq hks (KS _) R3 ht3 hd3 k3 om (tget g1 (by unfold ny aN; simp)) (tget g4 (by unfold aN; simp)) ?_)
 intro ρ4 T4 K4 a4 w4 s hl4 R4 hall lh ht4 hd4 g1' g4'
 have hmap:K4.get (H.next+2)=some (.map (eZ (H.next+3) 53 (ny H) (fun _=>true) 0 (vD (lS H))) 9):=by
  rw[lh.map,n3]
  have key:∀(ks:List oN) (k:Nat),(∀i,i<ks.length->s (k+i)=true)->eZ (H.next+3) 53 (ny H) s k ks=eZ (H.next+3) 53 (ny H) (fun _=>true) k ks:=by
   intro ks
   induction ks with
   | nil=>intro k _; rfl
   | cons p r ih=>
    intro k hk
    obtain⟨x,y⟩:=p
    have h0:=hk 0 (by simp)
    rw[Nat.add_zero]at h0
    simp only[eZ,h0,ih (k+1) fun i hi=>by rw[show k+1+i=k+(i+1) by omega]; exact hk (i+1) (by simp; omega)]
  rw[key (vD (lS H)) 0 fun i hi=>by rw[Nat.zero_add]; exact hall i hi]
  rfl
 have hbox:K4.get H.next=some (.cells [.ptr (some a)] 0 false):=by rw[lh.old _ om om,ko3 _ om]; exact k0
 refine ml NB p3 (Ik (H:=H) (a:=a) hmap hbox (by simp only[en,ev,g1']) (by simp only[en,ev,g4'])) R4 ht4 hd4 ?_
 rintro _ T5 K5 ρ5 a5 w5 ⟨rfl,n5,k5,ko5,g2⟩ hl5 R5 ht5 hd5
 have hres:nR Tryz.prog Tryz.f20.results.toList=some vF.res:=by kernel_rfl
 obtain⟨u,r1,r2⟩:=ib (P:=Tryz.prog) (fn:=Tryz.f20) R5 ht5 hres (xs:=[.map (some (H.next+2))]) (by
  have:=tget g2 (by unfold aN; simp)
  show hJ T5 K5 [.t 2]=_
  simp only[hJ,ev,this])
 have hle:ρ.le ρ5:=Pl.le_trans hl1 (Pl.le_trans hl2 (Pl.le_trans hl3 (Pl.le_trans hl4 hl5)))
 have hnx:K4.next=H.next+21:=by rw[lh.next,n3]; rfl
 have hpn:(iR H a).next=H.next+3:=rfl
 have hcn:(iQ (vD (lS H)) (iR H a)).next=H.next+21:=by rw[lw,hpn]; rfl
 have pre0:∀b,b<H.next->(iR H a).get b=H.get b:=fun b hb=>by
  unfold iR
  rw[ae.get_push,if_neg (by show b≠H.next+1+1; omega),ae.get_push,if_neg (by show b≠H.next+1; omega),ae.get_push,if_neg om]
 have preB:∀b,H.next+3<=b->(iR H a).get b=H.get b:=fun b hb=>by
  unfold iR
  rw[ae.get_push,if_neg (by show b≠H.next+1+1; omega),ae.get_push,if_neg (by show b≠H.next+1; omega),ae.get_push,if_neg om]
 have pre1:(iR H a).get H.next=some (.cells [.ptr (some a)] 0 false):=by
  unfold iR
  rw[ae.get_push,if_neg (by show H.next≠H.next+1+1; omega),ae.get_push,if_neg (by show H.next≠H.next+1; omega),ae.get_push,if_pos rfl]
 have pre2:(iR H a).get (H.next+1)=some (.cells [.ptr (some ⟨a.b,a.lim,a.o+0⟩)] 1 false):=by
  unfold iR
  rw[ae.get_push,if_neg (by show H.next+1≠H.next+1+1; omega),ae.get_push,if_pos (by rfl)]
 refine⟨hd5,u,r1,ρ5,u,hle,rfl,R5.heap_eq' ?_ (fun b hb=>?_) (fun b l low hb=>?_),r2⟩
 ·show (iQ (vD (lS H)) (iR H a)).next=_
  rw[hcn,n5,hnx]
 ·rw[n5,hnx]at hb
  rw[ae.get_set]
  by_cases hm:b=H.next+2
  ·subst hm; rw[if_pos rfl,k5]
  ·rw[if_neg hm,ko5 b hm]
   by_cases h3:b<H.next+3
   ·rw[eJ _ _ (.inl (by rw[hpn]; exact h3)),lh.old b om hm,ko3 b hm]
    by_cases h0:b=H.next
    ·subst h0; rw[pre1,k0]
    by_cases h1:b=H.next+1
    ·subst h1; rw[pre2,k1]
    rw[pre0 b om,ko b h0 h1]
   ·obtain⟨i,hi⟩:∃i,b=H.next+3+2*i∨b=H.next+3+2*i+1:=⟨(b-(H.next+3)) / 2,om⟩
    have hik:i<(vD (lS H)).length:=by show i<9; omega
    have hp:=Pr hik
    have hat:=mi (vD (lS H)) (iR H a) hp
    rw[hpn]at hat
    have hnm:=lh.nm i _ hp
    have hdv:=lh.dv i _ hp
    rw[hall i hik,n3]at hnm hdv
    rcases hi with rfl | rfl
    ·rw[hat.1,hnm]; rfl
    ·rw[hat.2,hdv]; rfl
 ·rw[n5,hnx]at hb
  rw[ae.get_set,if_neg om,eJ _ _ (.inr (by rw[hpn]; show H.next+3+2*9<=b; omega)),preB b om]
  exact R.junk b l low om
end Go.Proofs.Wo
namespace Go.Proofs.Wo
open Go.Abs Go.Abs.S Go.Proofs
def re(H:ae):List af->Option (af×ae)
 | [.str s]=>bif Nat.ble s.length 281474976710656 then some (.str s,H) else none
 | _=>none
def vx(H:ae):List af->Option (af×ae)
 | [.str s,.int .i64 (.ofNat c)]=>bif Nat.ble c 9223372036854775807&&Nat.ble (s.length*c) 140737488355328 then some (.str (Lib.repeatL s c),H) else none
 | _=>none
def lf:List af->Option (List (List UInt8))
 | []=>some []
 | .str s::l=>match lf l with
  | some r=>some (s::r)
  | none=>none
 | _=>none
def yl(H:ae):List af->Option (af×ae)
 | [.slice (some a) n r,.str sep]=>match aT H a n with
  | some xs=>match lf xs with
   | some l=>bif Nat.ble 2 n&&(Nat.ble n 140737488355328&&Nat.ble (Lib.join l sep).length 140737488355328) then some (.str (Lib.join l sep),H) else none
   | none=>none
  | none=>none
 | _=>none
def aG:gU:=⟨fun f=>Nat.beq f 95||(Nat.beq f 20||(Nat.beq f 36||Nat.beq f 11)),
 fun f args H=>bif Nat.beq f 95 then re H args else bif Nat.beq f 20 then nH H args else bif Nat.beq f 36 then yl H args else bif Nat.beq f 11 then vx H args else none,fun _=>none⟩
open Go.Abs Go.Abs.S
abbrev Bs:=List UInt8
def eF(b:UInt8):Bool:=decide (48<=b.toNat)&&decide (b.toNat<=57)
def blk(b:UInt8):Bool:=((decide (b.toNat=9)||decide (b.toNat=10))||decide (b.toNat=13))||decide (b.toNat=32)
def cH(p:UInt8->Bool)(s:Bs)(at_:Nat):Nat:=at_+((s.drop at_).takeWhile p).length
theorem tC{s:Bs}{i:Nat}{c:UInt8}(h:s[i]?=some c):s.drop i=c::s.drop (i+1):=by
 have hlt:=(Ps.1 h).1
 rw[List.drop_eq_getElem_cons hlt]
 congr 1
 rw[Pr hlt]at h
 simpa using h
theorem AY{p:UInt8->Bool}{s:Bs}{i:Nat}{c:UInt8}(h:s[i]?=some c)(hp:p c=true):cH p s i=cH p s (i+1):=by
 unfold cH
 rw[tC h,List.takeWhile_cons_of_pos hp,Pv]
 omega
theorem Ib{p:UInt8->Bool}{s:Bs}{i:Nat}{c:UInt8}(h:s[i]?=some c)(hp:p c=false):cH p s i=i:=by
 unfold cH
 rw[tC h,List.takeWhile_cons_of_neg (by simp[hp])]
 simp
theorem Ff{p:UInt8->Bool}{s:Bs}{i:Nat}(h:s.length<=i):cH p s i=i:=by
 unfold cH
 rw[List.drop_eq_nil_of_le h]
 simp
theorem AZ(p:UInt8->Bool)(s:Bs)(i:Nat):i<=cH p s i:=Nat.le_add_right _ _
theorem oZ{p:UInt8->Bool}{s:Bs}{i:Nat}(h:i<=s.length):cH p s i<=s.length:=by
 unfold cH
 have:=(List.takeWhile_sublist (p:=p) (l:=s.drop i)).length_le
 simp only[PN]at this
 omega
theorem AX{p:UInt8->Bool}{s:Bs}{i j:Nat}(h1:i<=j)(h2:j<cH p s i):∃c,s[j]?=some c/\p c=true:=by
 unfold cH at h2
 have hj:j-i<((s.drop i).takeWhile p).length:=om
 have hm:=List.getElem_mem hj
 have hp:=List.all_takeWhile (p:=p) (l:=s.drop i)
 refine⟨((s.drop i).takeWhile p)[j-i],?_,List.all_eq_true.1 hp _ hm⟩
 obtain⟨t,ht⟩:=List.takeWhile_prefix p (l:=s.drop i)
 have:(s.drop i)[j-i]?=some ((s.drop i).takeWhile p)[j-i]:=by
  conv=>lhs; rw[<- ht]
  rw[PJ hj,Pr hj]
 rw[List.getElem?_drop,show i+(j-i)=j by omega]at this
 exact this
theorem Fe{p:UInt8->Bool}{s:Bs}{i:Nat}{c:UInt8}(h:s[cH p s i]?=some c):p c=false:=by
 unfold cH at h
 rw[<- List.getElem?_drop]at h
 generalize s.drop i=l at h
 induction l with
 | nil=>simp at h
 | cons a l ih=>
  cases ha:p a with
  | true=>
   rw[List.takeWhile_cons_of_pos ha]at h
   simp only[Pv,PC]at h
   exact ih h
  | false=>
   rw[List.takeWhile_cons_of_neg (by simp[ha])]at h
   simp only[Pw,PA,sJ]at h
   rw[<- h]; exact ha
def mA(s:Bs)(i:Nat):Nat:=
 if cH eF s i=i∨s[cH eF s i]?≠some 46 then cH eF s i
 else if cH eF s i+1<cH eF s (cH eF s i+1) then cH eF s (cH eF s i+1) else cH eF s i
theorem Ir{s:Bs}{i:Nat}(h:i<=s.length):mA s i<=s.length:=by
 unfold mA
 have h1:=oZ (p:=eF) h
 split
 ·exact h1
 ·rename_i hn
  have hs:s[cH eF s i]?=some 46:=by
   by_cases c:s[cH eF s i]?=some 46
   ·exact c
   ·exact absurd (.inr c) hn
  have hlt:=(Ps.1 hs).1
  split
  ·exact oZ om
  ·exact h1
mutual
def bl:Bs->Bs
 | []=>[]
 | c::r=>if blk c then bl r else if c.toNat=35 then rm r else c::r
def rm:Bs->Bs
 | []=>[]
 | c::r=>if c.toNat=10 then bl r else rm r
end
def dv(c:UInt8):Nat:=c.toNat-48
def dg(l:Bs):Nat:=l.foldl (fun n c=>n*10+dv c) 0
theorem Dl(l:Bs)(n:Nat):l.foldl (fun n c=>n*10+dv c) n=n*10 ^ l.length+dg l:=by
 induction l generalizing n with
 | nil=>simp[dg]
 | cons c l ih=>
  simp only[List.foldl_cons,dg,Pv]
  rw[ih,ih (0*10+dv c)]
  rw[Nat.pow_succ]
  have:(n*10+dv c)*10 ^ l.length=n*(10 ^ l.length*10)+(0*10+dv c)*10 ^ l.length:=by
   rw[Nat.add_mul,Nat.zero_mul,Nat.zero_add,Nat.mul_assoc,Nat.mul_comm 10]
  omega
theorem vK(l:Bs)(c:UInt8):dg (l++[c])=dg l*10+dv c:=by simp[dg]
open Go.Abs Go.Abs.S
def cW(l:List Nat):Nat:=l.foldl (fun n d=>n*10+d) 0
theorem rX(l:List Nat)(n:Nat):l.foldl (fun n d=>n*10+d) n=n*10 ^ l.length+cW l:=by
 induction l generalizing n with
 | nil=>simp[cW]
 | cons c l ih=>
  simp only[List.foldl_cons,cW,Pv]
  rw[ih,ih (0*10+c),Nat.pow_succ]
  have:(n*10+c)*10 ^ l.length=n*(10 ^ l.length*10)+(0*10+c)*10 ^ l.length:=by
   rw[Nat.add_mul,Nat.zero_mul,Nat.zero_add,Nat.mul_assoc,Nat.mul_comm 10]
  omega
theorem ky(d:Nat)(l:List Nat):cW (d::l)=d*10 ^ l.length+cW l:=by
 have:=rX l (0*10+d)
 simp only[Nat.zero_mul,Nat.zero_add]at this
 rw[<- this]; simp[cW]
theorem lW:∀{l:List Nat},(∀d∈l,d<=9)->cW l<10 ^ l.length
 | [],_=>by simp[cW]
 | d::l,h=>by
  have h1:=h d (by simp)
  have h2:=lW (l:=l) fun x hx=>h x (by simp[hx])
  rw[ky,Pv,Nat.pow_succ]
  have:d*10 ^ l.length<=9*10 ^ l.length:=Nat.mul_le_mul_right _ h1
  omega
def ke:List Nat->Nat×List Nat
 | []=>(0,[])
 | d::r=>((d*2+(ke r).1) / 10,(d*2+(ke r).1) % 10::(ke r).2)
theorem pj:∀l:List Nat,(ke l).2.length=l.length
 | []=>rfl
 | d::r=>by simp only[ke,Pv,pj r]
theorem qx:∀{l:List Nat},(∀d∈l,d<=9)->(ke l).1<=1
 | [],_=>by simp[ke]
 | d::r,h=>by
  have h1:=h d (by simp)
  have h2:=qx (l:=r) fun x hx=>h x (by simp[hx])
  simp only[ke]; omega
theorem BN:∀(l:List Nat),∀d∈(ke l).2,d<=9
 | [],d,h=>by simp[ke]at h
 | a::r,d,h=>by
  simp only[ke,List.mem_cons]at h
  rcases h with rfl | h
  ·omega
  ·exact BN r d h
theorem BM:∀(l:List Nat),(ke l).1*10 ^ l.length+cW (ke l).2=2*cW l
 | []=>by simp[ke,cW]
 | d::r=>by
  have ih:=BM r
  simp only[ke,ky,pj,Pv,Nat.pow_succ]
  generalize (ke r).1=o at *
  generalize cW (ke r).2=v at *
  generalize cW r=u at *
  generalize 10 ^ r.length=p at *
  have h1:=Nat.div_add_mod (d*2+o) 10
  have e1:(d*2+o) / 10*(p*10)=10*((d*2+o) / 10)*p:=by rw[Nat.mul_comm p,<- Nat.mul_assoc,Nat.mul_comm _ 10]
  have e2:(10*((d*2+o) / 10)+(d*2+o) % 10)*p=(d*2+o)*p:=by rw[h1]
  have e3:(d*2+o)*p=2*(d*p)+o*p:=by rw[Nat.add_mul,Nat.mul_comm d 2,Nat.mul_assoc]
  rw[Nat.add_mul]at e2
  rw[e1]
  omega
def bits(l:List Nat)(n:Nat):Nat->Nat×List Nat
 | 0=>(n,l)
 | k+1=>(2*(bits l n k).1+(ke (bits l n k).2).1,(ke (bits l n k).2).2)
theorem mU(l:List Nat)(n:Nat):∀k,(bits l n k).2.length=l.length
 | 0=>rfl
 | k+1=>by simp only[bits,pj,mU l n k]
theorem xR{l:List Nat}(h:∀d∈l,d<=9)(n:Nat):∀k,∀d∈(bits l n k).2,d<=9
 | 0=>h
 | k+1=>by simp only[bits]; exact BN _
theorem qN(l:List Nat)(n:Nat):∀k,(bits l n k).1*10 ^ l.length+cW (bits l n k).2=2 ^ k*(n*10 ^ l.length+cW l)
 | 0=>by simp[bits]
 | k+1=>by
  have ih:=qN l n k
  have h2:=BM (bits l n k).2
  rw[mU]at h2
  simp only[bits,Nat.pow_succ]
  rw[Nat.add_mul,Nat.mul_assoc,Nat.mul_right_comm (2 ^ k),<- ih]
  omega
theorem GP{l:List Nat}(h:∀d∈l,d<=9)(n k:Nat):(bits l n k).1=2 ^ k*(n*10 ^ l.length+cW l) / 10 ^ l.length:=by
 have h1:=qN l n k
 have h2:=lW (xR h n k)
 rw[mU]at h2
 rw[<- h1]
 have hp:0<10 ^ l.length:=Nat.pos_of_ne_zero (by simp)
 rw[Nat.mul_comm,Nat.mul_add_div hp,Nat.div_eq_of_lt h2,Nat.add_zero]
def iW(l:List Nat):Nat:=2 ^ 32*cW l / 10 ^ l.length
theorem Dy{l:List Nat}(h:∀d∈l,d<=9)(n:Nat):(bits l n 32).1=2 ^ 32*n+iW l:=by
 rw[GP h,iW,Nat.mul_add]
 have hp:0<10 ^ l.length:=Nat.pos_of_ne_zero (by simp)
 rw[<- Nat.mul_assoc,Nat.mul_comm (2 ^ 32*n),Nat.mul_add_div hp]
theorem BB{l:List Nat}(h:∀d∈l,d<=9):iW l<2 ^ 32:=by
 have:=lW h
 unfold iW
 have hp:0<10 ^ l.length:=Nat.pos_of_ne_zero (by simp)
 exact (Nat.div_lt_iff_lt_mul hp).2 (Nat.mul_lt_mul_of_pos_left this dD)
theorem jI(a b:List Nat):cW (a++b)=cW a*10 ^ b.length+cW b:=by
 have:=rX b (cW a)
 rw[<- this]; simp[cW]
theorem pD:∀k,cW (List.replicate k 0)=0
 | 0=>rfl
 | k+1=>by rw[List.replicate_succ,ky,pD k]; simp
theorem Gg(l:List Nat)(k:Nat):iW (l++List.replicate k 0)=iW l:=by
 unfold iW
 rw[jI,pD,lA,List.length_replicate,Nat.add_zero,Nat.pow_add,<- Nat.mul_assoc]
 exact Nat.mul_div_mul_right _ _ (Nat.pos_of_ne_zero (by simp))
theorem Di{l:List Nat}(h:∀d∈l,d<=9)(hl:32<=l.length):iW (l.take 32)=iW l:=by
 have ht:(l.take 32).length=32:=by simp; omega
 have hd:(l.drop 32).length=l.length-32:=by simp
 have e:cW l=cW (l.take 32)*10 ^ (l.length-32)+cW (l.drop 32):=by
  rw[<- hd,<- jI,List.take_append_drop]
 have hlt:=lW (l:=l.drop 32) fun d hd=>h d (List.mem_of_mem_drop hd)
 rw[hd]at hlt
 have e2:(10:Nat) ^ l.length=10 ^ (l.length-32)*10 ^ 32:=by rw[<- Nat.pow_add]; congr 1; omega
 unfold iW
 rw[ht,e,e2]
 generalize cW (l.take 32)=A
 generalize cW (l.drop 32)=B at *
 generalize hp:(10:Nat) ^ (l.length-32)=p at *
 have hpp:0<p:=by rw[<- hp]; exact Nat.pos_of_ne_zero (by simp)
 rw[<- Nat.div_div_eq_div_mul,Nat.mul_add,<- Nat.mul_assoc,Nat.mul_comm (2 ^ 32*A) p,Nat.mul_add_div hpp]
 have hc:2 ^ 32*B / p<2 ^ 32:=(Nat.div_lt_iff_lt_mul hpp).2 (Nat.mul_lt_mul_of_pos_left hlt dD)
 generalize 2 ^ 32*B / p=c at hc
 have e3:(10:Nat) ^ 32=2 ^ 32*5 ^ 32:=by decide
 rw[e3,<- Nat.div_div_eq_div_mul,<- Nat.div_div_eq_div_mul,Nat.mul_add_div dD,Nat.div_eq_of_lt hc,Nat.add_zero,Nat.mul_div_cancel_left _ dD]
open Go.Abs Go.Abs.S
abbrev by8(c:UInt8):af:=.int .u8 (c.toNat:Int)
def Nl(N:gU)(g:Nat)(p:UInt8->Bool):Prop:=∀(c:UInt8) (H:ae),aq Tryz.prog N g [by8 c] H fun v H'=>v=.bool (p c)/\H=H'
theorem lH(hN:aG.is 103=false):Nl aG 103 eF:=by
 intro c H
 refine ai hN Ms rfl ?_
 by_cases h1:(48:Int)<=(c.toNat:Int)
 ·by_cases h2:(c.toNat:Int)<=57
  ·simp only[I3,sA,sB,seval,h1,h2]
   exact⟨by simp[eF]; omega,by trivial⟩
  ·simp only[I3,sA,sB,seval,h1,h2]
   exact⟨by simp[eF]; omega,by trivial⟩
 ·simp only[I3,sA,sB,seval,h1]
  exact⟨by simp[eF]; omega,by trivial⟩
theorem wg(hN:aG.is 111=false){g:Nat}{p:UInt8->Bool}(hp:Nl aG g p){H:ae}{s:Bs}{i:Nat}(hi:i<=s.length)(hs:s.length<=4611686018427387904)(hg:g<1024:=by decide) :
  aq Tryz.prog aG 111 [.str s,.int .i64 (i:Int),.func (.func g) [] []] H fun v H'=>v=.int .i64 (cH p s i:Int)/\H=H':=by
 refine ai hN Mp rfl ?_
 simp only[M3,hg,sA,sB,seval]
 refine bM (fun q (T:bN) H'=>∃j:Nat,j<=s.length/\q=s.length-j/\T 0=.str s/\T 1=.int .i64 (j:Int)/\T 2=.func (.func g) [] []/\cH p s i=cH p s j/\H=H') (s.length-i) ⟨i,hi,rfl,rfl,rfl,rfl,rfl,rfl⟩ ?_
 rintro q T _ ⟨j,hj,rfl,g0,g1,g2,hA,rfl⟩
 by_cases hlt:j<s.length
 ·have hlt':(j:Int)<(s.length:Int):=om
  obtain⟨c,hc⟩:=aM hlt
  simp only[sA,sB,seval,hg,g0,g1,g2,hlt',bt hc]
  refine (hp c H).mono ?_
  rintro v _ ⟨rfl,rfl⟩
  cases hb:p c with
  | true=>
   simp only[sA,sB,seval,hg,g0,g1,g2,cE j om]
   exact⟨_,om,j+1,om,rfl,by trivial,rfl,by trivial,by rw[hA,AY hc hb],by trivial⟩
  | false=>
   simp only[sA,sB,seval,hg,g0,g1,g2]
   exact⟨by rw[hA,Ib hc hb],by trivial⟩
 ·have hlt':¬(j:Int)<(s.length:Int):=om
  simp only[sA,sB,seval,hg,g0,g1,g2,hlt']
  exact⟨by rw[hA,Ff om],by trivial⟩
theorem uE(h23:aG.is 104=false)(h25:aG.is 111=false)(h22:aG.is 103=false){H:ae}{s:Bs}{i:Nat}(hi:i<=s.length)(hs:s.length<=4611686018427387904) :
  aq Tryz.prog aG 104 [.str s,.int .i64 (i:Int)] H fun v H'=>v=.int .i64 (mA s i:Int)/\H=H':=by
 refine ai h23 Mr rfl ?_
 simp only[M5,sA,sB,seval]
 refine (wg h25 (lH h22) hi hs).mono ?_
 rintro v _ ⟨rfl,rfl⟩
 have h1:=AZ eF s i
 have h2:=oZ (p:=eF) hi
 unfold mA
 generalize cH eF s i=e at *
 by_cases he:(e:Int)=(i:Int)
 ·obtain rfl:e=i:=om
  simp only[sA,sB,seval]
  exact⟨by rw[if_pos (.inl (by trivial))],by trivial⟩
 by_cases hl:(e:Int)=(s.length:Int)
 ·obtain rfl:e=s.length:=om
  have hn:s[s.length]?=none:=PL om
  simp only[sA,sB,seval,he]
  exact⟨by rw[if_pos (.inr (by rw[hn]; simp))],by trivial⟩
 obtain⟨c,hc⟩:=aM (l:=s) (i:=e) om
 by_cases h46:(c.toNat:Int)=46
 ·have hc46:s[e]?=some 46:=by
   rw[hc]; congr 1; exact UInt8.toNat_inj.1 (by simpa using (show c.toNat=46 by omega))
  have hcond:¬(e=i∨s[e]?≠some 46):=by
   rintro (h | h)
   ·omega
   ·exact h hc46
  rw[if_neg hcond]
  simp only[sA,sB,seval,he,hl,bt hc,h46,cE e om]
  refine (wg h25 (lH h22) (i:=e+1) om hs).mono ?_
  rintro v _ ⟨rfl,rfl⟩
  by_cases hm:((e+1:Nat):Int)<(cH eF s (e+1):Int)
  ·simp only[sA,sB,seval,cE e om,hm]
   exact⟨by rw[if_pos om],by trivial⟩
  ·simp only[sA,sB,seval,cE e om,hm]
   exact⟨by rw[if_neg om],by trivial⟩
 ·have hcond:e=i∨s[e]?≠some 46:=by
   right
   rw[hc]
   intro h
   simp only[sJ]at h
   subst h
   exact h46 rfl
  rw[if_pos hcond]
  simp only[sA,sB,seval,he,hl,bt hc,h46]
  exact⟨by trivial,by trivial⟩
open Go.Abs Go.Abs.S
def iZ(s:Bs):List Nat:=s.map dv
theorem pi{s:Bs}(h:∀c∈s,eF c=true):∀d∈iZ s,d<=9:=by
 intro d hd
 obtain⟨c,hc,rfl⟩:=List.mem_map.1 hd
 have:=h c hc
 simp[eF]at this
 unfold dv; omega
def Bj(s:Bs)(i:Nat):List Nat:=iZ (s.take i)++List.replicate (32-i) 0
theorem Bi(s:Bs){i:Nat}(h:i<=s.length)(h2:i<=32):(Bj s i).length=32:=by
 simp[Bj,iZ]; omega
theorem Il(s:Bs){i:Nat}{c:UInt8}(hc:s[i]?=some c)(h2:i<32):(Bj s i).set i (dv c)=Bj s (i+1):=by
 have hlt:=(Ps.1 hc).1
 have hl:(iZ (s.take i)).length=i:=by simp[iZ]; omega
 unfold Bj
 rw[List.set_append_right _ _ om,hl,Nat.sub_self,show 32-i=(32-(i+1))+1 by omega,List.replicate_succ,List.set_cons_zero]
 rw[List.take_add_one,hc]
 simp[iZ]
theorem Fu(s:Bs)(h:∀c∈s,eF c=true):iW (Bj s (min s.length 32))=iW (iZ s):=by
 by_cases hl:s.length<=32
 ·rw[Nat.min_eq_left hl,Bj,List.take_length,Gg]
 ·rw[Nat.min_eq_right om]
  have e:Bj s 32=(iZ s).take 32:=by simp[Bj,iZ,List.map_take]
  rw[e,Di (pi h) (by simp[iZ]; omega)]
def oO(l:List Nat)(m:Nat):List Nat:=l.take m++(ke (l.drop m)).2
theorem Ge(l:List Nat):oO l l.length=l:=by simp[oO,ke]
theorem Dg(l:List Nat):oO l 0=(ke l).2:=by simp[oO]
theorem wV(l:List Nat)(m:Nat):(oO l m).length=l.length:=by
 simp[oO,pj]; omega
theorem Gd{l:List Nat}{m d:Nat}(h:l[m]?=some d):(oO l (m+1))[m]?=some d:=by
 have hlt:=(Ps.1 h).1
 rw[oO,PJ (by simp; omega),List.getElem?_take_of_lt om,h]
theorem BK{l:List Nat}{m d:Nat}(h:l[m]?=some d):l.drop m=d::l.drop (m+1):=by
 have hlt:=(Ps.1 h).1
 rw[List.drop_eq_getElem_cons hlt]
 congr 1
 rw[Pr hlt]at h
 simpa using h
theorem Gc{l:List Nat}{m d:Nat}(h:l[m]?=some d):(oO l (m+1)).set m ((d*2+(ke (l.drop (m+1))).1) % 10)=oO l m:=by
 have hlt:=(Ps.1 h).1
 unfold oO
 rw[BK h,ke]
 rw[List.set_append_left _ _ (by simp; omega)]
 rw[List.take_add_one,h,Option.toList_some,List.set_append_right _ _ (by simp; omega),PG]
 congr 1
 have:m-(l.take m).length=0:=by simp; omega
 rw[this]; rfl
theorem CL(h35:aG.is 105=false){H:ae}{s:Bs}(hd:∀c∈s,eF c=true)(hs:s.length<=4611686018427387904) :
  aq Tryz.prog aG 105 [.str s] H fun v H'=>v=.int .i64 (iW (iZ s):Int)/\bg H.next H H':=by
 refine ai h35 Mq rfl ?_
 obtain⟨H1,m1,r1,n1,k1⟩:=aP H (gY (List.replicate 32 0)) (n:=32) rfl
 have hz:gY (List.replicate 32 0)=[.int .u8 0,.int .u8 0,.int .u8 0,.int .u8 0,.int .u8 0,.int .u8 0,.int .u8 0,.int .u8 0,.int .u8 0,.int .u8 0,.int .u8 0,.int .u8 0,.int .u8 0,.int .u8 0,.int .u8 0,.int .u8 0,.int .u8 0,.int .u8 0,.int .u8 0,.int .u8 0,.int .u8 0,.int .u8 0,.int .u8 0,.int .u8 0,.int .u8 0,.int .u8 0,.int .u8 0,.int .u8 0,.int .u8 0,.int .u8 0,.int .u8 0,.int .u8 0]:=rfl
 rw[hz]at m1
 have hmin:(if (32:Int)<(s.length:Int) then (32:Int) else (s.length:Int))=((min s.length 32:Nat):Int):=by
  split <;> omega
 simp only[M4,sA,sB,seval,m1,hmin]
 have p0:Bj s 0=List.replicate 32 0:=by simp[Bj,iZ]
 rw[<- p0]at r1
 generalize hb:H.next=b at *
 refine bM (fun q (T:bN) H'=>∃i:Nat,i<=min s.length 32/\q=min s.length 32-i/\T 0=.str s/\T 3=aj b 32 0/\T 11=.int .i64 ((min s.length 32:Nat):Int)/\T 12=.int .i64 (i:Int)/\Row H' b (gY (Bj s i))/\H'.next=b+1/\∀c,c<b->H'.get c=H.get c) (min s.length 32)
  ⟨0,Nat.zero_le _,rfl,rfl,by simp only[sA,sB,seval],by simp only[sA,sB,seval],by simp only[sA,sB,seval]; try rfl,r1,om,fun c hc=>k1 c om⟩ ?_
 clear m1 r1 k1 n1 H1
 rintro q T H1 ⟨i,hi,rfl,g0,g3,g11,g12,r1,n1,k1⟩
 by_cases hlt:i<min s.length 32
 ·have hlt':(i:Int)<((min s.length 32:Nat):Int):=om
  obtain⟨c,hc⟩:=aM (l:=s) (i:=i) om
  have hdc:=hd c (Pz hc)
  have hdv:(c.toNat:Int)-48=((dv c:Nat):Int):=by simp[eF]at hdc; unfold dv; omega
  have hd9:dv c<=9:=by simp[eF]at hdc; unfold dv; omega
  have hw:IntKind.u8.wrap ((dv c:Nat):Int)=((dv c:Nat):Int):=dN om om
  have ia:=vq (b:=b) (n:=32) (i:=i) om .i64
  obtain⟨H2,m2,r2,n2,k2⟩:=bA r1 (n:=32) (by rw[gh,Bi s om om]) (i:=i) om (x:=.int .u8 ((dv c:Nat):Int)) rfl
  simp only[sA,sB,seval,g0,g3,g11,g12,hlt',bt hc,hdv,hw,ia,m2,cE i om]
  refine⟨_,om,i+1,om,rfl,by trivial,by trivial,by trivial,rfl,?_,om,fun c hc=>(k2 c om).trans (k1 c hc)⟩
  rw[<- Il s hc om,uo]
  exact r2
 obtain rfl:i=min s.length 32:=om
 simp only[sA,sB,seval,g0,g3,g11,g12,Int.lt_irrefl]
 have hl:=Bi s (i:=min s.length 32) om om
 have hp9:∀d∈Bj s (min s.length 32),d<=9:=by
  intro d hdm
  rcases List.mem_append.1 hdm with h | h
  ·exact pi (s:=s.take (min s.length 32)) (fun c hc=>hd c (List.mem_of_mem_take hc)) d h
  ·have:=(List.mem_replicate.1 h).2; omega
 rw[<- Fu s hd]
 generalize Bj s (min s.length 32)=l at *
 refine bM (fun q (T:bN) H'=>∃k:Nat,k<=32/\q=32-k/\T 3=aj b 32 0/\T 5=.int .i64 ((bits l 0 k).1:Int)/\T 22=.int .i64 (k:Int)/\Row H' b (gY (bits l 0 k).2)/\H'.next=b+1/\∀c,c<b->H'.get c=H.get c) 32
  ⟨0,Nat.zero_le _,rfl,by simp only[sA,sB,seval,g3],by simp only[sA,sB,seval]; try rfl,by simp only[sA,sB,seval]; try rfl,r1,n1,k1⟩ ?_
 clear g0 g3 g11 g12 r1 n1 k1 T H1
 rintro q T H1 ⟨k,hk,rfl,g3,g5,g22,r1,n1,k1⟩
 by_cases hlt:k<32
 ·have hlt':(k:Int)<32:=om
  have hb9:=xR hp9 0 k
  have hbl:=mU l 0 k
  rw[hl]at hbl
  have hbv:(bits l 0 k).1<2 ^ 32:=by
   have h1:=qN l 0 k
   have h2:=lW hp9
   rw[Nat.zero_mul,Nat.zero_add,hl]at h1
   rw[hl]at h2
   have h3:2 ^ k<=2 ^ 32:=Nat.pow_le_pow_right om hk
   have h4:(bits l 0 k).1*10 ^ 32<2 ^ 32*10 ^ 32:=by
    calc (bits l 0 k).1*10 ^ 32<=2 ^ k*cW l:=om
     _<=2 ^ 32*cW l:=Nat.mul_le_mul_right _ h3
     _<2 ^ 32*10 ^ 32:=Nat.mul_lt_mul_of_pos_left h2 dD
   exact Nat.lt_of_mul_lt_mul_right h4
  simp only[sA,sB,seval,g3,g5,g22,hlt']
  have hbits:bits l 0 (k+1)=(2*(bits l 0 k).1+(ke (bits l 0 k).2).1,(ke (bits l 0 k).2).2):=rfl
  generalize hm:(bits l 0 k).2=m at *
  generalize hout:(bits l 0 k).1=out at *
  have hov:=qx hb9
  refine bM (fun q (T:bN) H'=>∃j:Nat,j<=32/\j=q/\T 3=aj b 32 0/\T 5=.int .i64 (out:Int)/\T 22=.int .i64 (k:Int)/\T 6=.int .u8 ((ke (m.drop j)).1:Int)/\T 7=.int .i64 ((j:Int)-1)/\Row H' b (gY (oO m j))/\H'.next=b+1/\∀c,c<b->H'.get c=H.get c) 32
   ⟨32,om,rfl,by simp only[sA,sB,seval,g3],by simp only[sA,sB,seval,g5],by simp only[sA,sB,seval,g22],by simp only[sA,sB,seval]; rw[List.drop_eq_nil_of_le om]; rfl,by simp only[sA,sB,seval]; try rfl,by rw[<- hbl,Ge]; exact r1,n1,k1⟩ ?_
  clear g3 g5 g22 r1 n1 k1 T H1
  rintro q T H1 ⟨j,hj,rfl,g3,g5,g22,g6,g7,r1,n1,k1⟩
  cases j with
  | zero=>
   have c0:¬(0:Int)<=((0:Nat):Int)-1:=om
   rw[List.drop_zero]at g6
   rw[Dg]at r1
   have hsh:out*2 ^ 1<2 ^ 63:=om
   have e1:=xU (k':=.u64) (a:=out) (b:=1) om hsh
   have e2:=BX (a:=out*2 ^ 1) (b:=(ke m).1) hsh om
   rw[Fw 1 out om]at e2
   have hw:IntKind.i64.wrap ((ke m).1:Int)=((ke m).1:Int):=aV om om
   simp only[Int.cast_ofNat_Int]at e1
   simp only[sA,sB,seval,g3,g5,g22,g6,g7,c0,e1,e2,hw,cE k om]
   refine⟨_,om,k+1,om,rfl,by trivial,?_,rfl,?_,n1,k1⟩
   ·rw[hbits]; simp only; congr 2; omega
   ·rw[hbits]; exact r1
  | succ j=>
   have c0:(0:Int)<=((j+1:Nat):Int)-1:=om
   have ej:((j+1:Nat):Int)-1=(j:Int):=om
   rw[ej]at g7 c0
   obtain⟨d,hdd⟩:=aM (l:=m) (i:=j) om
   have hd9:=hb9 d (Pz hdd)
   have ho:=qx (l:=m.drop (j+1)) fun x hx=>hb9 x (List.mem_of_mem_drop hx)
   have hset:=Gc hdd
   have hdr:ke (m.drop j)=((d*2+(ke (m.drop (j+1))).1) / 10,(d*2+(ke (m.drop (j+1))).1) % 10::(ke (m.drop (j+1))).2):=by rw[BK hdd]; rfl
   generalize (ke (m.drop (j+1))).1=o at *
   have ia:=vq (b:=b) (n:=32) (i:=j) om .i64
   have l1:=iN r1 (n:=32) (by rw[gh,wV,hbl]) (HS (Gd hdd))
   have w1:IntKind.u8.wrap ((d:Int)*2)=((d*2:Nat):Int):=by rw[dN om om]; omega
   have w2:IntKind.u8.wrap (((d*2:Nat):Int)+(o:Int))=((d*2+o:Nat):Int):=by rw[dN om om]; omega
   have e3:cq .rem (.int .u8 ((d*2+o:Nat):Int)) (.int .u8 10)=some (.int .u8 (((d*2+o) % 10:Nat):Int)):=by
    rw[vo _ _ _ om]; rfl
   have e4:cq .quo (.int .u8 ((d*2+o:Nat):Int)) (.int .u8 10)=some (.int .u8 (((d*2+o) / 10:Nat):Int)):=by
    rw[vp _ _ _ om]
    have:((d*2+o:Nat):Int).tdiv 10=(((d*2+o) / 10:Nat):Int):=rfl
    rw[this,dN om om]
   obtain⟨H2,m2,r2,n2,k2⟩:=bA r1 (n:=32) (by rw[gh,wV,hbl]) (i:=j) om (x:=.int .u8 (((d*2+o) % 10:Nat):Int)) rfl
   have hwj:IntKind.i64.wrap ((j:Int)-1)=(j:Int)-1:=aV om om
   simp only[sA,sB,seval,g3,g5,g22,g6,g7,c0,ia,l1,w1,w2,e3,e4,m2,hwj]
   refine⟨_,Nat.lt_succ_self j,j,om,rfl,by trivial,by trivial,by trivial,by rw[hdr],by trivial,?_,om,fun c hc=>(k2 c om).trans (k1 c hc)⟩
   rw[<- hset,uo]
   exact r2
 obtain rfl:k=32:=om
 have hlast:=Dy hp9 0
 rw[Nat.mul_zero,Nat.zero_add]at hlast
 rw[hlast]at g5
 simp only[sA,sB,seval,g3,g5,g22,Int.cast_ofNat_Int,Int.lt_irrefl]
 exact⟨by trivial,⟨om,fun c hc=>k1 c om⟩⟩
open Go.Abs Go.Abs.S
def rG(c:UInt8):Bool:=!decide (c.toNat=46)
def bW(s:Bs):Bs:=s.takeWhile rG
def behind(s:Bs):Bs:=(s.dropWhile rG).drop 1
def ii(s:Bs):Bool:=!(s.all rG)
theorem vI(s:Bs):(bW s).length<=s.length:=(List.takeWhile_sublist (p:=rG) (l:=s)).length_le
theorem pA(s:Bs):bW s=s.take (bW s).length:=by
 exact (List.prefix_iff_eq_take.1 (List.takeWhile_prefix rG (l:=s)))
theorem Ac(s:Bs):s.drop (bW s).length=s.dropWhile rG:=by
 have h:bW s++s.dropWhile rG=s:=List.takeWhile_append_dropWhile (p:=rG) (l:=s)
 generalize hw:bW s=w at *
 conv=>lhs; rw[<- h]
 rw[List.drop_left]
theorem kQ(s:Bs):behind s=s.drop ((bW s).length+1):=by
 rw[behind,<- Ac,List.drop_drop]
theorem Gb{s:Bs}(h:ii s=true):(bW s).length<s.length:=by
 rcases Nat.lt_or_ge (bW s).length s.length with hl | hl
 ·exact hl
 ·have e:bW s=s:=by rw[pA s,List.take_of_length_le hl]
  have:s.all rG=true:=by rw[<- e]; exact List.all_takeWhile
  simp[ii,this]at h
theorem KZ(s:Bs)(n:Nat):wT 46 s n=if ii s then ((n+(bW s).length:Nat):Int) else -1:=by
 induction s generalizing n with
 | nil=>rfl
 | cons c r ih=>
  rw[wT]
  by_cases h:c.toNat=46
  ·have hc:c=46:=UInt8.toNat_inj.1 h
   subst hc
   simp[ii,rG,bW]
  ·have hc:¬c=46:=fun e=>h (by rw[e]; rfl)
   have hn:rG c=true:=by simp[rG,h]
   have e1:ii (c::r)=ii r:=by simp[ii,hn]
   have e2:(bW (c::r)).length=(bW r).length+1:=by rw[bW,List.takeWhile_cons_of_pos hn]; rfl
   have e3:Nat.beq c.toNat (UInt8.toNat 46)=false:=by
    cases hb:Nat.beq c.toNat (UInt8.toNat 46) with
    | false=>rfl
    | true=>exact absurd (Py hb) h
   rw[e1,e2,e3,cond_false,ih,show n+1+(bW r).length=n+((bW r).length+1) by omega]
theorem JO{s:Bs}(h:ii s=false):bW s=s/\behind s=[]:=by
 have ha:s.all rG=true:=by simpa[ii] using h
 have hall:=List.all_eq_true.1 ha
 have e:bW s=s:=by
  rw[bW]
  have:=List.takeWhile_append_of_pos (p:=rG) (l₁:=s) (l₂:=[]) hall
  simpa using this
 exact⟨e,by rw[kQ,e]; simp⟩
theorem F9(h76:aG.is 107=false){H:ae}{s:Bs}:aq Tryz.prog aG 107 [.str s,.int .u8 46] H fun v H'=>v=.int .i64 (wT 46 s 0)/\H=H':=by
 refine ai h76 Jt rfl ?_
 have e:iu .ibs [.str s,.int .u8 46]=some (.int .i64 (wT 46 s 0)):=rfl
 simp only[LI,sA,sB,seval,e]
 exact⟨by trivial,by trivial⟩
theorem zJ(h74:aG.is 99=false)(h76:aG.is 107=false){H:ae}{s:Bs}:aq Tryz.prog aG 99 [.str s,.str [46]] H fun v H'=>v=.int .i64 (wT 46 s 0)/\H=H':=by
 refine ai h74 Mm rfl ?_
 have i0:jg (.str [46]) (.int .i64 0)=some (.int .u8 46):=rfl
 have hl1:((List.length [(46:UInt8)]:Nat):Int)=1:=rfl
 by_cases hs:[46]=s
 ·subst hs
  have e:wT 46 [46] 0=0:=rfl
  rw[e]
  simp only[M1,sA,sB,seval,hl1]
  exact⟨by trivial,by trivial⟩
 ·simp only[M1,sA,sB,seval,hl1,hs,i0]
  refine (F9 h76).mono ?_
  rintro v _ ⟨rfl,rfl⟩
  simp only[sA,sB,seval]
  exact⟨by trivial,by trivial⟩
theorem GA(h34:aG.is 62=false)(h57:aG.is 85=false)(h74:aG.is 99=false)(h76:aG.is 107=false){H:ae}{s:Bs}(hs:s.length<=4611686018427387904) :
  aq Tryz.prog aG 62 [.str s,.str [46]] H fun v H'=>v=.tuple [.str (bW s),.str (behind s),.bool (ii s)]/\H=H':=by
 refine ai h34 Mo rfl ?_
 simp only[O7,sA,sB,seval]
 have key:aq Tryz.prog aG 85 [.str s,.str [46]] H fun v H'=>v=.tuple [.str (bW s),.str (behind s),.bool (ii s)]/\H=H':=by
  refine ai h57 Mn rfl ?_
  simp only[O4,sA,sB,seval]
  refine (zJ h74 h76).mono ?_
  rintro v _ ⟨rfl,rfl⟩
  have hl1:((List.length [(46:UInt8)]:Nat):Int)=1:=rfl
  rw[KZ]
  cases hp:ii s with
  | true=>
   have hlt:=Gb hp
   have hge:(0:Int)<=((0+(bW s).length:Nat):Int):=om
   rw[Nat.zero_add]at *
   have e1:=oX (s:=s) (h:=(bW s).length) (vI s)
   have e2:=oW (s:=s) (l:=(bW s).length+1) om
   rw[<- pA]at e1
   rw[<- kQ]at e2
   simp only[sA,sB,seval,hge,hl1,cE (bW s).length om,e1,e2]
   exact⟨by trivial,by trivial⟩
  | false=>
   obtain⟨e1,e2⟩:=JO hp
   simp only[sA,sB,seval,e1,e2]
   exact⟨by trivial,by trivial⟩
 refine key.mono ?_
 rintro v _ ⟨rfl,rfl⟩
 simp only[dE,PA,PC,sA,sB,seval]
 exact⟨by trivial,by trivial⟩
open Go.Abs Go.Abs.S
def j3(s:Bs):Bool:=(match s with | []=>false | c::_=>eF c)&&decide (mA s 0=s.length)
def eo(s:Bs):Option Nat:=if j3 s=true/\dg (bW s)<2147483648 then some (dg (bW s)*2 ^ 32+iW (iZ (behind s))) else none
def CA:Option Nat->af
 | some n=>.tuple [.int .i64 (n:Int),.bool true]
 | none=>.tuple [.int .i64 0,.bool false]
theorem kJ{c:UInt8}(h:eF c=true):rG c=true:=by
 simp[eF]at h; simp[rG]; omega
theorem Cu(s:Bs):(bW s).length=cH rG s 0:=by simp[cH,bW]
theorem wG{s:Bs}(h:j3 s=true):(∀c∈bW s,eF c=true)/\∀c∈behind s,eF c=true:=by
 simp only[j3,Pu,PE]at h
 obtain⟨h0,h1⟩:=h
 have hin:∀{a j:Nat} {c:UInt8},a<=j->j<cH eF s a->s[j]?=some c->eF c=true:=by
  intro a j c ha hj hc
  obtain⟨d,hd,hp⟩:=AX ha hj
  rw[hc]at hd; cases hd; exact hp
 have hle:=oZ (p:=eF) (s:=s) (i:=0) (Nat.zero_le _)
 by_cases hd:s[cH eF s 0]?=some 46
 ·have hlt:=(Ps.1 hd).1
  have hp0:cH eF s 0≠0:=by
   intro e
   cases s with
   | nil=>simp at hlt
   | cons c r=>
    simp only at h0
    rw[AY (c:=c) rfl h0]at e
    have:=AZ eF (c::r) (0+1)
    omega
  have hw:(bW s).length=cH eF s 0:=by
   rw[Cu]
   rcases Nat.lt_trichotomy (cH rG s 0) (cH eF s 0) with hl | hl | hl
   ·obtain⟨c,hc⟩:=aM (l:=s) (i:=cH rG s 0) om
    have:=Fe hc
    rw[kJ (hin (Nat.zero_le _) hl hc)]at this
    cases this
   ·exact hl
   ·obtain⟨c,hc,hp⟩:=AX (Nat.zero_le _) hl
    rw[hd]at hc; cases hc
    simp[rG]at hp
  unfold mA at h1
  rw[if_neg (by rintro (e | e); exact hp0 e; exact e hd)]at h1
  split at h1
  ·constructor
   ·intro c hc
    rw[pA,hw]at hc
    obtain⟨j,hj⟩:=List.mem_iff_getElem?.1 hc
    have hjl:=(Ps.1 hj).1
    simp only[PO]at hjl
    rw[List.getElem?_take_of_lt om]at hj
    exact hin (Nat.zero_le _) om hj
   ·intro c hc
    rw[kQ,hw]at hc
    obtain⟨j,hj⟩:=List.mem_iff_getElem?.1 hc
    rw[List.getElem?_drop]at hj
    have hjl:=(Ps.1 hj).1
    exact hin (a:=cH eF s 0+1) om om hj
  ·omega
 ·unfold mA at h1
  rw[if_pos (.inr hd)]at h1
  have hall:∀c∈s,eF c=true:=by
   intro c hc
   obtain⟨j,hj⟩:=List.mem_iff_getElem?.1 hc
   have hjl:=(Ps.1 hj).1
   exact hin (Nat.zero_le _) om hj
  have hp:ii s=false:=by
   simp only[ii,Bool.not_eq_false']
   exact List.all_eq_true.2 fun c hc=>kJ (hall c hc)
  obtain⟨e1,e2⟩:=JO hp
  rw[e1,e2]
  exact⟨hall,by simp⟩
theorem vJ(l:Bs)(i:Nat):dg (l.take i)<=dg l:=by
 have h:=Dl (l.drop i) (dg (l.take i))
 have e:dg l=List.foldl (fun n c=>n*10+dv c) (dg (l.take i)) (l.drop i):=by
  unfold dg
  rw[<- List.foldl_append,List.take_append_drop]
 rw[e,h]
 have:dg (l.take i)*1<=dg (l.take i)*10 ^ (l.drop i).length:=Nat.mul_le_mul_left _ (Nat.pos_of_ne_zero (by simp))
 omega
theorem oB(h12:aG.is 94=false)(h22:aG.is 103=false)(h23:aG.is 104=false)(h25:aG.is 111=false)(h34:aG.is 62=false)(h35:aG.is 105=false)(h57:aG.is 85=false)(h74:aG.is 99=false)(h76:aG.is 107=false)
  {H:ae} {s:Bs} (hs:s.length<=4611686018427387904):aq Tryz.prog aG 94 [.str s] H fun v H'=>v=CA (eo s)/\bg H.next H H':=by
 refine ai h12 NK rfl ?_
 cases s with
 | nil=>
  have e:eo []=none:=rfl
  rw[e]
  simp only[O2,sA,sB,seval]
  exact⟨by trivial,bg.refl _ _⟩
 | cons c r=>
  have i0:jg (.str (c::r)) (.int .i64 0)=some (by8 c):=bt (s:=c::r) (i:=0) rfl .i64
  have hne:¬c::r=[]:=by simp
  simp only[O2,sA,sB,seval,hne,i0]
  refine (lH h22 c H).mono ?_
  rintro v _ ⟨rfl,rfl⟩
  cases hd:eF c with
  | false=>
   have e:eo (c::r)=none:=by simp[eo,j3,hd]
   rw[e]
   simp only[sA,sB,seval]
   exact⟨by trivial,bg.refl _ _⟩
  | true=>
  simp only[sA,sB,seval]
  refine (uE h23 h25 h22 (Nat.zero_le _) hs).mono ?_
  rintro v _ ⟨rfl,rfl⟩
  have hle:=Ir (s:=c::r) (Nat.zero_le _)
  by_cases hn:mA (c::r) 0=(c::r).length
  ·have hnum:j3 (c::r)=true:=by simp only[j3,hd,hn,decide_true,Bool.and_self]
   have hn':((mA (c::r) 0:Nat):Int)=((c::r).length:Int):=by rw[hn]
   generalize c::r=s at *
   obtain⟨hw,hb⟩:=wG hnum
   simp only[sA,sB,seval,hn']
   refine (GA h34 h57 h74 h76 hs).mono ?_
   rintro v _ ⟨rfl,rfl⟩
   simp only[dE,PA,PC,sA,sB,seval]
   have hwl:=vI s
   have hbl:(behind s).length<=s.length:=by rw[kQ]; simp
   have hsay:eo s=if dg (bW s)<2147483648 then some (dg (bW s)*2 ^ 32+iW (iZ (behind s))) else none:=by simp[eo,hnum]
   rw[hsay]
   generalize bW s=w at *
   generalize behind s=t at *
   refine bM (fun q (T:bN) H'=>∃i:Nat,i<=w.length/\q=w.length-i/\T 4=.str w/\T 5=.str t/\T 7=.int .i64 (dg (w.take i):Int)/\dg (w.take i)<2147483648/\T 31=.int .i64 (w.length:Int)/\T 32=.int .i64 (i:Int)/\H=H') w.length
    ⟨0,Nat.zero_le _,rfl,rfl,rfl,rfl,by simp[dg],rfl,rfl,rfl⟩ ?_
   rintro q T _ ⟨i,hi,rfl,g4,g5,g7,hv,g31,g32,rfl⟩
   by_cases hlt:i<w.length
   ·have hlt':(i:Int)<(w.length:Int):=om
    obtain⟨c,hc⟩:=aM hlt
    have hdc:=hw c (Pz hc)
    have hdv:(c.toNat:Int)-48=((dv c:Nat):Int):=by simp[eF]at hdc; unfold dv; omega
    have hd9:dv c<=9:=by simp[eF]at hdc; unfold dv; omega
    have hw1:IntKind.u8.wrap ((dv c:Nat):Int)=((dv c:Nat):Int):=dN om om
    have hw2:IntKind.i64.wrap ((dv c:Nat):Int)=((dv c:Nat):Int):=aV om om
    have hw3:IntKind.i64.wrap ((dg (w.take i):Int)*10)=((dg (w.take i)*10:Nat):Int):=by rw[aV om om]; omega
    have hw4:IntKind.i64.wrap (((dg (w.take i)*10:Nat):Int)+((dv c:Nat):Int))=((dg (w.take (i+1)):Nat):Int):=by
     rw[aV om om,List.take_add_one,hc,Option.toList_some,vK]; omega
    simp only[sA,sB,seval,g4,g5,g7,g31,g32,hlt',bt hc,hdv,hw1,hw2,hw3,hw4]
    by_cases hbig:dg (w.take (i+1))<2147483648
    ·have hbig':¬(2147483648:Int)<=((dg (w.take (i+1)):Nat):Int):=om
     simp only[sA,sB,seval,g4,g5,g7,g31,g32,hbig',cE i om]
     exact⟨_,om,i+1,om,rfl,by trivial,by trivial,rfl,hbig,by trivial,rfl,by trivial⟩
    ·have hbig':(2147483648:Int)<=((dg (w.take (i+1)):Nat):Int):=om
     have:=vJ w (i+1)
     simp only[sA,sB,seval,g4,g5,g7,g31,g32,hbig']
     exact⟨by rw[if_neg om]; rfl,bg.refl _ _⟩
   ·obtain rfl:i=w.length:=om
    rw[List.take_length]at g7 hv
    have e1:=xU (k':=.u64) (a:=dg w) (b:=32) om om
    simp only[Int.cast_ofNat_Int]at e1
    simp only[sA,sB,seval,g4,g5,g7,g31,g32,Int.lt_irrefl,e1]
    refine (CL h35 hb om).mono ?_
    rintro v H' ⟨rfl,hx⟩
    have hf:=BB (pi hb)
    have e2:=BX (a:=dg w*2 ^ 32) (b:=iW (iZ t)) om om
    rw[Fw 32 _ hf]at e2
    simp only[sA,sB,seval,e2]
    exact⟨by rw[if_pos hv]; rfl,hx⟩
  ·have hn':¬((mA (c::r) 0:Nat):Int)=((c::r).length:Int):=om
   have e:eo (c::r)=none:=by simp only[eo,j3,hn,decide_false,Bool.and_false,PD,false_and,if_false]
   rw[e]
   simp only[sA,sB,seval,hn']
   exact⟨by trivial,bg.refl _ _⟩
open Go.Abs Go.Abs.S
end Go.Proofs.Wo
namespace Go.Proofs.Wo
open Go.Abs Go.Abs.S
open Go.Abs Go.Abs.S
def yN(n:Nat):List Nat:=if h:n<10 then [n] else n % 10::yN (n / 10)
termination_by n
decreasing_by omega
def bR(n:Nat):List Nat:=(yN n).reverse
theorem Ic{n:Nat}(h:n<10):yN n=[n]:=by rw[yN,dif_pos h]
theorem Id{n:Nat}(h:¬n<10):yN n=n % 10::yN (n / 10):=by rw[yN,dif_neg h]
theorem gj{n:Nat}(h:n<10):bR n=[n]:=by rw[bR,Ic h]; rfl
theorem kL{n:Nat}(h:¬n<10):bR n=bR (n / 10)++[n % 10]:=by rw[bR,Id h]; simp[bR]
theorem gI(n:Nat):∀d∈bR n,d<=9:=by
 induction n using Nat.strongRecOn with
 | _ n ih=>
  by_cases h:n<10
  ·rw[gj h]; simp; omega
  ·rw[kL h]
   intro d hd
   rcases List.mem_append.1 hd with h1 | h1
   ·exact ih (n / 10) om d h1
   ·simp at h1; omega
theorem mQ(n:Nat):cW (bR n)=n:=by
 induction n using Nat.strongRecOn with
 | _ n ih=>
  by_cases h:n<10
  ·rw[gj h]; simp[cW]
  ·rw[kL h,jI,ih (n / 10) om]
   simp[cW]; omega
def dB:Nat->Nat->List Nat
 | 0,_=>[]
 | k+1,r=>if r=0 then [] else r*10 / 4294967296::dB k (r*10 % 4294967296)
def bV(l:List Nat):Bs:=l.map fun d=>UInt8.ofNat (48+d)
theorem il(l:List Nat):(bV l).length=l.length:=by simp[bV]
def fo(r:Nat):Bs:=if r=0 then [] else 46::bV (dB 32 r)
def al(n:Int):Bs:=(if n<0 then [45] else [])++(bV (bR (n.natAbs / 4294967296))++fo (n.natAbs % 4294967296))
theorem Dk(k r:Nat):(dB k r).length<=k:=by
 induction k generalizing r with
 | zero=>simp[dB]
 | succ k ih=>
  rw[dB]
  split
  ·simp
  ·have:=ih (r*10 % 4294967296); simp; omega
theorem qv(k:Nat):∀n,n<10 ^ (k+1)->(bR n).length<=k+1:=by
 induction k with
 | zero=>intro n h; rw[gj (by simpa using h)]; simp
 | succ k ih=>
  intro n h
  by_cases hn:n<10
  ·rw[gj hn]; simp
  ·rw[kL hn]
   have:=ih (n / 10) (by rw[Nat.pow_succ]at h; omega)
   simp; omega
open Go.Abs Go.Abs.S
theorem HM{a:Int}(h1:0<=a)(h2:a<18446744073709551616):IntKind.u64.wrap a=a:=by
 rw[IntKind.wrap_u64]; omega
theorem Ex(k:IntKind)(n:Int):DV .neg (.int k n)=some (.int k (k.wrap (0-n))):=by
 simp only[DV,lc]
theorem tk{k r:Nat}(hk:k<=32)(hr:r<4294967296)(hd:2 ^ (32-k) ∣ r)(h0:r≠0):∃k',k=k'+1/\dB k r=r*10 / 4294967296::dB k' (r*10 % 4294967296)/\2 ^ (32-k') ∣ r*10 % 4294967296:=by
 cases k with
 | zero=>
  exfalso
  obtain⟨c,hc⟩:=hd
  simp only[Nat.sub_zero]at hc
  have:c≠0:=by rintro rfl; simp at hc; exact h0 hc
  have:2 ^ 32*1<=2 ^ 32*c:=Nat.mul_le_mul_left _ om
  omega
 | succ k=>
  refine⟨k,rfl,by rw[dB,if_neg h0],?_⟩
  have e:32-k=(32-(k+1))+1:=om
  have h1:2 ^ (32-k) ∣ r*10:=by
   obtain⟨c,hc⟩:=hd
   refine⟨c*5,?_⟩
   rw[e,Nat.pow_succ]
   generalize 2 ^ (32-(k+1))=p at *
   subst hc
   rw[Nat.mul_assoc p 2,Nat.mul_assoc p c 10]
   congr 1
   omega
  have h2:2 ^ (32-k) ∣ 4294967296:=by
   have:=Nat.pow_dvd_pow 2 (show 32-k<=32 by omega)
   exact this
  exact (Nat.dvd_mod_iff h2).2 h1
def tl:bh->bh
 | .seq _ b=>b
 | c=>c
theorem nV(n:Nat):bV (bR n)≠[]:=by
 by_cases h:n<10
 ·rw[gj h]; simp[bV]
 ·rw[kL h]; simp[bV]
open Go.Abs Go.Abs.S
def pre(s t:Bs):Bool:=decide (s.take t.length=t)
theorem sO(h75:aG.is 35=false)(s t:Bs){H:ae}:aq Tryz.prog aG 35 [.str s,.str t] H fun v H'=>v=.bool (pre s t)/\H=H':=by
 refine ai h75 Oy rfl ?_
 by_cases h:t.length<=s.length
 ·have h':(t.length:Int)<=(s.length:Int):=om
  simp only[Ph,sA,sB,seval,h',oX h]
  exact⟨by trivial,by trivial⟩
 ·have h':¬(t.length:Int)<=(s.length:Int):=om
  have e:pre s t=false:=by
   unfold pre
   rw[decide_eq_false]
   intro he
   have:=congrArg List.length he
   simp at this; omega
  simp only[Ph,sA,sB,seval,h',e]
  exact⟨by trivial,by trivial⟩
theorem Fq(h51:aG.is 12=false)(h75:aG.is 35=false)(s t:Bs){H:ae}:aq Tryz.prog aG 12 [.str s,.str t] H fun v H'=>v=.bool (pre s t)/\H=H':=by
 refine ai h51 OQ rfl ?_
 simp only[LG,sA,sB,seval]
 have key:=sO h75 s t (H:=H)
 refine key.mono ?_
 rintro v _ ⟨rfl,rfl⟩
 simp only[sA,sB,seval]
 exact⟨by trivial,by trivial⟩
theorem Dv(s:Bs)(n:Nat):HD 10 s n=n+s.count 10:=by
 induction s generalizing n with
 | nil=>simp[HD]
 | cons c r ih=>
  rw[HD]
  by_cases h:c=10
  ·subst h
   have e:Nat.beq (UInt8.toNat 10) 10=true:=rfl
   rw[e,cond_true,ih]; simp; omega
  ·have e:Nat.beq c.toNat 10=false:=by
    cases hb:Nat.beq c.toNat 10 with
    | false=>rfl
    | true=>exact absurd (UInt8.toNat_inj.1 (Py hb)) h
   rw[e,cond_false,ih,List.count_cons_of_ne (by exact h)]
theorem Af(hN:aG.is 83=false)(s:Bs){H:ae}:aq Tryz.prog aG 83 [.str s,.str [10]] H fun v H'=>v=.int .i64 (s.count 10:Int)/\H=H':=by
 refine ai hN NQ rfl ?_
 have hl1:((List.length [(10:UInt8)]:Nat):Int)=1:=rfl
 have i0:jg (.str [10]) (.int .i64 0)=some (.int .u8 10):=rfl
 have e:iu .cbs [.str s,.int .u8 10]=some (.int .i64 (s.count 10:Int)):=by
  have:iu .cbs [.str s,.int .u8 10]=some (.int .i64 (HD 10 s 0:Int)):=rfl
  rw[this,Dv,Nat.zero_add]
 simp only[c83,sA,sB,seval,hl1,i0,e]
 exact⟨by trivial,by trivial⟩
open Go.Abs Go.Abs.S
end Go.Proofs.Wo
namespace Go.Proofs.Wo
open Go.Abs Go.Abs.S
open Go.Abs Go.Abs.S
def pd:Nat->Nat->List Nat
 | 0,_=>[]
 | k+1,u=>pd k (u / 10)++[u % 10]
theorem Ft(k u:Nat):(pd k u).length=k:=by
 induction k generalizing u with
 | zero=>rfl
 | succ k ih=>simp[pd,ih]
theorem nD(k:Nat):∀u,10 ^ k<=u->u<10 ^ (k+1)->pd (k+1) u=bR u:=by
 induction k with
 | zero=>
  intro u h1 h2
  rw[gj (by simpa using h2)]
  have:u % 10=u:=Nat.mod_eq_of_lt (by simpa using h2)
  simp[pd,this]
 | succ k ih=>
  intro u h1 h2
  have h10:¬u<10:=by
   have:10 ^ 1<=10 ^ (k+1):=Nat.pow_le_pow_right om om
   omega
  rw[kL h10,pd,ih (u / 10) (by rw[Nat.pow_succ]at h1; omega) (by rw[Nat.pow_succ]at h2; omega)]
def iA:Bs:=(List.range 100).flatMap fun d=>[UInt8.ofNat (48+d / 10),UInt8.ofNat (48+d % 10)]
theorem EV{d:Nat}(h:d<100):iA[d*2]?=some (UInt8.ofNat (48+d / 10)):=by
 have:∀d,d<100->iA[d*2]?=some (UInt8.ofNat (48+d / 10)):=by decide
 exact this d h
theorem EU{d:Nat}(h:d<100):iA[d*2+1]?=some (UInt8.ofNat (48+d % 10)):=by
 have:∀d,d<100->iA[d*2+1]?=some (UInt8.ofNat (48+d % 10)):=by decide
 exact this d h
open Go.Abs Go.Abs.S
theorem lg:iA=[48,48,48,49,48,50,48,51,48,52,48,53,48,54,48,55,48,56,48,57,49,48,49,49,49,50,49,51,49,52,49,53,49,54,49,55,49,56,49,57,50,48,50,49,50,50,50,51,50,52,50,53,50,54,50,55,50,56,50,57,51,48,51,49,51,50,51,51,51,52,51,53,51,54,51,55,51,56,51,57,52,48,52,49,52,50,52,51,52,52,52,53,52,54,52,55,52,56,52,57,53,48,53,49,53,50,53,51,53,52,53,53,53,54,53,55,53,56,53,57,54,48,54,49,54,50,54,51,54,52,54,53,54,54,54,55,54,56,54,57,55,48,55,49,55,50,55,51,55,52,55,53,55,54,55,55,55,56,55,57,56,48,56,49,56,50,56,51,56,52,56,53,56,54,56,55,56,56,56,57,57,48,57,49,57,50,57,51,57,52,57,53,57,54,57,55,57,56,57,57]:=by kernel_rfl
theorem fQ{d:Nat}(h:d<100)(k:IntKind):jg (.str iA) (.int k ((d*2:Nat):Int))=some (.int .u8 ((48+d / 10:Nat):Int)):=by
 rw[bt (EV h)]
 have:(UInt8.ofNat (48+d / 10)).toNat=48+d / 10:=by rw[UInt8.toNat_ofNat']; omega
 rw[this]
theorem eI{d:Nat}(h:d<100)(k:IntKind):jg (.str iA) (.int k ((d*2+1:Nat):Int))=some (.int .u8 ((48+d % 10:Nat):Int)):=by
 rw[bt (EU h)]
 have:(UInt8.ofNat (48+d % 10)).toNat=48+d % 10:=by rw[UInt8.toNat_ofNat']; omega
 rw[this]
theorem ET{d:Nat}(h:d<100):fh (.str iA) (some (.int .i64 ((d*2:Nat):Int))) (some (.int .i64 ((d*2+2:Nat):Int)))=some (.str [UInt8.ofNat (48+d / 10),UInt8.ofNat (48+d % 10)]):=by
 have hl:iA.length=200:=by kernel_rfl
 rw[yC om om]
 have:∀d,d<100->(iA.drop (d*2)).take 2=[UInt8.ofNat (48+d / 10),UInt8.ofNat (48+d % 10)]:=of_decide_eq_true (by kernel_rfl)
 rw[show d*2+2-d*2=2 by omega,this d h]
def HV:Bs:=[48,49,50,51,52,53,54,55,56,57,97,98,99,100,101,102,103,104,105,106,107,108,109,110,111,112,113,114,115,116,117,118,119,120,121,122]
theorem HU{d:Nat}(h:d<10):fh (.str HV) (some (.int .i64 (d:Int))) (some (.int .i64 ((d+1:Nat):Int)))=some (.str [UInt8.ofNat (48+d)]):=by
 have hl:HV.length=36:=by decide
 rw[yC om om]
 have:∀d,d<10->(HV.drop d).take 1=[UInt8.ofNat (48+d)]:=by decide
 rw[show d+1-d=1 by omega,this d h]
theorem FR:HV=[48,49,50,51,52,53,54,55,56,57,97,98,99,100,101,102,103,104,105,106,107,108,109,110,111,112,113,114,115,116,117,118,119,120,121,122]:=rfl
set_option maxRecDepth 100000 in
theorem li(h77:aG.is 72=false){d:Nat}(hd:d<100){H:ae} :
  aq Tryz.prog aG 72 [.int .i64 (d:Int)] H fun v H'=>v=.str (bV (bR d))/\H'=H:=by
 refine ai h77 NZ rfl ?_
 simp only[c72,<- lg,<- FR]
 by_cases h:d<10
 ·have h':(d:Int)<10:=om
  simp only[sA,sB,Int.reduceNegSucc,reduceCtorEq,Nat.reduceEqDiff,↓reduceIte,Nat.reduceAdd,Int.reduceEq,Int.reduceLT,Int.reduceLE,Nat.reduceLT,h',cE d om,HU h]
  exact⟨by rw[gj h]; rfl,by trivial⟩
 ·have h':¬(d:Int)<10:=om
  have w1:IntKind.i64.wrap ((d:Int)*2)=((d*2:Nat):Int):=by rw[aV om om]; omega
  have w2:IntKind.i64.wrap (((d*2:Nat):Int)+2)=((d*2+2:Nat):Int):=by rw[aV om om]; omega
  simp only[sA,sB,Int.reduceNegSucc,reduceCtorEq,Nat.reduceEqDiff,↓reduceIte,Nat.reduceAdd,Int.reduceEq,Int.reduceLT,Int.reduceLE,Nat.reduceLT,h',w1,w2,ET hd]
  refine⟨?_,by trivial⟩
  rw[kL h,gj om]; simp[bV]
theorem Ar(h95:aG.is 90=false)(b:Bool){H:ae} :
  aq Tryz.prog aG 90 [.bool b] H fun v H'=>v=.int .i64 ((if b=true then 1 else 0:Nat):Int)/\H'=H:=by
 refine ai h95 NM rfl ?_
 cases b with
 | true=>simp only[O3,sA,sB,Int.reduceNegSucc,reduceCtorEq,Nat.reduceEqDiff,↓reduceIte,Nat.reduceAdd,Int.reduceEq,Int.reduceLT,Int.reduceLE,Nat.reduceLT]; exact⟨by trivial,by trivial⟩
 | false=>simp only[O3,sA,sB,Int.reduceNegSucc,reduceCtorEq,Nat.reduceEqDiff,↓reduceIte,Nat.reduceAdd,Int.reduceEq,Int.reduceLT,Int.reduceLE,Nat.reduceLT]; exact⟨by trivial,by trivial⟩
theorem zC(h93:aG.is 88=false){x:Nat}(hx:x<=64){H:ae} :
  aq Tryz.prog aG 88 [.int .i64 (x:Int)] H fun v H'=>v=.int .i64 ((x*78913 / 262144:Nat):Int)/\H'=H:=by
 refine ai h93 NO rfl ?_
 have w1:IntKind.i64.wrap ((x:Int)*78913)=((x*78913:Nat):Int):=by rw[aV om om]; omega
 have e1:=rB .i64 .u64 (x*78913) (b:=18) dD
 simp only[Int.cast_ofNat_Int]at e1
 simp only[c88,sA,sB,Int.reduceNegSucc,reduceCtorEq,Nat.reduceEqDiff,↓reduceIte,Nat.reduceAdd,Int.reduceEq,Int.reduceLT,Int.reduceLE,Nat.reduceLT,w1,e1]
 exact⟨by trivial,by trivial⟩
def IA:Bs:=[0,1,2,2,3,3,3,3,4,4,4,4,4,4,4,4,5,5,5,5,5,5,5,5,5,5,5,5,5,5,5,5,6,6,6,6,6,6,6,6,6,6,6,6,6,6,6,6,6,6,6,6,6,6,6,6,6,6,6,6,6,6,6,6,7,7,7,7,7,7,7,7,7,7,7,7,7,7,7,7,7,7,7,7,7,7,7,7,7,7,7,7,7,7,7,7,7,7,7,7,7,7,7,7,7,7,7,7,7,7,7,7,7,7,7,7,7,7,7,7,7,7,7,7,7,7,7,7,8,8,8,8,8,8,8,8,8,8,8,8,8,8,8,8,8,8,8,8,8,8,8,8,8,8,8,8,8,8,8,8,8,8,8,8,8,8,8,8,8,8,8,8,8,8,8,8,8,8,8,8,8,8,8,8,8,8,8,8,8,8,8,8,8,8,8,8,8,8,8,8,8,8,8,8,8,8,8,8,8,8,8,8,8,8,8,8,8,8,8,8,8,8,8,8,8,8,8,8,8,8,8,8,8,8,8,8,8,8,8,8,8,8,8,8,8,8,8,8,8,8,8,8,8,8,8,8]
theorem FT:IA=[0,1,2,2,3,3,3,3,4,4,4,4,4,4,4,4,5,5,5,5,5,5,5,5,5,5,5,5,5,5,5,5,6,6,6,6,6,6,6,6,6,6,6,6,6,6,6,6,6,6,6,6,6,6,6,6,6,6,6,6,6,6,6,6,7,7,7,7,7,7,7,7,7,7,7,7,7,7,7,7,7,7,7,7,7,7,7,7,7,7,7,7,7,7,7,7,7,7,7,7,7,7,7,7,7,7,7,7,7,7,7,7,7,7,7,7,7,7,7,7,7,7,7,7,7,7,7,7,8,8,8,8,8,8,8,8,8,8,8,8,8,8,8,8,8,8,8,8,8,8,8,8,8,8,8,8,8,8,8,8,8,8,8,8,8,8,8,8,8,8,8,8,8,8,8,8,8,8,8,8,8,8,8,8,8,8,8,8,8,8,8,8,8,8,8,8,8,8,8,8,8,8,8,8,8,8,8,8,8,8,8,8,8,8,8,8,8,8,8,8,8,8,8,8,8,8,8,8,8,8,8,8,8,8,8,8,8,8,8,8,8,8,8,8,8,8,8,8,8,8,8,8,8,8,8,8]:=rfl
theorem ie{v:Nat}(h:v<256):∃l:UInt8,IA[v]?=some l/\v<2 ^ l.toNat/\(0<v->2 ^ l.toNat<=2*v)/\l.toNat<=8:=by
 have:∀v,v<256->(match IA[v]? with | some l=>decide (v<2 ^ l.toNat)&&(decide (v=0)||decide (2 ^ l.toNat<=2*v))&&decide (l.toNat<=8) | none=>false)=true:=of_decide_eq_true (by kernel_rfl)
 have:=this v h
 cases hl:IA[v]? with
 | none=>rw[hl]at this; simp at this
 | some l=>
  rw[hl]at this
  simp only[Pu,Bool.or_eq_true,PE]at this
  exact⟨l,rfl,this.1.1,fun h0=>by rcases this.1.2 with h | h; omega; exact h,this.2⟩
set_option maxRecDepth 100000 in
theorem zG(h94:aG.is 89=false){u:Nat}(h0:0<u)(hu:u<18446744073709551616){H:ae} :
  aq Tryz.prog aG 89 [.int .u64 (u:Int)] H fun v H'=>(∃L:Nat,v=.int .i64 (L:Int)/\u<2 ^ L/\2 ^ L<=2*u/\L<=64)/\H'=H:=by
 refine ai h94 NN rfl ?_
 simp only[c89,<- FT]
 have key:∀(x:Nat) (s l:Nat),u / 2 ^ s=x->0<x->x<2 ^ l->2 ^ l<=2*x->s<=56->u<2 ^ (s+l)/\2 ^ (s+l)<=2*u:=by
  intro x s l hx hx0 h1 h2 hs
  have hp:0<2 ^ s:=Nat.pos_of_ne_zero (by simp)
  rw[Nat.pow_add]
  generalize 2 ^ s=p at *
  generalize 2 ^ l=q at *
  subst hx
  have h3:=Nat.div_mul_le_self u p
  have h4:=Nat.lt_div_mul_add hp (a:=u)
  constructor
  ·have:(u / p+1)*p<=q*p:=Nat.mul_le_mul_right _ h1
   rw[Nat.add_mul,Nat.one_mul]at this
   rw[Nat.mul_comm p q]
   omega
  ·calc p*q<=p*(2*(u / p)):=Nat.mul_le_mul_left _ h2
    _=2*(u / p*p):=by rw[Nat.mul_comm p,Nat.mul_assoc]
    _<=2*u:=om
 by_cases c0:4294967296<=u
 ·have n32:(4294967296:Int)<=(u:Int):=om
  have e32:=rB .u64 .u64 u (b:=32) dD
  simp only[Int.cast_ofNat_Int,Nat.reducePow]at e32
  have w0:IntKind.i64.wrap (0+32)=32:=by decide
  have hy:u / 4294967296<4294967296:=om
  have hyu:u / 2 ^ 32=u / 4294967296:=rfl
  have key':∀(x s:Nat) (l:Nat),u / 4294967296 / 2 ^ s=x->0<x->x<2 ^ l->2 ^ l<=2*x->s<=24->u<2 ^ (32+s+l)/\2 ^ (32+s+l)<=2*u:=fun x s l h a b c d=>key x (32+s) l (by rw[Nat.pow_add,<- Nat.div_div_eq_div_mul]; exact h) a b c om
  have hy0:0<u / 4294967296:=om
  generalize u / 4294967296=y at *
  have e16:=rB .u64 .u64 y (b:=16) dD
  simp only[Int.cast_ofNat_Int,Nat.reducePow]at e16
  by_cases c1:65536<=y
  ·have c1':(65536:Int)<=(y:Int):=om
   have e8:=rB .u64 .u64 (y / 65536) (b:=8) dD
   simp only[Int.cast_ofNat_Int,Nat.reducePow]at e8
   have w1:IntKind.i64.wrap (32+16)=48:=by decide
   by_cases c2:256<=y / 65536
   ·have c2':(256:Int)<=((y / 65536:Nat):Int):=om
    have w2:IntKind.i64.wrap (48+8)=56:=by decide
    obtain⟨l,l1,l2,l3,l4⟩:=ie (v:=y / 65536 / 256) om
    have w3:IntKind.u8.wrap ((y / 65536 / 256:Nat):Int)=((y / 65536 / 256:Nat):Int):=dN om om
    have w4:IntKind.i64.wrap (l.toNat:Int)=(l.toNat:Int):=aV om om
    have w5:IntKind.i64.wrap (56+(l.toNat:Int))=((56+l.toNat:Nat):Int):=by rw[aV om om]; omega
    simp only[sA,sB,Int.reduceNegSucc,reduceCtorEq,Nat.reduceEqDiff,↓reduceIte,Nat.reduceAdd,Int.reduceEq,Int.reduceLT,Int.reduceLE,Nat.reduceLT,n32,e32,w0,e16,c1',w1,c2',e8,w2,w3,bt l1,w4,w5]
    obtain⟨k1,k2⟩:=key' (y / 65536 / 256) 24 l.toNat om om l2 (l3 om) om
    exact⟨⟨56+l.toNat,by trivial,k1,k2,om⟩,by trivial⟩
   ·have c2':¬(256:Int)<=((y / 65536:Nat):Int):=om
    obtain⟨l,l1,l2,l3,l4⟩:=ie (v:=y / 65536) om
    have w3:IntKind.u8.wrap ((y / 65536:Nat):Int)=((y / 65536:Nat):Int):=dN om om
    have w4:IntKind.i64.wrap (l.toNat:Int)=(l.toNat:Int):=aV om om
    have w5:IntKind.i64.wrap (48+(l.toNat:Int))=((48+l.toNat:Nat):Int):=by rw[aV om om]; omega
    simp only[sA,sB,Int.reduceNegSucc,reduceCtorEq,Nat.reduceEqDiff,↓reduceIte,Nat.reduceAdd,Int.reduceEq,Int.reduceLT,Int.reduceLE,Nat.reduceLT,n32,e32,w0,e16,c1',w1,c2',w3,bt l1,w4,w5]
    obtain⟨k1,k2⟩:=key' (y / 65536) 16 l.toNat om om l2 (l3 om) om
    exact⟨⟨48+l.toNat,by trivial,k1,k2,om⟩,by trivial⟩
  ·have c1':¬(65536:Int)<=(y:Int):=om
   have e8:=rB .u64 .u64 y (b:=8) dD
   simp only[Int.cast_ofNat_Int,Nat.reducePow]at e8
   by_cases c2:256<=y
   ·have c2':(256:Int)<=(y:Int):=om
    have w2:IntKind.i64.wrap (32+8)=40:=by decide
    obtain⟨l,l1,l2,l3,l4⟩:=ie (v:=y / 256) om
    have w3:IntKind.u8.wrap ((y / 256:Nat):Int)=((y / 256:Nat):Int):=dN om om
    have w4:IntKind.i64.wrap (l.toNat:Int)=(l.toNat:Int):=aV om om
    have w5:IntKind.i64.wrap (40+(l.toNat:Int))=((40+l.toNat:Nat):Int):=by rw[aV om om]; omega
    simp only[sA,sB,Int.reduceNegSucc,reduceCtorEq,Nat.reduceEqDiff,↓reduceIte,Nat.reduceAdd,Int.reduceEq,Int.reduceLT,Int.reduceLE,Nat.reduceLT,n32,e32,w0,c1',c2',e8,w2,w3,bt l1,w4,w5]
    obtain⟨k1,k2⟩:=key' (y / 256) 8 l.toNat om om l2 (l3 om) om
    exact⟨⟨40+l.toNat,by trivial,k1,k2,om⟩,by trivial⟩
   ·have c2':¬(256:Int)<=(y:Int):=om
    obtain⟨l,l1,l2,l3,l4⟩:=ie (v:=y) om
    have w3:IntKind.u8.wrap (y:Int)=(y:Int):=dN om om
    have w4:IntKind.i64.wrap (l.toNat:Int)=(l.toNat:Int):=aV om om
    have w5:IntKind.i64.wrap (32+(l.toNat:Int))=((32+l.toNat:Nat):Int):=by rw[aV om om]; omega
    simp only[sA,sB,Int.reduceNegSucc,reduceCtorEq,Nat.reduceEqDiff,↓reduceIte,Nat.reduceAdd,Int.reduceEq,Int.reduceLT,Int.reduceLE,Nat.reduceLT,n32,e32,w0,c1',c2',w3,bt l1,w4,w5]
    obtain⟨k1,k2⟩:=key' y 0 l.toNat (by simp) om l2 (l3 om) om
    exact⟨⟨32+l.toNat,by trivial,k1,k2,om⟩,by trivial⟩
 ·have n32:¬(4294967296:Int)<=(u:Int):=om
  have e16:=rB .u64 .u64 u (b:=16) dD
  simp only[Int.cast_ofNat_Int,Nat.reducePow]at e16
  by_cases c1:65536<=u
  ·have c1':(65536:Int)<=(u:Int):=om
   have e8:=rB .u64 .u64 (u / 65536) (b:=8) dD
   simp only[Int.cast_ofNat_Int,Nat.reducePow]at e8
   have w1:IntKind.i64.wrap (0+16)=16:=by decide
   by_cases c2:256<=u / 65536
   ·have c2':(256:Int)<=((u / 65536:Nat):Int):=om
    have w2:IntKind.i64.wrap (16+8)=24:=by decide
    obtain⟨l,l1,l2,l3,l4⟩:=ie (v:=u / 65536 / 256) om
    have w3:IntKind.u8.wrap ((u / 65536 / 256:Nat):Int)=((u / 65536 / 256:Nat):Int):=dN om om
    have w4:IntKind.i64.wrap (l.toNat:Int)=(l.toNat:Int):=aV om om
    have w5:IntKind.i64.wrap (24+(l.toNat:Int))=((24+l.toNat:Nat):Int):=by rw[aV om om]; omega
    simp only[sA,sB,Int.reduceNegSucc,reduceCtorEq,Nat.reduceEqDiff,↓reduceIte,Nat.reduceAdd,Int.reduceEq,Int.reduceLT,Int.reduceLE,Nat.reduceLT,n32,e16,c1',w1,c2',e8,w2,w3,bt l1,w4,w5]
    obtain⟨k1,k2⟩:=key (u / 65536 / 256) 24 l.toNat om om l2 (l3 om) om
    exact⟨⟨24+l.toNat,by trivial,k1,k2,om⟩,by trivial⟩
   ·have c2':¬(256:Int)<=((u / 65536:Nat):Int):=om
    obtain⟨l,l1,l2,l3,l4⟩:=ie (v:=u / 65536) om
    have w3:IntKind.u8.wrap ((u / 65536:Nat):Int)=((u / 65536:Nat):Int):=dN om om
    have w4:IntKind.i64.wrap (l.toNat:Int)=(l.toNat:Int):=aV om om
    have w5:IntKind.i64.wrap (16+(l.toNat:Int))=((16+l.toNat:Nat):Int):=by rw[aV om om]; omega
    simp only[sA,sB,Int.reduceNegSucc,reduceCtorEq,Nat.reduceEqDiff,↓reduceIte,Nat.reduceAdd,Int.reduceEq,Int.reduceLT,Int.reduceLE,Nat.reduceLT,n32,e16,c1',w1,c2',w3,bt l1,w4,w5]
    obtain⟨k1,k2⟩:=key (u / 65536) 16 l.toNat om om l2 (l3 om) om
    exact⟨⟨16+l.toNat,by trivial,k1,k2,om⟩,by trivial⟩
  ·have c1':¬(65536:Int)<=(u:Int):=om
   have e8:=rB .u64 .u64 u (b:=8) dD
   simp only[Int.cast_ofNat_Int,Nat.reducePow]at e8
   by_cases c2:256<=u
   ·have c2':(256:Int)<=(u:Int):=om
    have w2:IntKind.i64.wrap (0+8)=8:=by decide
    obtain⟨l,l1,l2,l3,l4⟩:=ie (v:=u / 256) om
    have w3:IntKind.u8.wrap ((u / 256:Nat):Int)=((u / 256:Nat):Int):=dN om om
    have w4:IntKind.i64.wrap (l.toNat:Int)=(l.toNat:Int):=aV om om
    have w5:IntKind.i64.wrap (8+(l.toNat:Int))=((8+l.toNat:Nat):Int):=by rw[aV om om]; omega
    simp only[sA,sB,Int.reduceNegSucc,reduceCtorEq,Nat.reduceEqDiff,↓reduceIte,Nat.reduceAdd,Int.reduceEq,Int.reduceLT,Int.reduceLE,Nat.reduceLT,n32,c1',c2',e8,w2,w3,bt l1,w4,w5]
    obtain⟨k1,k2⟩:=key (u / 256) 8 l.toNat om om l2 (l3 om) om
    exact⟨⟨8+l.toNat,by trivial,k1,k2,om⟩,by trivial⟩
   ·have c2':¬(256:Int)<=(u:Int):=om
    obtain⟨l,l1,l2,l3,l4⟩:=ie (v:=u) om
    have w3:IntKind.u8.wrap (u:Int)=(u:Int):=dN om om
    have w4:IntKind.i64.wrap (l.toNat:Int)=(l.toNat:Int):=aV om om
    have w5:IntKind.i64.wrap (0+(l.toNat:Int))=(l.toNat:Int):=by rw[aV om om]; omega
    simp only[sA,sB,Int.reduceNegSucc,reduceCtorEq,Nat.reduceEqDiff,↓reduceIte,Nat.reduceAdd,Int.reduceEq,Int.reduceLT,Int.reduceLE,Nat.reduceLT,n32,c1',c2',w3,bt l1,w4,w5]
    exact⟨⟨l.toNat,by trivial,l2,l3 h0,om⟩,by trivial⟩
def iC:List af:=(List.range 20).map fun i=>.int .u64 ((10 ^ i:Nat):Int)
theorem Fs{i:Nat}(h:i<20):iC[i]?=some (.int .u64 ((10 ^ i:Nat):Int)):=by
 simp[iC,h]
theorem kd(h78:aG.is 73=false)(h93:aG.is 88=false)(h94:aG.is 89=false)(h95:aG.is 90=false){u:Nat}(h0:0<u)(hu:u<18446744073709551616){H:ae}(G:nd H 0 iC) :
  aq Tryz.prog aG 73 [.int .u64 (u:Int)] H fun v H'=>(∃k:Nat,v=.int .i64 ((k+1:Nat):Int)/\10 ^ k<=u/\u<10 ^ (k+1)/\k<20)/\H'=H:=by
 refine ai h78 NY rfl ?_
 simp only[c73,sA,sB,Int.reduceNegSucc,reduceCtorEq,Nat.reduceEqDiff,↓reduceIte,Nat.reduceAdd,Int.reduceEq,Int.reduceLT,Int.reduceLE,Nat.reduceLT]
 refine (zG h94 h0 hu).mono ?_
 rintro v _ ⟨⟨L,rfl,l1,l2,l3⟩,rfl⟩
 simp only[sA,sB,Int.reduceNegSucc,reduceCtorEq,Nat.reduceEqDiff,↓reduceIte,Nat.reduceAdd,Int.reduceEq,Int.reduceLT,Int.reduceLE,Nat.reduceLT]
 refine (zC h93 (show L<=64 by omega)).mono ?_
 rintro v _ ⟨rfl,rfl⟩
 have hL:1<=L:=by
  rcases Nat.eq_zero_or_pos L with h | h
  ·subst h; simp at l1; omega
  ·exact h
 have all:∀L,L<=64->1<=L->2 ^ L<=10 ^ (L*78913 / 262144+1)/\(10 ^ (L*78913 / 262144-1)*2<=2 ^ L)/\L*78913 / 262144<20:=of_decide_eq_true (by kernel_rfl)
 obtain⟨a1,a2,a3⟩:=all L l3 hL
 generalize L*78913 / 262144=t at *
 have ht:t<20:=om
 simp only[sA,sB,Int.reduceNegSucc,reduceCtorEq,Nat.reduceEqDiff,↓reduceIte,Nat.reduceAdd,Int.reduceEq,Int.reduceLT,Int.reduceLE,Nat.reduceLT,Lc G (n:=20) dD ht,IO G (n:=20) dD (Fs ht)]
 refine (Ar h95 _).mono ?_
 rintro v _ ⟨rfl,rfl⟩
 by_cases hc:10 ^ t<=u
 ·have hc':((10 ^ t:Nat):Int)<=(u:Int):=om
  have w:IntKind.i64.wrap ((t:Int)+1)=((t+1:Nat):Int):=by rw[aV om om]; omega
  simp only[sA,sB,Int.reduceNegSucc,reduceCtorEq,Nat.reduceEqDiff,↓reduceIte,Nat.reduceAdd,Int.reduceEq,Int.reduceLT,Int.reduceLE,Nat.reduceLT,hc',w]
  exact⟨⟨t,by trivial,hc,om,a3⟩,by trivial⟩
 ·have hc':¬((10 ^ t:Nat):Int)<=(u:Int):=om
  have w:IntKind.i64.wrap ((t:Int)+0)=(t:Int):=by rw[aV om om]; omega
  simp only[sA,sB,Int.reduceNegSucc,reduceCtorEq,Nat.reduceEqDiff,↓reduceIte,Nat.reduceAdd,Int.reduceEq,Int.reduceLT,Int.reduceLE,Nat.reduceLT,hc',w]
  have ht0:t≠0:=by rintro rfl; simp at hc; omega
  obtain⟨s,rfl⟩:=Nat.exists_eq_succ_of_ne_zero ht0
  exact⟨⟨s,rfl,by simp at a2; omega,by simpa using hc,om⟩,by trivial⟩
end Go.Proofs.Wo
