/- Part of a proof (YC5 YH1 YC4 YR1 YR2 YR3 YR4); no condition. -/
import Derived.Test.YtfleblkgifoeaaaGreatDoorProg
import Derived.KernelRfl
import Derived.Test.YtfleblkgifoeaaaGreatDoorP7
import Derived.Test.YtfleblkgifoeaaaGreatDoorP11
set_option linter.unusedSimpArgs false
set_option linter.unusedVariables false
set_option linter.unnecessarySimpa false
namespace Go.Proofs.Wo
open Go.Abs Go.Abs.S
noncomputable section
def c3:AFn:=⟨77,zq [zo 4 (.mv (.c (.bool false)))] (zr [zm 14 0,zo 15 (.len true (.t 14)),zk 16 .gtr 15 3000] 16 (.reg [zm 17 0,zo 18 (.slStr (.t 17) none (some (zi 3000))),zm 0 18]) .skip (zr [zm 19 1,zx 20 7 [.t 19,zi 100,zi 2000]] 20 (zq [zx 21 8 [],zm 4 21] .ret) .skip (zq [zm 23 0,zx 24 9 [.t 23],zm 22 24,ze 25 0 22,ze 26 1 22,zo 6 (.new [zI 0,zI 0]),zm 5 25,zp (.store 2 (.t 6) (.t 26))] (zq [zm 28 0,zx 29 10 [.t 28],zm 27 29,ze 30 0 27,ze 31 1 27,zo 8 (.new [zI 0,zI 0]),zm 7 30,zp (.store 2 (.t 8) (.t 31))] (zq [zm 32 1,zx 33 11 [.t 32],zm 9 33] (zq [zm 35 9,zx 36 12 [.t 35],zm 34 36,ze 37 0 34,ze 38 1 34,zm 10 37,zm 11 38] (zq [zm 40 1,zx 41 13 [.t 40],zm 39 41,ze 42 0 39,ze 43 1 39,zm 12 42,zm 13 43] (zq [zt 44 2 6,zt 45 2 8,zo 46 (.pf (.eqS false [(0,.int),(1,.int)]) [.t 44,.t 45]),zm 47 46,zg 48 (.mv (.t 5)) 47 true,zg 49 (.mv (.t 7)) 47 true,zg 50 (.call 14 [.t 48,.t 49,.c (.bool true)]) 47 true,zo 51 (.pick (.t 47) (.t 50) (.c (.bool false))),zm 52 51,zg 53 (.mv (.t 9)) 52 true,zg 54 (.call 15 [.t 53]) 52 true,zg 55 (.mv (.t 1)) 52 true,zg 56 (.call 16 [.t 55]) 52 true,zg 57 (.pf (.eqv false .bool) [.t 54,.t 56]) 52 true,zo 58 (.pick (.t 52) (.t 57) (.c (.bool false))),zm 59 58,zg 60 (.mv (.t 10)) 59 true,zg 61 (.mv (.t 12)) 59 true,zg 62 (.bin .eql (.t 60) (.t 61)) 59 true,zo 63 (.pick (.t 59) (.t 62) (.c (.bool false))),zm 64 63,zg 65 (.mv (.t 11)) 64 true,zg 66 (.mv (.t 13)) 64 true,zg 67 (.bin .eql (.t 65) (.t 66)) 64 true,zo 68 (.pick (.t 64) (.t 67) (.c (.bool false))),zm 69 68,zg 70 (.mv (.t 9)) 69 true,zg 71 (.mv (.t 1)) 69 true,zg 72 (.call 14 [.t 70,.t 71,.c (.bool true)]) 69 true,zo 73 (.pick (.t 69) (.t 72) (.c (.bool false))),zm 74 73,zg 75 (.call 8 []) 74 true,zo 76 (.pick (.t 74) (.t 75) (.c (.bool false))),zm 4 76] .ret)))))))),[.t 4]⟩
def c8:AFn:=⟨108,zq [zo 0 (.mv (.c (.bool false)))] (zq [zx 12 9 [.c (.str [108,101,116,32,97,32,61,32,49,32,43,32,50,32,42,32,98,59])],zm 11 12,ze 13 0 11,ze 14 1 11,zo 2 (.new [zI 0,zI 0]),zm 1 13,zp (.store 2 (.t 2) (.t 14))] (zq [zx 16 9 [.c (.str [114,101,116,117,114,110,32,45,120,40,112,41,32,60,32,48,46,53,59])],zm 15 16,ze 17 0 15,ze 18 1 15,zo 4 (.new [zI 0,zI 0]),zm 3 17,zp (.store 2 (.t 4) (.t 18))] (zq [zx 20 9 [.c (.str [105,102,32,40,97,41,32,123,32,125,32,101,108,115,101,32,123,32,114,101,116,117,114,110,32,49,59,32,125])],zm 19 20,ze 21 0 19,ze 22 1 19,zo 6 (.new [zI 0,zI 0]),zm 5 21,zp (.store 2 (.t 6) (.t 22))] (zq [zx 24 9 [.c (.str [108,101,116,32,97,32,61,32,49])],zm 23 24,ze 25 0 23,ze 26 1 23,zo 8 (.new [zI 0,zI 0]),zm 7 25,zp (.store 2 (.t 8) (.t 26))] (zq [zm 28 1,zx 29 12 [.t 28],zm 27 29,ze 30 0 27,ze 31 1 27,zm 9 30,zm 10 31] (zq [zf 32 0 2,zl 33 32,zk 34 .eql 33 0,zm 35 34,zg 36 (.mv (.t 1)) 35 true,zg 37 (.len false (.t 36)) 35 true,zg 38 (.bin .eql (.t 37) (zi 1)) 35 true,zo 39 (.pick (.t 35) (.t 38) (.c (.bool false))),zm 40 39,zg 41 (.mv (.t 1)) 40 true,zg 42 (.idxA 9 (.t 41) (zi 0)) 40 true,zg 43 (.fieldA 2 (.t 42)) 40 true,zg 44 (.fieldA 1 (.t 43)) 40 true,zg 45 (.load false 1 (.t 44)) 40 true,zg 46 (.bin .eql (.t 45) (.c (.str [43]))) 40 true,zo 47 (.pick (.t 40) (.t 46) (.c (.bool false))),zm 48 47,zg 49 (.fieldA 0 (.t 4)) 48 true,zg 50 (.load false 1 (.t 49)) 48 true,zg 51 (.bin .eql (.t 50) (zi 0)) 48 true,zo 52 (.pick (.t 48) (.t 51) (.c (.bool false))),zm 53 52,zg 54 (.mv (.t 3)) 53 true,zg 55 (.len false (.t 54)) 53 true,zg 56 (.bin .eql (.t 55) (zi 1)) 53 true,zo 57 (.pick (.t 53) (.t 56) (.c (.bool false))),zm 58 57,zg 59 (.mv (.t 3)) 58 true,zg 60 (.idxA 9 (.t 59) (zi 0)) 58 true,zg 61 (.fieldA 2 (.t 60)) 58 true,zg 62 (.fieldA 1 (.t 61)) 58 true,zg 63 (.load false 1 (.t 62)) 58 true,zg 64 (.bin .eql (.t 63) (.c (.str [60]))) 58 true,zo 65 (.pick (.t 58) (.t 64) (.c (.bool false))),zm 66 65,zg 67 (.mv (.t 3)) 66 true,zg 68 (.idxA 9 (.t 67) (zi 0)) 66 true,zg 69 (.fieldA 2 (.t 68)) 66 true,zg 70 (.fieldA 3 (.t 69)) 66 true,zg 71 (.load false 1 (.t 70)) 66 true,zg 72 (.idxA 4 (.t 71) (zi 0)) 66 true,zg 73 (.fieldA 1 (.t 72)) 66 true,zg 74 (.load false 1 (.t 73)) 66 true,zg 75 (.bin .eql (.t 74) (.c (.str [45]))) 66 true,zo 76 (.pick (.t 66) (.t 75) (.c (.bool false))),zm 77 76,zg 78 (.fieldA 0 (.t 6)) 77 true,zg 79 (.load false 1 (.t 78)) 77 true,zg 80 (.bin .eql (.t 79) (zi 0)) 77 true,zo 81 (.pick (.t 77) (.t 80) (.c (.bool false))),zm 82 81,zg 83 (.mv (.t 5)) 82 true,zg 84 (.len false (.t 83)) 82 true,zg 85 (.bin .eql (.t 84) (zi 1)) 82 true,zo 86 (.pick (.t 82) (.t 85) (.c (.bool false))),zm 87 86,zg 88 (.mv (.t 5)) 87 true,zg 89 (.idxA 9 (.t 88) (zi 0)) 87 true,zg 90 (.fieldA 7 (.t 89)) 87 true,zg 91 (.load false 1 (.t 90)) 87 true,zg 92 (.len false (.t 91)) 87 true,zg 93 (.bin .eql (.t 92) (zi 1)) 87 true,zo 94 (.pick (.t 87) (.t 93) (.c (.bool false))),zm 95 94,zg 96 (.load true 2 (.t 8)) 95 true,zg 97 (.build [zI 0,zI 0] [(0,1,zi 101),(1,1,zi 1)]) 95 true,zg 98 (.pf (.eqS false [(0,.int),(1,.int)]) [.t 96,.t 97]) 95 true,zo 99 (.pick (.t 95) (.t 98) (.c (.bool false))),zm 100 99,zg 101 (.mv (.t 10)) 100 true,zg 102 (.bin .eql (.t 101) (zi 0)) 100 true,zo 103 (.pick (.t 100) (.t 102) (.c (.bool false))),zm 104 103,zg 105 (.mv (.t 9)) 104 true,zg 106 (.bin .eql (.t 105) (.c (.str [108,101,116,32,97,32,61,32,49,32,43,32,40,50,32,42,32,98,41,59,10]))) 104 true,zo 107 (.pick (.t 104) (.t 106) (.c (.bool false))),zm 0 107] .ret)))))),[.t 0]⟩
theorem za8:cN Tryz.prog 8=some c8:=by kernel_rfl
def c4:AFn:=⟨69,zq [zo 2 (.mv (.c (.bool false)))] (zq [zm 12 0,zx 13 17 [.t 12,zi 201],zo 14 (.bin .add (zi 30) (.t 13)),zm 0 14] (zq [zo 3 (.mv (.c (.str []))),zo 4 (.mv (.c (.str []))),zo 5 (.mv (.c (.str []))),zo 6 (.mv (.c (.str []))),zo 7 (.mv (.c (.str [])))] (.seq (zq [zo 8 (.mv (zi 0))] (.block 0 (.loop (zr [zm 15 8,zm 16 0,zb 17 .lss 15 16] 17 .skip (.exit 0) (.seq (.block 1 (zq [zm 20 3,zo 21 (.bin .add (.t 20) (.c (.str [40]))),zm 22 4,zo 23 (.bin .add (.t 22) (.c (.str [45]))),zm 24 5,zo 25 (.bin .add (.t 24) (.c (.str [105,102,32,40,97,41,32,123]))),zm 26 6,zo 27 (.bin .add (.t 26) (.c (.str [125]))),zm 3 21,zm 4 23,zm 5 25,zm 6 27] (.reg [zm 28 7,zo 29 (.bin .add (.t 28) (.c (.str [41]))),zm 7 29]))) (.reg [zm 18 8,zk 19 .add 18 1,zm 8 19])))))) (zq [zo 9 (.mv (.c (.str [])))] (.seq (zq [zo 10 (.mv (zi 0))] (.block 2 (.loop (zr [zm 30 10,zm 31 0,zk 32 .rem 31 41,zo 33 (.bin .add (zi 480) (.t 32)),zb 34 .lss 30 33] 34 .skip (.exit 2) (.seq (.block 3 (.reg [zm 37 9,zo 38 (.bin .add (.t 37) (.c (.str [114,101,116,117,114,110,32,49,59]))),zm 9 38])) (.reg [zm 35 10,zk 36 .add 35 1,zm 10 36])))))) (zq [zo 11 (.mv (.f 18))] (zq [zm 39 11,zm 40 3,zo 41 (.bin .add (.c (.str [114,101,116,117,114,110,32])) (.t 40)),zo 42 (.bin .add (.t 41) (.c (.str [49]))),zm 43 7,zb 44 .add 42 43,zo 45 (.bin .add (.t 44) (.c (.str [59]))),zo 46 (.callv (.t 39) [.t 45]),zm 47 46,zg 48 (.mv (.t 11)) 47 true,zg 49 (.mv (.t 4)) 47 true,zg 50 (.bin .add (.c (.str [114,101,116,117,114,110,32])) (.t 49)) 47 true,zg 51 (.bin .add (.t 50) (.c (.str [49,59]))) 47 true,zg 52 (.callv (.t 48) [.t 51]) 47 true,zo 53 (.pick (.t 47) (.t 52) (.c (.bool false))),zm 54 53,zg 55 (.mv (.t 11)) 54 true,zg 56 (.mv (.t 5)) 54 true,zg 57 (.mv (.t 6)) 54 true,zg 58 (.bin .add (.t 56) (.t 57)) 54 true,zg 59 (.callv (.t 55) [.t 58]) 54 true,zo 60 (.pick (.t 54) (.t 59) (.c (.bool false))),zm 61 60,zg 62 (.mv (.t 11)) 61 true,zg 63 (.mv (.t 9)) 61 true,zg 64 (.callv (.t 62) [.t 63]) 61 true,zo 65 (.pick (.t 61) (.t 64) (.c (.bool false))),zm 66 65,zg 67 (.call 8 []) 66 true,zo 68 (.pick (.t 66) (.t 67) (.c (.bool false))),zm 2 68] .ret))))))),[.t 2]⟩
theorem za4:cN Tryz.prog 4=some c4:=by kernel_rfl
def c17:AFn:=⟨16,zq [zo 4 (.mv (zi 0))] (zr [zm 5 1,zk 6 .lss 5 1] 6 (zq [zo 4 (.mv (zi 0))] .ret) .skip (zq [zm 7 0,zm 8 1,zb 9 .rem 7 8,zm 0 9] (zr [zm 10 0,zk 11 .lss 10 0] 11 (.reg [zm 12 0,zm 13 1,zb 14 .add 12 13,zm 0 14]) .skip (zq [zm 15 0,zm 4 15] .ret)))),[.t 4]⟩
theorem za17:cN Tryz.prog 17=some c17:=by kernel_rfl
def c18:AFn:=⟨20,zq [zo 2 (.mv (.c (.bool false)))] (zq [zm 8 0,zx 9 9 [.t 8],zm 7 9,ze 10 0 7,ze 11 1 7,zo 4 (.new [zI 0,zI 0]),zm 3 10,zp (.store 2 (.t 4) (.t 11))] (zq [zm 13 0,zx 14 10 [.t 13],zm 12 14,ze 15 0 12,ze 16 1 12,zo 6 (.new [zI 0,zI 0]),zm 5 15,zp (.store 2 (.t 6) (.t 16))] (zq [zt 17 2 4,zt 18 2 6,zo 19 (.pf (.eqS false [(0,.int),(1,.int)]) [.t 17,.t 18]),zm 2 19] .ret))),[.t 2]⟩
theorem za18:cN Tryz.prog 18=some c18:=by kernel_rfl
end
open Go.Abs Go.Abs.S
abbrev tr1:List St:=[.mk 1 [97] (.mk 3 [43] 0 [.mk 1 [] 4294967296 [],.mk 3 [42] 0 [.mk 1 [] 8589934592 [],.mk 2 [98] 0 []]]) [] [] 1]
abbrev tr2:List St:=[.mk 5 [] (.mk 3 [60] 0 [.mk 3 [45] 0 [.mk 4 [120] 0 [.mk 2 [112] 0 []]],.mk 1 [] 2147483648 []]) [] [] 1]
abbrev tr3:List St:=[.mk 3 [] (.mk 2 [97] 0 []) [] [.mk 5 [] (.mk 1 [] 4294967296 []) [] [] 1] 1]
theorem ex1:parseF [108,101,116,32,97,32,61,32,49,32,43,32,50,32,42,32,98,59]=.ok tr1:=by kernel_rfl
theorem ex2:parseF [114,101,116,117,114,110,32,45,120,40,112,41,32,60,32,48,46,53,59]=.ok tr2:=by kernel_rfl
theorem ex3:parseF [105,102,32,40,97,41,32,123,32,125,32,101,108,115,101,32,123,32,114,101,116,117,114,110,32,49,59,32,125]=.ok tr3:=by kernel_rfl
theorem ex4:parseF [108,101,116,32,97,32,61,32,49]=.error (101,1):=by kernel_rfl
theorem num1:numeralF 4294967296=[49]:=by
 have h:numeralF 4294967296=[]++(asc (decD 1)++tailF 0):=by rw[numeralF]; rfl
 rw[h,decD_lt om]; rfl
theorem num2:numeralF 8589934592=[50]:=by
 have h:numeralF 8589934592=[]++(asc (decD 2)++tailF 0):=by rw[numeralF]; rfl
 rw[h,decD_lt om]; rfl
theorem show1:showSs 0 tr1=[108,101,116,32,97,32,61,32,49,32,43,32,40,50,32,42,32,98,41,59,10]:=by
 simp only[showSs,showS,showE,showKs,shapeE,shapeS,Ex.kind,if_true,num1,num2]
 rfl
theorem showF1:showF tr1=([108,101,116,32,97,32,61,32,49,32,43,32,40,50,32,42,32,98,41,59,10],0):=by
 have h:rightF tr1=true:=by kernel_rfl
 unfold showF
 rw[if_pos h,show1,if_neg (by simp)]
theorem parse_ok{s:Bs}{l:List St}(e:parseF s=.ok l){H:AHeap}:ACalls Tryz.prog natT 9 [.str s] H fun u H'=>(∃v C,u=.tuple [v,.agg (flL 0 0)]∧SlK (In H.next H'.next) H' 9 v l.length C∧XSs (In H.next H'.next) H' l C)∧Ext H.next H H':=by
 have:=pparse_spec s (H:=H)
 rw[e]at this
 exact this
theorem parse_bad{s:Bs}{f:Flt}(e:parseF s=.error f){H:AHeap}:ACalls Tryz.prog natT 9 [.str s] H fun u H'=>u=.tuple [nilS,.agg (flL f.1 f.2)]∧Ext H.next H H':=by
 have:=pparse_spec s (H:=H)
 rw[e]at this
 exact this
theorem keep_fl{H:AHeap}(e l:Nat):∃H1 H2,oNew H [.int .i64 0,.int .i64 0]=(cellR H.next 2 0,H1)∧oStore 2 H1 (cellR H.next 2 0) (.agg (flL e l))=some H2∧Row H2 H.next (flL e l)∧H2.next=H.next+1∧∀c,c<H.next→H2.get c=H.get c:=by
 obtain⟨H1,m1,r1,n1,k1⟩:=row_newL H [.int .i64 0,.int .i64 0] (n:=2) rfl
 obtain⟨H2,m2,r2,n2,k2⟩:=row_storeN r1 (n:=2) rfl (xs:=flL e l) rfl rfl
 exact⟨H1,H2,m1,m2,r2,om,fun c hc=>by rw[k2 c om,k1 c om]⟩
theorem first_st{P:Nat→Prop}{H:AHeap}{v:AVal}{C:List AVal}{k:Nat}{s:Bs}{e:Ex}{body els r:List St}{line:Int}(z1:SlK P H 9 v (St.mk k s e body els line::r).length C)(z2:XSs P H (St.mk k s e body els line::r) C) :
  ∃ce vb Cb ve Ce,aIdxA 9 v (.int .i64 0)=some (placeK 9 v 0)∧PtC H (placeK 9 v 0) (.int .u8 (k:Int)::.str s::(ce++[vb,ve,.int .i64 line]))∧XE P H e ce∧SlK P H 9 vb body.length Cb∧XSs P H body Cb∧SlK P H 9 ve els.length Ce∧XSs P H els Ce:=by
 have hp:=z1.pt (i:=0) (by simp)
 obtain⟨ce,vb,Cb,ve,Ce,hc,q⟩:=z2.at (i:=0) rfl
 rw[hc]at hp
 exact⟨ce,vb,Cb,ve,Ce,z1.idx (i:=0) (by simp),hp,q⟩
theorem awake_spec{H:AHeap}(h1:1<H.next)(hG:Glo H 1 powL):ACalls Tryz.prog natT 8 [] H fun v H'=>v=.bool true∧Ext H.next H H':=by
 refine acalls_ofN rfl za8 rfl ?_
 simp only[c8,sA,sB,seval]
 refine (parse_ok ex1).mono ?_
 rintro _ H1 ⟨⟨v1,C1,rfl,a1,a2⟩,E1⟩
 have n1:=E1.next
 obtain⟨Ha,H2,ma,m2,r2,n2,k2⟩:=keep_fl (H:=H1) 0 0
 simp only[sA,sB,seval,ext_0,ext_1,ma,m2]
 refine (parse_ok ex2).mono ?_
 rintro _ H3 ⟨⟨v2,C2,rfl,b1,b2⟩,E3⟩
 have n3:=E3.next
 obtain⟨Hb,H4,mb,m4,r4,n4,k4⟩:=keep_fl (H:=H3) 0 0
 simp only[sA,sB,seval,ext_0,ext_1,mb,m4]
 refine (parse_ok ex3).mono ?_
 rintro _ H5 ⟨⟨v3,C3,rfl,d1,d2⟩,E5⟩
 have n5:=E5.next
 obtain⟨Hc,H6,mc,m6,r6,n6,k6⟩:=keep_fl (H:=H5) 0 0
 simp only[sA,sB,seval,ext_0,ext_1,mc,m6]
 refine (parse_bad ex4).mono ?_
 rintro _ H7 ⟨rfl,E7⟩
 have n7:=E7.next
 obtain⟨Hd,H8,md,m8,r8,n8,k8⟩:=keep_fl (H:=H7) 101 1
 have o71:∀c,c<H1.next→H8.get c=H1.get c:=fun c hc=>by rw[k8 c om,E7.old c om,k6 c om,E5.old c om,k4 c om,E3.old c om,k2 c om]
 have o83:∀c,c<H3.next→H8.get c=H3.get c:=fun c hc=>by rw[k8 c om,E7.old c om,k6 c om,E5.old c om,k4 c om]
 have o85:∀c,c<H5.next→H8.get c=H5.get c:=fun c hc=>by rw[k8 c om,E7.old c om,k6 c om]
 have a18:=a1.mono (Q:=(·<H8.next)) (H':=H8) fun b hb=>⟨by have:=hb.2; omega,o71 b hb.2⟩
 have a28:=a2.mono (Q:=(·<H8.next)) (H':=H8) fun b hb=>⟨by have:=hb.2; omega,o71 b hb.2⟩
 have G8:Glo H8 1 powL:=by unfold Glo; rw[o71 1 om,E1.old 1 h1]; exact hG
 simp only[sA,sB,seval,ext_0,ext_1,md,m8]
 refine (mshow_spec a18 a28 (by kernel_rfl) (fun _=>by rw[show1]; simp) om G8).mono ?_
 rintro _ H9 ⟨rfl,E9⟩
 have n9:=E9.next
 rw[showF1]
 have kk:∀c,c<H8.next→H9.get c=H8.get c:=fun c hc=>E9.old c hc
 have w2:oLoad false 1 H9 (cellR H1.next 2 0)=some (.int .i64 0):=row_load (r2.same (by rw[kk _ om,k8 _ om,E7.old _ om,k6 _ om,E5.old _ om,k4 _ om,E3.old _ om])) rfl rfl
 have w4:oLoad false 1 H9 (cellR H3.next 2 0)=some (.int .i64 0):=row_load (r4.same (by rw[kk _ om,k8 _ om,E7.old _ om,k6 _ om,E5.old _ om])) rfl rfl
 have w6:oLoad false 1 H9 (cellR H5.next 2 0)=some (.int .i64 0):=row_load (r6.same (by rw[kk _ om,k8 _ om,E7.old _ om])) rfl rfl
 have w8:oLoad true 2 H9 (cellR H7.next 2 0)=some (.agg (flL 101 1)):=row_loadN (r8.same (kk _ om)) rfl
 have A1:=a18.mono (Q:=(·<H9.next)) (H':=H9) fun b hb=>⟨om,kk b hb⟩
 have A2:=a28.mono (Q:=(·<H9.next)) (H':=H9) fun b hb=>⟨om,kk b hb⟩
 have B1:=b1.mono (Q:=(·<H9.next)) (H':=H9) fun b hb=>⟨by have:=hb.2; omega,by rw[kk b (by have:=hb.2; omega),o83 b hb.2]⟩
 have B2:=b2.mono (Q:=(·<H9.next)) (H':=H9) fun b hb=>⟨by have:=hb.2; omega,by rw[kk b (by have:=hb.2; omega),o83 b hb.2]⟩
 have D1:=d1.mono (Q:=(·<H9.next)) (H':=H9) fun b hb=>⟨by have:=hb.2; omega,by rw[kk b (by have:=hb.2; omega),o85 b hb.2]⟩
 have D2:=d2.mono (Q:=(·<H9.next)) (H':=H9) fun b hb=>⟨by have:=hb.2; omega,by rw[kk b (by have:=hb.2; omega),o85 b hb.2]⟩
 have l1:aLenK false v1=some (.int .i64 1):=A1.len
 have l2:aLenK false v2=some (.int .i64 1):=B1.len
 have l3:aLenK false v3=some (.int .i64 1):=D1.len
 obtain⟨ce,vb,Cb,ve,Ce,i1,p1,⟨kv,KC,rfl,kz1,kz2⟩,_⟩:=first_st A1 A2
 obtain⟨ce',vb',Cb',ve',Ce',i2,p2,⟨kv',KC',rfl,kz1',kz2'⟩,_⟩:=first_st B1 B2
 obtain⟨ce3,vb3,Cb3,ve3,Ce3,i3,p3,⟨kv3,KC3,rfl,_⟩,_,_,el1,_⟩:=first_st D1 D2
 have g1:=p1.fld 2
 have g1':=(p1.part (o:=2) (k:=4) (by simp)).fld 1
 have h1':oLoad false 1 H9 (fp (fp (placeK 9 v1 0) 2) 1)=some (.str [43]):=(p1.part (o:=2) (k:=4) (by simp)).load (o:=1) rfl
 have g2:=p2.fld 2
 have pe2:=p2.part (o:=2) (k:=4) (by simp)
 have g2':=pe2.fld 1
 have g23:=pe2.fld 3
 have h2':oLoad false 1 H9 (fp (fp (placeK 9 v2 0) 2) 1)=some (.str [60]):=pe2.load (o:=1) rfl
 have h23:oLoad false 1 H9 (fp (fp (placeK 9 v2 0) 2) 3)=some kv':=pe2.load (o:=3) rfl
 have ik:aIdxA 4 kv' (.int .i64 0)=some (placeK 4 kv' 0):=kz1'.idx (i:=0) (by simp)
 obtain⟨kk2,KK2,hkc,_⟩:=kz2'.at (i:=0) rfl
 have pk:=kz1'.pt (i:=0) (by simp)
 rw[hkc]at pk
 have gk:=pk.fld 1
 have hk:oLoad false 1 H9 (fp (placeK 4 kv' 0) 1)=some (.str [45]):=pk.load (o:=1) rfl
 have g3:=p3.fld 7
 have h3':oLoad false 1 H9 (fp (placeK 9 v3 0) 7)=some ve3:=p3.load (o:=7) rfl
 have le3:aLenK false ve3=some (.int .i64 1):=el1.len
 have bf:aBuild [.int .i64 0,.int .i64 0] [(0,1,.int .i64 101),(1,1,.int .i64 1)]=some (.agg (flL 101 1)):=rfl
 have eq:aPf (.eqS false [(0,.int),(1,.int)]) [.agg (flL 101 1),.agg (flL 101 1)]=some (.bool true):=rfl
 simp only[sA,sB,seval,ext_0,ext_1,fldA,fld0,w2,w4,w6,w8,l1,l2,l3,i1,i2,i3,g1,g1',h1',g2,g2',g23,h2',h23,ik,gk,hk,g3,h3',le3,bf,eq]
 exact⟨tt,om,fun c hc=>by rw[kk c om,o71 c om,E1.old c hc]⟩
open Go.Abs Go.Abs.S
noncomputable section
def c10:AFn:=⟨46,zq [zo 2 (.mv zn),zo 3 (.new [zI 0,zI 0])] (zq [zm 6 0,zo 7 (.build [.str [],zU 0,.str [],zI 0,zI 0,zI 0,zI 0,zI 0,zI 0,zI 0] [(0,1,.t 6)]),zo 8 (.box (.t 7)),zm 4 8] (zq [zm 9 4,zx 10 33 [.t 9,zi 0]] (zq [zo 5 (.mv zn)] (.seq (.block 0 (.loop (zr [zm 11 4,zc 12 11,zf 13 7 12,zf 14 0 13,zl 15 14,zk 16 .eql 15 0,zm 17 16,zg 18 (.mv (.t 4)) 17 true,zg 19 (.nilChk (.t 18)) 17 true,zg 20 (.fieldA 1 (.t 19)) 17 true,zg 21 (.fieldA 0 (.t 20)) 17 true,zg 22 (.load false 1 (.t 21)) 17 true,zg 23 (.bin .neq (.t 22) (zu 5)) 17 true,zo 24 (.pick (.t 17) (.t 23) (.c (.bool false)))] 24 .skip (.exit 0) (.block 1 (.reg [zm 25 5,zm 26 4,zx 27 34 [.t 26],zo 28 (.buildSl 1 [zU 0,.str [],zU 0,.str [],zI 0,zN,zN,zN,zI 0] [(0,9,.t 27)]),zo 29 (.append 9 136 (.t 25) (.t 28)),zm 5 29]))))) (zr [zm 30 4,zc 31 30,zf 32 7 31,zf 33 0 32,zl 34 33,zk 35 .neq 34 0] 35 (zq [zm 36 4,zc 37 36,zf 38 7 37,zt 39 2 38,zo 2 (.mv zn),zp (.store 2 (.t 3) (.t 39))] .ret) .skip (zr [zm 40 5,zx 41 35 [.t 40],zo 42 (.un .not (.t 41))] 42 (zq [zo 43 (.build [zI 0,zI 0] [(0,1,zi 102)]),zo 2 (.mv zn),zp (.store 2 (.t 3) (.t 43))] .ret) .skip (zq [zm 44 5,zo 45 (.build [zI 0,zI 0] []),zm 2 44,zp (.store 2 (.t 3) (.t 45))] .ret))))))),[.t 2,.cell true 2 3]⟩
theorem za10:cN Tryz.prog 10=some c10:=by kernel_rfl
def c33:AFn:=⟨29,zr [zm 6 0,zc 7 6,zf 8 7 7,zf 9 0 8,zl 10 9,zk 11 .neq 10 0] 11 .ret .skip (zq [zm 13 0,zc 14 13,zf 15 0 14,zl 16 15,zm 17 1,zx 18 71 [.t 16,.t 17],zm 12 18,ze 19 0 12,ze 20 1 12,zo 4 (.new [zU 0,.str [],zI 0,zI 0,zI 0,zI 0]),zo 5 (.new [zI 0,zI 0]),zp (.store 6 (.t 4) (.t 19)),zp (.store 2 (.t 5) (.t 20))] (.draw [zm 21 0,zm 22 0,zt 23 6 4,zt 24 2 5,zc 25 21,zf 26 1 25,zp (.store 6 (.t 26) (.t 23)),zc 27 22,zf 28 7 27,zp (.store 2 (.t 28) (.t 24))] [[],[],[],[9],[],[],[],[],[],[]])),[]⟩
theorem za33:cN Tryz.prog 33=some c33:=by kernel_rfl
def c34:AFn:=⟨89,zq [zo 2 (.new [zU 0,.str [],zU 0,.str [],zI 0,zN,zN,zN,zI 0])] (zq [zm 4 0,zc 5 4,zf 6 1 5,zf 7 3 6,zl 8 7,zo 9 (.build [zU 0,.str [],zU 0,.str [],zI 0,zN,zN,zN,zI 0] [(8,1,.t 8)]),zo 3 (.new [zU 0,.str [],zU 0,.str [],zI 0,zN,zN,zN,zI 0]),zp (.store 9 (.t 3) (.t 9))] (zr [zm 10 0,zx 11 72 [.t 10],zo 12 (.un .not (.t 11))] 12 (zq [zt 13 9 3,zp (.store 9 (.t 2) (.t 13))] .ret) .skip (.seq (.block 0 (zq [zm 17 0,zx 18 73 [.t 17,.c (.str [108,101,116])],zm 19 18,zg 20 (.mv (.t 0)) 19 false,zg 21 (.call 73 [.t 20,.c (.str [115,101,116])]) 19 false,zo 22 (.pick (.t 19) (.c (.bool true)) (.t 21)),zm 16 22] (.cond (.t 16) (zq [zf 23 0 3,zp (.store 1 (.t 23) (zu 1))] (zr [zm 24 0,zx 25 73 [.t 24,.c (.str [115,101,116])]] 25 (.reg [zf 26 0 3,zp (.store 1 (.t 26) (zu 2))]) .skip (zq [zm 27 0,zx 28 74 [.t 27]] (zq [zm 29 0,zx 30 75 [.t 29],zf 31 1 3,zs 31 30] (zq [zm 32 0,zx 33 76 [.t 32,.c (.str [61])]] (zq [zm 34 0,zx 35 77 [.t 34],zf 36 2 3,zp (.store 4 (.t 36) (.t 35))] (.reg [zm 37 0,zx 38 76 [.t 37,.c (.str [59])]]))))))) (zq [zm 40 0,zx 41 73 [.t 40,.c (.str [105,102])],zm 39 41] (.cond (.t 39) (zq [zm 42 0,zx 43 74 [.t 42]] (zq [zf 44 0 3,zp (.store 1 (.t 44) (zu 3))] (zq [zm 45 0,zx 46 78 [.t 45],zf 47 2 3,zp (.store 4 (.t 47) (.t 46))] (zq [zm 48 0,zx 49 79 [.t 48],zf 50 6 3,zs 50 49] (zq [zm 51 0,zx 52 73 [.t 51,.c (.str [101,108,115,101])]] (.cond (.t 52) (zq [zm 53 0,zx 54 74 [.t 53]] (.reg [zm 55 0,zx 56 79 [.t 55],zf 57 7 3,zs 57 56])) .skip)))))) (zq [zm 59 0,zx 60 73 [.t 59,.c (.str [119,104,105,108,101])],zm 58 60] (.cond (.t 58) (zq [zm 61 0,zx 62 74 [.t 61]] (zq [zf 63 0 3,zp (.store 1 (.t 63) (zu 4))] (zq [zm 64 0,zx 65 78 [.t 64],zf 66 2 3,zp (.store 4 (.t 66) (.t 65))] (.reg [zm 67 0,zx 68 79 [.t 67],zf 69 6 3,zs 69 68])))) (zq [zm 71 0,zx 72 73 [.t 71,.c (.str [114,101,116,117,114,110])],zm 70 72] (.cond (.t 70) (zq [zm 73 0,zx 74 74 [.t 73]] (zq [zf 75 0 3,zp (.store 1 (.t 75) (zu 5))] (zq [zm 76 0,zx 77 77 [.t 76],zf 78 2 3,zp (.store 4 (.t 78) (.t 77))] (.reg [zm 79 0,zx 80 76 [.t 79,.c (.str [59])]])))) (.reg [zm 14 0,zx 15 80 [.t 14,zi 101]])))))))))) (zq [zm 81 0,zc 82 81,zf 83 9 82,zl 84 83,zk 85 .sub 84 1,zc 86 81,zf 87 9 86,zs 87 85] (zq [zt 88 9 3,zp (.store 9 (.t 2) (.t 88))] .ret))))),[.cell true 9 2]⟩
theorem za34:cN Tryz.prog 34=some c34:=by kernel_rfl
def c72:AFn:=⟨23,zq [zo 2 (.mv (.c (.bool false)))] (zr [zm 3 0,zc 4 3,zf 5 9 4,zl 6 5,zk 7 .geq 6 200] 7 (zq [zm 8 0,zx 9 80 [.t 8,zi 102]] (zq [zo 2 (.mv (.c (.bool false)))] .ret)) .skip (zq [zm 10 0,zc 11 10,zf 12 9 11,zl 13 12,zk 14 .add 13 1,zc 15 10,zf 16 9 15,zs 16 14] (zq [zm 17 0,zc 18 17,zf 19 7 18,zf 20 0 19,zl 21 20,zk 22 .eql 21 0,zm 2 22] .ret))),[.t 2]⟩
theorem za72:cN Tryz.prog 72=some c72:=by kernel_rfl
def c80:AFn:=⟨24,zq [zm 4 0,zc 5 4,zf 6 7 5,zf 7 0 6,zl 8 7,zk 9 .eql 8 0] (.cond (.t 9) (zq [zm 10 0,zm 11 1,zm 12 0,zc 13 12,zf 14 1 13,zf 15 3 14,zl 16 15,zo 17 (.build [zI 0,zI 0] [(0,1,.t 11),(1,1,.t 16)]),zc 18 10,zf 19 7 18,zp (.store 2 (.t 19) (.t 17))] (.reg [zm 20 0,zo 21 (.build [zU 0,.str [],zI 0,zI 0,zI 0,zI 0] []),zc 22 20,zf 23 1 22,zp (.store 6 (.t 23) (.t 21))])) .skip),[]⟩
theorem za80:cN Tryz.prog 80=some c80:=by kernel_rfl
def c73:AFn:=⟨28,zq [zo 4 (.mv (.c (.bool false)))] (zq [zm 5 0,zc 6 5,zf 7 1 6,zf 8 0 7,zl 9 8,zo 10 (.bin .eql (.t 9) (zu 4)),zm 11 10,zg 12 (.mv (.t 0)) 11 false,zg 13 (.nilChk (.t 12)) 11 false,zg 14 (.fieldA 1 (.t 13)) 11 false,zg 15 (.fieldA 0 (.t 14)) 11 false,zg 16 (.load false 1 (.t 15)) 11 false,zg 17 (.bin .eql (.t 16) (zu 3)) 11 false,zo 18 (.pick (.t 11) (.c (.bool true)) (.t 17)),zm 19 18,zg 20 (.mv (.t 0)) 19 true,zg 21 (.nilChk (.t 20)) 19 true,zg 22 (.fieldA 1 (.t 21)) 19 true,zg 23 (.fieldA 1 (.t 22)) 19 true,zg 24 (.load false 1 (.t 23)) 19 true,zg 25 (.mv (.t 1)) 19 true,zg 26 (.bin .eql (.t 24) (.t 25)) 19 true,zo 27 (.pick (.t 19) (.t 26) (.c (.bool false))),zm 4 27] .ret),[.t 4]⟩
theorem za73:cN Tryz.prog 73=some c73:=by kernel_rfl
def c74:AFn:=⟨9,.reg [zm 2 0,zm 3 0,zc 4 3,zf 5 1 4,zf 6 5 5,zl 7 6,zx 8 33 [.t 2,.t 7]],[]⟩
theorem za74:cN Tryz.prog 74=some c74:=by kernel_rfl
def c75:AFn:=⟨20,zq [zo 2 (.mv (.c (.str [])))] (zq [zm 4 0,zc 5 4,zf 6 1 5,zf 7 1 6,zl 8 7,zm 3 8] (zr [zm 9 0,zc 10 9,zf 11 1 10,zf 12 0 11,zl 13 12,zo 14 (.bin .neq (.t 13) (zu 2))] 14 (zq [zm 15 0,zx 16 80 [.t 15,zi 101]] (zq [zo 2 (.mv (.c (.str [])))] .ret)) .skip (zq [zm 17 0,zx 18 74 [.t 17]] (zq [zm 19 3,zm 2 19] .ret)))),[.t 2]⟩
theorem za75:cN Tryz.prog 75=some c75:=by kernel_rfl
def c76:AFn:=⟨12,zr [zm 4 0,zm 5 1,zx 6 73 [.t 4,.t 5],zo 7 (.un .not (.t 6))] 7 (zq [zm 8 0,zx 9 80 [.t 8,zi 101]] .ret) .skip (.reg [zm 10 0,zx 11 74 [.t 10]]),[]⟩
theorem za76:cN Tryz.prog 76=some c76:=by kernel_rfl
def c77:AFn:=⟨15,zq [zo 2 (.new [zU 0,.str [],zI 0,zN])] (zq [zm 4 0,zx 5 115 [.t 4],zo 3 (.new [zU 0,.str [],zI 0,zN]),zp (.store 4 (.t 3) (.t 5))] (.seq (.block 0 (.loop (zr [zm 6 0,zx 7 73 [.t 6,.c (.str [124,124])]] 7 .skip (.exit 0) (.block 1 (zq [zm 8 0,zx 9 74 [.t 8]] (.draw [zt 10 4 3,zm 11 0,zx 12 115 [.t 11],zx 13 116 [.c (.str [124,124]),.t 10,.t 12],zp (.store 4 (.t 3) (.t 13))] [[3],[],[],[],[]])))))) (zq [zt 14 4 3,zp (.store 4 (.t 2) (.t 14))] .ret))),[.cell true 4 2]⟩
theorem za77:cN Tryz.prog 77=some c77:=by kernel_rfl
def c115:AFn:=⟨15,zq [zo 2 (.new [zU 0,.str [],zI 0,zN])] (zq [zm 4 0,zx 5 161 [.t 4],zo 3 (.new [zU 0,.str [],zI 0,zN]),zp (.store 4 (.t 3) (.t 5))] (.seq (.block 0 (.loop (zr [zm 6 0,zx 7 73 [.t 6,.c (.str [38,38])]] 7 .skip (.exit 0) (.block 1 (zq [zm 8 0,zx 9 74 [.t 8]] (.draw [zt 10 4 3,zm 11 0,zx 12 161 [.t 11],zx 13 116 [.c (.str [38,38]),.t 10,.t 12],zp (.store 4 (.t 3) (.t 13))] [[3],[],[],[],[]])))))) (zq [zt 14 4 3,zp (.store 4 (.t 2) (.t 14))] .ret))),[.cell true 4 2]⟩
theorem za115:cN Tryz.prog 115=some c115:=by kernel_rfl
def c161:AFn:=⟨42,zq [zo 2 (.new [zU 0,.str [],zI 0,zN])] (zq [zm 5 0,zx 6 185 [.t 5],zo 3 (.new [zU 0,.str [],zI 0,zN]),zp (.store 4 (.t 3) (.t 6))] (zr [zm 7 0,zx 8 73 [.t 7,.c (.str [61,61])],zm 9 8,zg 10 (.mv (.t 0)) 9 false,zg 11 (.call 73 [.t 10,.c (.str [33,61])]) 9 false,zo 12 (.pick (.t 9) (.c (.bool true)) (.t 11)),zm 13 12,zg 14 (.mv (.t 0)) 13 false,zg 15 (.call 73 [.t 14,.c (.str [60,61])]) 13 false,zo 16 (.pick (.t 13) (.c (.bool true)) (.t 15)),zm 17 16,zg 18 (.mv (.t 0)) 17 false,zg 19 (.call 73 [.t 18,.c (.str [62,61])]) 17 false,zo 20 (.pick (.t 17) (.c (.bool true)) (.t 19)),zm 21 20,zg 22 (.mv (.t 0)) 21 false,zg 23 (.call 73 [.t 22,.c (.str [60])]) 21 false,zo 24 (.pick (.t 21) (.c (.bool true)) (.t 23)),zm 25 24,zg 26 (.mv (.t 0)) 25 false,zg 27 (.call 73 [.t 26,.c (.str [62])]) 25 false,zo 28 (.pick (.t 25) (.c (.bool true)) (.t 27))] 28 (zq [zm 29 0,zc 30 29,zf 31 1 30,zf 32 1 31,zl 33 32,zm 4 33] (zq [zm 34 0,zx 35 74 [.t 34]] (.draw [zm 36 4,zt 37 4 3,zm 38 0,zx 39 185 [.t 38],zx 40 116 [.t 36,.t 37,.t 39],zp (.store 4 (.t 3) (.t 40))] [[],[4],[],[],[],[]]))) .skip (zq [zt 41 4 3,zp (.store 4 (.t 2) (.t 41))] .ret))),[.cell true 4 2]⟩
theorem za161:cN Tryz.prog 161=some c161:=by kernel_rfl
def c185:AFn:=⟨26,zq [zo 2 (.new [zU 0,.str [],zI 0,zN])] (zq [zm 5 0,zx 6 204 [.t 5],zo 3 (.new [zU 0,.str [],zI 0,zN]),zp (.store 4 (.t 3) (.t 6))] (.seq (.block 0 (.loop (zr [zm 7 0,zx 8 73 [.t 7,.c (.str [43])],zm 9 8,zg 10 (.mv (.t 0)) 9 false,zg 11 (.call 73 [.t 10,.c (.str [45])]) 9 false,zo 12 (.pick (.t 9) (.c (.bool true)) (.t 11))] 12 .skip (.exit 0) (.block 1 (zq [zm 13 0,zc 14 13,zf 15 1 14,zf 16 1 15,zl 17 16,zm 4 17] (zq [zm 18 0,zx 19 74 [.t 18]] (.draw [zm 20 4,zt 21 4 3,zm 22 0,zx 23 204 [.t 22],zx 24 116 [.t 20,.t 21,.t 23],zp (.store 4 (.t 3) (.t 24))] [[],[4],[],[],[],[]]))))))) (zq [zt 25 4 3,zp (.store 4 (.t 2) (.t 25))] .ret))),[.cell true 4 2]⟩
theorem za185:cN Tryz.prog 185=some c185:=by kernel_rfl
def c204:AFn:=⟨26,zq [zo 2 (.new [zU 0,.str [],zI 0,zN])] (zq [zm 5 0,zx 6 210 [.t 5],zo 3 (.new [zU 0,.str [],zI 0,zN]),zp (.store 4 (.t 3) (.t 6))] (.seq (.block 0 (.loop (zr [zm 7 0,zx 8 73 [.t 7,.c (.str [42])],zm 9 8,zg 10 (.mv (.t 0)) 9 false,zg 11 (.call 73 [.t 10,.c (.str [47])]) 9 false,zo 12 (.pick (.t 9) (.c (.bool true)) (.t 11))] 12 .skip (.exit 0) (.block 1 (zq [zm 13 0,zc 14 13,zf 15 1 14,zf 16 1 15,zl 17 16,zm 4 17] (zq [zm 18 0,zx 19 74 [.t 18]] (.draw [zm 20 4,zt 21 4 3,zm 22 0,zx 23 210 [.t 22],zx 24 116 [.t 20,.t 21,.t 23],zp (.store 4 (.t 3) (.t 24))] [[],[4],[],[],[],[]]))))))) (zq [zt 25 4 3,zp (.store 4 (.t 2) (.t 25))] .ret))),[.cell true 4 2]⟩
theorem za204:cN Tryz.prog 204=some c204:=by kernel_rfl
def c210:AFn:=⟨38,zq [zo 2 (.new [zU 0,.str [],zI 0,zN])] (zr [zm 5 0,zx 6 72 [.t 5],zo 7 (.un .not (.t 6))] 7 (zq [zo 8 (.build [zU 0,.str [],zI 0,zN] []),zp (.store 4 (.t 2) (.t 8))] .ret) .skip (zq [zo 9 (.build [zU 0,.str [],zI 0,zN] []),zo 3 (.new [zU 0,.str [],zI 0,zN]),zp (.store 4 (.t 3) (.t 9))] (zr [zm 10 0,zx 11 73 [.t 10,.c (.str [45])],zm 12 11,zg 13 (.mv (.t 0)) 12 false,zg 14 (.call 73 [.t 13,.c (.str [33])]) 12 false,zo 15 (.pick (.t 12) (.c (.bool true)) (.t 14))] 15 (zq [zm 16 0,zc 17 16,zf 18 1 17,zf 19 1 18,zl 20 19,zm 4 20] (zq [zm 21 0,zx 22 74 [.t 21]] (.reg [zm 23 4,zm 24 0,zx 25 210 [.t 24],zo 26 (.buildSl 1 [zU 0,.str [],zI 0,zN] [(0,4,.t 25)]),zo 27 (.build [zU 0,.str [],zI 0,zN] [(0,1,zu 3),(1,1,.t 23),(3,1,.t 26)]),zp (.store 4 (.t 3) (.t 27))]))) (.reg [zm 28 0,zx 29 211 [.t 28],zp (.store 4 (.t 3) (.t 29))]) (zq [zm 30 0,zc 31 30,zf 32 9 31,zl 33 32,zk 34 .sub 33 1,zc 35 30,zf 36 9 35,zs 36 34] (zq [zt 37 4 3,zp (.store 4 (.t 2) (.t 37))] .ret))))),[.cell true 4 2]⟩
theorem za210:cN Tryz.prog 210=some c210:=by kernel_rfl
def c211:AFn:=⟨70,zq [zo 2 (.new [zU 0,.str [],zI 0,zN])] (zq [zm 5 0,zc 6 5,zf 7 1 6,zt 8 6 7,zo 3 (.new [zU 0,.str [],zI 0,zI 0,zI 0,zI 0]),zp (.store 6 (.t 3) (.t 8))] (.seq (.block 0 (zq [zf 10 0 3,zl 11 10,zo 12 (.bin .eql (.t 11) (zu 1)),zm 9 12] (.cond (.t 9) (zq [zm 13 0,zx 14 74 [.t 13]] (zq [zf 15 2 3,zl 16 15,zo 17 (.build [zU 0,.str [],zI 0,zN] [(0,1,zu 1),(2,1,.t 16)]),zp (.store 4 (.t 2) (.t 17))] .ret)) (zq [zf 19 0 3,zl 20 19,zo 21 (.bin .eql (.t 20) (zu 2)),zm 18 21] (.cond (.t 18) (zq [zm 22 0,zx 23 74 [.t 22]] (zr [zm 24 0,zx 25 73 [.t 24,.c (.str [40])],zo 26 (.un .not (.t 25))] 26 (zq [zf 27 1 3,zl 28 27,zo 29 (.build [zU 0,.str [],zI 0,zN] [(0,1,zu 2),(1,1,.t 28)]),zp (.store 4 (.t 2) (.t 29))] .ret) .skip (zq [zm 30 0,zx 31 74 [.t 30]] (zq [zf 32 1 3,zl 33 32,zo 34 (.build [zU 0,.str [],zI 0,zN] [(0,1,zu 4),(1,1,.t 33)]),zo 4 (.new [zU 0,.str [],zI 0,zN]),zp (.store 4 (.t 4) (.t 34))] (.seq (.block 1 (.loop (zr [zm 35 0,zc 36 35,zf 37 7 36,zf 38 0 37,zl 39 38,zk 40 .eql 39 0,zm 41 40,zg 42 (.mv (.t 0)) 41 true,zg 43 (.call 73 [.t 42,.c (.str [41])]) 41 true,zg 44 (.un .not (.t 43)) 41 true,zo 45 (.pick (.t 41) (.t 44) (.c (.bool false)))] 45 .skip (.exit 1) (.block 2 (zr [zf 46 3 4,zl 47 46,zh 48 47,zk 49 .gtr 48 0] 49 (.reg [zm 50 0,zx 51 76 [.t 50,.c (.str [44])]]) .skip (.draw [zf 52 3 4,zl 53 52,zm 54 0,zx 55 77 [.t 54],zo 56 (.buildSl 1 [zU 0,.str [],zI 0,zN] [(0,4,.t 55)]),zo 57 (.append 4 56 (.t 53) (.t 56)),zf 58 3 4,zs 58 57] [[],[4,5],[],[],[],[],[],[]])))))) (zq [zm 59 0,zx 60 76 [.t 59,.c (.str [41])]] (zq [zt 61 4 4,zp (.store 4 (.t 2) (.t 61))] .ret))))))) (zq [zm 63 0,zx 64 73 [.t 63,.c (.str [40])],zm 62 64] (.cond (.t 62) (zq [zm 65 0,zx 66 78 [.t 65],zp (.store 4 (.t 2) (.t 66))] .ret) .skip))))))) (zq [zm 67 0,zx 68 80 [.t 67,zi 101]] (zq [zo 69 (.build [zU 0,.str [],zI 0,zN] []),zp (.store 4 (.t 2) (.t 69))] .ret)))),[.cell true 4 2]⟩
theorem za211:cN Tryz.prog 211=some c211:=by kernel_rfl
def c78:AFn:=⟨11,zq [zo 2 (.new [zU 0,.str [],zI 0,zN])] (zq [zm 4 0,zx 5 76 [.t 4,.c (.str [40])]] (zq [zm 6 0,zx 7 77 [.t 6],zo 3 (.new [zU 0,.str [],zI 0,zN]),zp (.store 4 (.t 3) (.t 7))] (zq [zm 8 0,zx 9 76 [.t 8,.c (.str [41])]] (zq [zt 10 4 3,zp (.store 4 (.t 2) (.t 10))] .ret)))),[.cell true 4 2]⟩
theorem za78:cN Tryz.prog 78=some c78:=by kernel_rfl
def c116:AFn:=⟨12,zq [zo 4 (.box (.t 1)),zo 5 (.box (.t 2)),zo 6 (.new [zU 0,.str [],zI 0,zN])] (zq [zm 7 0,zt 8 4 4,zt 9 4 5,zo 10 (.buildSl 2 [zU 0,.str [],zI 0,zN] [(0,4,.t 8),(4,4,.t 9)]),zo 11 (.build [zU 0,.str [],zI 0,zN] [(0,1,zu 3),(1,1,.t 7),(3,1,.t 10)]),zp (.store 4 (.t 6) (.t 11))] .ret),[.cell true 4 6]⟩
theorem za116:cN Tryz.prog 116=some c116:=by kernel_rfl
def c79:AFn:=⟨25,zq [zo 2 (.mv zn)] (zq [zo 3 (.mv zn)] (zq [zm 4 0,zx 5 76 [.t 4,.c (.str [123])]] (.seq (.block 0 (.loop (zr [zm 6 0,zc 7 6,zf 8 7 7,zf 9 0 8,zl 10 9,zk 11 .eql 10 0,zm 12 11,zg 13 (.mv (.t 0)) 12 true,zg 14 (.call 73 [.t 13,.c (.str [125])]) 12 true,zg 15 (.un .not (.t 14)) 12 true,zo 16 (.pick (.t 12) (.t 15) (.c (.bool false)))] 16 .skip (.exit 0) (.block 1 (.reg [zm 17 3,zm 18 0,zx 19 34 [.t 18],zo 20 (.buildSl 1 [zU 0,.str [],zU 0,.str [],zI 0,zN,zN,zN,zI 0] [(0,9,.t 19)]),zo 21 (.append 9 136 (.t 17) (.t 20)),zm 3 21]))))) (zq [zm 22 0,zx 23 76 [.t 22,.c (.str [125])]] (zq [zm 24 3,zm 2 24] .ret))))),[.t 2]⟩
theorem za79:cN Tryz.prog 79=some c79:=by kernel_rfl
def c35:AFn:=⟨16,zq [zo 2 (.mv (.c (.bool false)))] (zq [zm 6 0,zx 7 81 [.t 6,zi 41],zm 5 7,ze 8 0 5,ze 9 1 5,zm 3 8,zm 4 9] (zq [zm 10 3,zk 11 .leq 10 1000,zm 12 11,zg 13 (.mv (.t 4)) 12 true,zg 14 (.bin .leq (.t 13) (zi 40)) 12 true,zo 15 (.pick (.t 12) (.t 14) (.c (.bool false))),zm 2 15] .ret)),[.t 2]⟩
theorem za35:cN Tryz.prog 35=some c35:=by kernel_rfl
def c81:AFn:=⟨80,zq [zo 4 (.mv (zi 0)),zo 5 (.mv (zi 0))] (zr [zm 11 0,zh 12 11,zk 13 .eql 12 0,zm 14 13,zg 15 (.mv (.t 1)) 14 false,zg 16 (.bin .lss (.t 15) (zi 1)) 14 false,zo 17 (.pick (.t 14) (.c (.bool true)) (.t 16))] 17 (zq [zo 4 (.mv (zi 0)),zo 5 (.mv (zi 0))] .ret) .skip (zq [zm 18 0,zh 19 18,zm 6 19,zo 7 (.mv (zi 0))] (.seq (zq [zo 8 (.mv (zi 0))] (.block 0 (.loop (zr [zm 20 8,zm 21 0,zh 22 21,zb 23 .lss 20 22] 23 .skip (.exit 0) (.seq (.block 1 (zq [zm 27 0,zm 28 8,zo 29 (.idxA 9 (.t 27) (.t 28)),zf 30 2 29,zt 31 4 30,zm 32 1,zk 33 .sub 32 1,zx 34 117 [.t 31,.t 33],zm 26 34,ze 35 0 26,ze 36 1 26,zm 9 35,zm 10 36] (zq [zm 37 6,zm 38 9,zb 39 .add 37 38,zm 40 7,zm 41 10,zo 42 (.pf (.mm true) [.t 40,.t 41]),zm 6 39,zm 7 42] (zq [zm 44 0,zm 45 8,zo 46 (.idxA 9 (.t 44) (.t 45)),zf 47 6 46,zl 48 47,zm 49 1,zk 50 .sub 49 1,zx 51 81 [.t 48,.t 50],zm 43 51,ze 52 0 43,ze 53 1 43,zm 9 52,zm 10 53] (zq [zm 54 6,zm 55 9,zb 56 .add 54 55,zm 57 7,zm 58 10,zo 59 (.pf (.mm true) [.t 57,.t 58]),zm 6 56,zm 7 59] (zq [zm 61 0,zm 62 8,zo 63 (.idxA 9 (.t 61) (.t 62)),zf 64 7 63,zl 65 64,zm 66 1,zk 67 .sub 66 1,zx 68 81 [.t 65,.t 67],zm 60 68,ze 69 0 60,ze 70 1 60,zm 9 69,zm 10 70] (.reg [zm 71 6,zm 72 9,zb 73 .add 71 72,zm 74 7,zm 75 10,zo 76 (.pf (.mm true) [.t 74,.t 75]),zm 6 73,zm 7 76]))))))) (.reg [zm 24 8,zk 25 .add 24 1,zm 8 25])))))) (zq [zm 77 6,zm 78 7,zk 79 .add 78 1,zm 4 77,zm 5 79] .ret)))),[.t 4,.t 5]⟩
theorem za81:cN Tryz.prog 81=some c81:=by kernel_rfl
def c117:AFn:=⟨40,zq [zo 2 (.box (.t 0)),zo 4 (.mv (zi 0)),zo 5 (.mv (zi 0))] (zr [zm 11 1,zk 12 .lss 11 1] 12 (zq [zo 4 (.mv (zi 0)),zo 5 (.mv (zi 0))] .ret) .skip (zq [zo 6 (.mv (zi 1)),zo 7 (.mv (zi 0))] (.seq (zq [zo 8 (.mv (zi 0))] (.block 0 (.loop (zr [zm 13 8,zf 14 3 2,zl 15 14,zh 16 15,zb 17 .lss 13 16] 17 .skip (.exit 0) (.seq (.block 1 (zq [zf 21 3 2,zl 22 21,zm 23 8,zo 24 (.idxA 4 (.t 22) (.t 23)),zt 25 4 24,zm 26 1,zk 27 .sub 26 1,zx 28 117 [.t 25,.t 27],zm 20 28,ze 29 0 20,ze 30 1 20,zm 9 29,zm 10 30] (.reg [zm 31 6,zm 32 9,zb 33 .add 31 32,zm 34 7,zm 35 10,zo 36 (.pf (.mm true) [.t 34,.t 35]),zm 6 33,zm 7 36]))) (.reg [zm 18 8,zk 19 .add 18 1,zm 8 19])))))) (zq [zm 37 6,zm 38 7,zk 39 .add 38 1,zm 4 37,zm 5 39] .ret)))),[.t 4,.t 5]⟩
theorem za117:cN Tryz.prog 117=some c117:=by kernel_rfl
end
open Go.Abs Go.Abs.S
abbrev W0:Wd:=⟨0,[],0,0,0,0⟩
def rObj(s:Bs)(w:Wd)(e l d:Int):List AVal:=.str s::(wdL w.k w.S w.n w.line w.at_ w.en++[.int .i64 e,.int .i64 l,.int .i64 d])
def Sta(rb:Nat)(s:Bs)(H:AHeap)(o:Except Flt Wd)(d:Nat):Prop:=match o with
 | .ok w=>Row H rb (rObj s w 0 0 d)
 | .error e=>Row H rb (rObj s W0 e.1 e.2 d)∧e.1≠0
theorem Sta.same{rb:Nat}{s:Bs}{H H':AHeap}{o:Except Flt Wd}{d:Nat}(h:Sta rb s H o d)(e:H'.get rb=H.get rb):Sta rb s H' o d:=by
 cases o with
 | ok w=>exact Row.same h e
 | error f=>exact⟨Row.same h.1 e,h.2⟩
def readO(s:Bs)(o:Except Flt Wd)(p:Nat):Except Flt Wd:=match o with
 | .ok _=>nextW s p
 | .error e=>.error e
def takeO(s:Bs)(o:Except Flt Wd):Except Flt Wd:=match o with
 | .ok w=>stepW s w
 | .error e=>.error e
def failO(o:Except Flt Wd)(c:Nat):Except Flt Wd:=match o with
 | .ok w=>.error (c,w.line)
 | .error e=>.error e
def isB(w:Wd)(t:Bs):Bool:=(Nat.beq w.k 4||Nat.beq w.k 3)&&decide (w.S=t)
def isO(o:Except Flt Wd)(t:Bs):Bool:=match o with
 | .ok w=>isB w t
 | .error _=>false
def mustO(s:Bs)(o:Except Flt Wd)(t:Bs):Except Flt Wd:=if isO o t then takeO s o else failO o 101
def oW:Except Flt Wd→Wd
 | .ok w=>w
 | .error _=>W0
theorem Sta.cells{rb:Nat}{s:Bs}{H:AHeap}{o:Except Flt Wd}{d:Nat}(h:Sta rb s H o d):∃e l:Int,Row H rb (rObj s (oW o) e l d)∧(e=0↔∃w,o=.ok w):=by
 cases o with
 | ok w=>exact⟨0,0,h,by simp⟩
 | error f=>exact⟨f.1,f.2,h.1,by have:=h.2; simp; omega⟩
theorem rread_spec{rb:Nat}{s:Bs}{H:AHeap}{o:Except Flt Wd}{d:Nat}(h:Sta rb s H o d)(hrb:rb<H.next){p:Nat}(hp:p≤1000000) :
  ACalls Tryz.prog natT 33 [cellR rb 10 0,.int .i64 (p:Int)] H fun _ H'=>Sta rb s H' (readO s o p) d∧Fp rb H H':=by
 refine acalls_ofN rfl za33 rfl ?_
 cases o with
 | error e=>
  obtain⟨hr,he⟩:=h
  have l7:oLoad false 1 H (cellR rb 10 7)=some (.int .i64 (e.1:Int)):=row_load hr rfl rfl
  have he':¬(e.1:Int)=0:=om
  simp only[c33,sA,sB,seval,nil_cell,fldA,fld0,l7,he']
  exact⟨[],rfl,⟨hr,he⟩,Fp.refl _ _⟩
 | ok w=>
  have hr:Row H rb (rObj s w 0 0 d):=h
  have l7:oLoad false 1 H (cellR rb 10 7)=some (.int .i64 0):=row_load hr rfl rfl
  have l0:oLoad false 1 H (cellR rb 10 0)=some (.str s):=row_load hr rfl rfl
  simp only[c33,sA,sB,seval,nil_cell,fldA,fld0,l7,l0]
  refine (rnext_spec nwoT (s:=s) (p:=(p:Int)) om om).mono ?_
  rintro _ H1 ⟨rfl,E1⟩
  have e1:=E1.next
  have r1:=hr.same (E1.old rb hrb)
  obtain⟨H2,m2,r2,n2,k2⟩:=row_newL H1 [.int .u8 0,.str [],.int .i64 0,.int .i64 0,.int .i64 0,.int .i64 0] (n:=6) rfl
  obtain⟨H3,m3,r3,n3,k3⟩:=row_newL H2 [.int .i64 0,.int .i64 0] (n:=2) rfl
  have key:∀(w':Wd) (f:Flt),nextA s (p:Int)=pairA (wdL w'.k w'.S w'.n w'.line w'.at_ w'.en) (flL f.1 f.2)→Sta rb s=Sta rb s→∃H4 H5 H6 H7,oStore 6 H3 (cellR H1.next 6 0) (.agg (wdL w'.k w'.S w'.n w'.line w'.at_ w'.en))=some H4∧oStore 2 H4 (cellR H2.next 2 0) (.agg (flL f.1 f.2))=some H5∧oLoad true 6 H5 (cellR H1.next 6 0)=some (.agg (wdL w'.k w'.S w'.n w'.line w'.at_ w'.en))∧oLoad true 2 H5 (cellR H2.next 2 0)=some (.agg (flL f.1 f.2))∧oStore 6 H5 (cellR rb 10 1) (.agg (wdL w'.k w'.S w'.n w'.line w'.at_ w'.en))=some H6∧oStore 2 H6 (cellR rb 10 7) (.agg (flL f.1 f.2))=some H7∧oLoad true 2 H7 (cellR H2.next 2 0)=some (.agg (flL f.1 f.2))∧oLoad true 2 H6 (cellR H2.next 2 0)=some (.agg (flL f.1 f.2))∧Row H7 rb (rObj s w' f.1 f.2 d)∧Fp rb H H7:=by
   intro w' f hA _
   obtain⟨H4,m4,r4,n4,k4⟩:=row_storeN (H:=H3) (r2.same (k3 _ om)) (n:=6) rfl (xs:=wdL w'.k w'.S w'.n w'.line w'.at_ w'.en) rfl rfl
   obtain⟨H5,m5,r5,n5,k5⟩:=row_storeN (H:=H4) (r3.same (k4 _ om)) (n:=2) rfl (xs:=flL f.1 f.2) rfl rfl
   obtain⟨H6,m6,r6,n6,k6⟩:=row_stK (H:=H5) (r1.same (by rw[k5 _ om,k4 _ om,k3 _ om,k2 _ om])) (n:=10) rfl (i:=1) (k:=6) om (xs:=wdL w'.k w'.S w'.n w'.line w'.at_ w'.en) rfl rfl (l':=rObj s w' 0 0 d) rfl
   obtain⟨H7,m7,r7,n7,k7⟩:=row_stK (H:=H6) r6 (n:=10) rfl (i:=7) (k:=2) om (xs:=flL f.1 f.2) rfl rfl (l':=rObj s w' f.1 f.2 d) rfl
   refine⟨H4,H5,H6,H7,m4,m5,row_loadN (r4.same (k5 _ om)) rfl,row_loadN r5 rfl,m6,m7,row_loadN (r5.same (by rw[k7 _ om,k6 _ om])) rfl,row_loadN (r5.same (k6 _ om)) rfl,r7,om,fun c hc hp=>by rw[k7 c hp,k6 c hp,k5 c om,k4 c om,k3 c om,k2 c om,E1.old c hc]⟩
  have two:∀a b:Int,aeq (.agg [.int .i64 a,.int .i64 b]) (.agg [.int .i64 a,.int .i64 b])=true:=aeq_two
  cases hn:nextW s p with
  | ok w'=>
   obtain⟨H4,H5,H6,H7,m4,m5,l4,l5,m6,m7,l57,l56,r7,F7⟩:=key w' (0,0) (nextA_ok hn) rfl
   rw[nextA_ok hn]
   simp only[pairA,sA,sB,seval,ext_0,ext_1,m2,m3,m4,m5]
   refine aw_drawC rfl ?_
   simp only[sR,sA,sB,seval,l4,l5,nil_cell,fldA,m6,m7]
   simp only[ck_nil',ck_cons,ckP_load,ckP_nil,ck_end,and_true,true_and,List.map_cons,List.map_nil,sA,sB,seval]
   refine⟨⟨_,rfl,fun _=>⟨_,by first | exact l57 | exact l56,two _ _⟩⟩,[],rfl,?_,F7⟩
   show Sta rb s H7 (nextW s p) d
   rw[hn]; exact r7
  | error e=>
   obtain⟨w0,hw0⟩:∃w0,w0=W0:=⟨_,rfl⟩
   have hb:nextA s (p:Int)=pairA (wdL w0.k w0.S w0.n w0.line w0.at_ w0.en) (flL e.1 e.2):=by subst hw0; exact nextA_bad hn
   obtain⟨H4,H5,H6,H7,m4,m5,l4,l5,m6,m7,l57,l56,r7,F7⟩:=key w0 e hb rfl
   rw[hb]
   simp only[pairA,sA,sB,seval,ext_0,ext_1,m2,m3,m4,m5]
   refine aw_drawC rfl ?_
   simp only[sR,sA,sB,seval,l4,l5,nil_cell,fldA,m6,m7]
   simp only[ck_nil',ck_cons,ckP_load,ckP_nil,ck_end,and_true,true_and,List.map_cons,List.map_nil,sA,sB,seval]
   refine⟨⟨_,rfl,fun _=>⟨_,by first | exact l57 | exact l56,two _ _⟩⟩,[],rfl,?_,F7⟩
   show Sta rb s H7 (nextW s p) d
   subst hw0
   rw[hn]; exact⟨r7,nextW_err hn⟩
theorem Sta.en{rb:Nat}{s:Bs}{H:AHeap}{o:Except Flt Wd}{d:Nat}(h:Sta rb s H o d):oLoad false 1 H (cellR rb 10 6)=some (.int .i64 ((oW o).en:Int)):=by
 obtain⟨e,l,hr,_⟩:=h.cells
 exact row_load hr rfl rfl
theorem rtake_spec{rb:Nat}{s:Bs}{H:AHeap}{o:Except Flt Wd}{d:Nat}(h:Sta rb s H o d)(hrb:rb<H.next)(hw:∀w,o=.ok w→w.en≤1000000) :
  ACalls Tryz.prog natT 74 [cellR rb 10 0] H fun _ H'=>Sta rb s H' (takeO s o) d∧Fp rb H H':=by
 refine acalls_ofN rfl za74 rfl ?_
 have l6:=h.en
 have hle:(oW o).en≤1000000:=by
  cases o with
  | ok w=>exact hw w rfl
  | error e=>exact Nat.zero_le _
 simp only[c74,sA,sB,seval,nil_cell,fldA,l6]
 refine (rread_spec h hrb hle).mono ?_
 rintro _ H1 ⟨h1,F1⟩
 simp only[sA,sB,seval]
 refine⟨[],rfl,?_,F1⟩
 cases o with
 | ok w=>exact h1
 | error e=>exact h1
theorem rfail_spec{rb:Nat}{s:Bs}{H:AHeap}{o:Except Flt Wd}{d:Nat}(h:Sta rb s H o d){c:Nat}(hc:c≠0) :
  ACalls Tryz.prog natT 80 [cellR rb 10 0,.int .i64 (c:Int)] H fun _ H'=>Sta rb s H' (failO o c) d∧Fp rb H H'∧H'.next=H.next:=by
 refine acalls_ofN rfl za80 rfl ?_
 cases o with
 | error e=>
  obtain⟨hr,he⟩:=h
  have l7:oLoad false 1 H (cellR rb 10 7)=some (.int .i64 (e.1:Int)):=row_load hr rfl rfl
  have he':¬(e.1:Int)=0:=om
  simp only[c80,sA,sB,seval,nil_cell,fldA,fld0,l7,he']
  exact⟨[],rfl,⟨hr,he⟩,Fp.refl _ _,rfl⟩
 | ok w=>
  have hr:Row H rb (rObj s w 0 0 d):=h
  have l7:oLoad false 1 H (cellR rb 10 7)=some (.int .i64 0):=row_load hr rfl rfl
  have l4:oLoad false 1 H (cellR rb 10 4)=some (.int .i64 (w.line:Int)):=row_load hr rfl rfl
  have bf:aBuild [.int .i64 0,.int .i64 0] [(0,1,.int .i64 (c:Int)),(1,1,.int .i64 (w.line:Int))]=some (.agg (flL c w.line)):=rfl
  have bw:aBuild [.int .u8 0,.str [],.int .i64 0,.int .i64 0,.int .i64 0,.int .i64 0] []=some (.agg (wdL 0 [] 0 0 0 0)):=rfl
  obtain⟨H1,m1,r1,n1,k1⟩:=row_stK hr (n:=10) rfl (i:=7) (k:=2) om (xs:=flL c w.line) rfl rfl (l':=rObj s w c w.line d) rfl
  obtain⟨H2,m2,r2,n2,k2⟩:=row_stK r1 (n:=10) rfl (i:=1) (k:=6) om (xs:=wdL 0 [] 0 0 0 0) rfl rfl (l':=rObj s W0 c w.line d) rfl
  simp only[c80,sA,sB,seval,nil_cell,fldA,fld0,l7,l4,bf,m1,bw,m2]
  exact⟨[],rfl,⟨r2,hc⟩,⟨om,fun b _ hb=>by rw[k2 b hb,k1 b hb]⟩,om⟩
theorem ris_spec{rb:Nat}{s:Bs}{H:AHeap}{o:Except Flt Wd}{d:Nat}(h:Sta rb s H o d)(t:Bs) :
  ACalls Tryz.prog natT 73 [cellR rb 10 0,.str t] H fun u H'=>u=.bool (isO o t)∧H=H':=by
 refine acalls_ofN rfl za73 rfl ?_
 obtain⟨e,l,hr,_⟩:=h.cells
 have l1:oLoad false 1 H (cellR rb 10 1)=some (.int .u8 ((oW o).k:Int)):=row_load hr rfl rfl
 have l2:oLoad false 1 H (cellR rb 10 2)=some (.str (oW o).S):=row_load hr rfl rfl
 have hi:isO o t=isB (oW o) t:=by cases o <;> rfl
 rw[hi]
 generalize oW o=w at *
 by_cases k4:w.k=4
 ·have k4':(w.k:Int)=4:=om
  have e:isB w t=decide (w.S=t):=by simp only[isB,k4]; rfl
  simp only[c73,sA,sB,seval,nil_cell,fldA,fld0,l1,k4',l2,e]
  exact⟨tt,tt⟩
 have k4':¬(w.k:Int)=4:=om
 by_cases k3:w.k=3
 ·have k3':(w.k:Int)=3:=om
  have e:isB w t=decide (w.S=t):=by simp only[isB,k3]; rfl
  simp only[c73,sA,sB,seval,nil_cell,fldA,fld0,l1,k4',k3',l2,e]
  exact⟨tt,tt⟩
 have k3':¬(w.k:Int)=3:=om
 have e:isB w t=false:=by
  simp only[isB,show Nat.beq w.k 4=false by rw[beq_dec]; exact decide_eq_false k4,show Nat.beq w.k 3=false by rw[beq_dec]; exact decide_eq_false k3]; rfl
 simp only[c73,sA,sB,seval,nil_cell,fldA,fld0,l1,k4',k3',e]
 exact⟨tt,tt⟩
theorem rmust_spec{rb:Nat}{s:Bs}{H:AHeap}{o:Except Flt Wd}{d:Nat}(h:Sta rb s H o d)(hrb:rb<H.next)(hw:∀w,o=.ok w→w.en≤1000000)(t:Bs) :
  ACalls Tryz.prog natT 76 [cellR rb 10 0,.str t] H fun _ H'=>Sta rb s H' (mustO s o t) d∧Fp rb H H':=by
 refine acalls_ofN rfl za76 rfl ?_
 simp only[c76,sA,sB,seval]
 refine (ris_spec h t).mono ?_
 rintro _ _ ⟨rfl,rfl⟩
 unfold mustO
 cases hi:isO o t with
 | true=>
  simp only[sA,sB,seval]
  refine (rtake_spec h hrb hw).mono ?_
  rintro _ H1 ⟨h1,F1⟩
  simp only[sA,sB,seval]
  exact⟨[],rfl,h1,F1⟩
 | false=>
  simp only[sA,sB,seval]
  refine (rfail_spec h (c:=101) om).mono ?_
  rintro _ H1 ⟨h1,F1,_⟩
  simp only[sA,sB,seval]
  exact⟨[],rfl,h1,F1⟩
def nameO(s:Bs)(o:Except Flt Wd):Except Flt Wd:=if (oW o).k=2 then takeO s o else failO o 101
theorem rname_spec{rb:Nat}{s:Bs}{H:AHeap}{o:Except Flt Wd}{d:Nat}(h:Sta rb s H o d)(hrb:rb<H.next)(hw:∀w,o=.ok w→w.en≤1000000) :
  ACalls Tryz.prog natT 75 [cellR rb 10 0] H fun u H'=>u=.str (if (oW o).k=2 then (oW o).S else [])∧Sta rb s H' (nameO s o) d∧Fp rb H H':=by
 refine acalls_ofN rfl za75 rfl ?_
 obtain⟨e,l,hr,_⟩:=h.cells
 have l1:oLoad false 1 H (cellR rb 10 1)=some (.int .u8 ((oW o).k:Int)):=row_load hr rfl rfl
 have l2:oLoad false 1 H (cellR rb 10 2)=some (.str (oW o).S):=row_load hr rfl rfl
 unfold nameO
 by_cases k2:(oW o).k=2
 ·have k2':((oW o).k:Int)=2:=om
  rw[if_pos k2]
  simp only[c75,sA,sB,seval,nil_cell,fldA,fld0,l1,l2,k2']
  refine (rtake_spec h hrb hw).mono ?_
  rintro _ H1 ⟨h1,F1⟩
  simp only[sA,sB,seval,if_pos k2]
  exact⟨tt,h1,F1⟩
 ·have k2':¬((oW o).k:Int)=2:=om
  rw[if_neg k2]
  simp only[c75,sA,sB,seval,nil_cell,fldA,fld0,l1,l2,k2']
  refine (rfail_spec h (c:=101) om).mono ?_
  rintro _ H1 ⟨h1,F1,_⟩
  simp only[sA,sB,seval,if_neg k2]
  exact⟨tt,h1,F1⟩
theorem renter_spec{rb:Nat}{s:Bs}{H:AHeap}{o:Except Flt Wd}{d:Nat}(h:Sta rb s H o d)(hd:d≤200) :
  ACalls Tryz.prog natT 72 [cellR rb 10 0] H fun u H'=>(∃b,u=.bool b∧((b=true∧d<200∧(∃w,o=.ok w)∧Sta rb s H' o (d+1))∨(b=false∧∃d',d≤d'∧d'≤200∧((∃w,o=.ok w)→200≤d)∧Sta rb s H' (failO o 102) d')))∧Fp rb H H'∧H'.next=H.next:=by
 refine acalls_ofN rfl za72 rfl ?_
 obtain⟨e,l,hr,he⟩:=h.cells
 have l9:oLoad false 1 H (cellR rb 10 9)=some (.int .i64 (d:Int)):=row_load hr rfl rfl
 by_cases hg:200≤d
 ·have hg':(200:Int)≤(d:Int):=om
  simp only[c72,sA,sB,seval,nil_cell,fldA,l9,hg']
  refine (rfail_spec h (c:=102) om).mono ?_
  rintro _ H1 ⟨h1,F1,n1⟩
  simp only[sA,sB,seval]
  exact⟨⟨false,tt,.inr ⟨tt,d,Nat.le_refl _,hd,fun _=>hg,h1⟩⟩,F1,n1⟩
 have hg':¬(200:Int)≤(d:Int):=om
 have wk:IntKind.i64.wrap ((d:Int)+1)=((d+1:Nat):Int):=w64
 obtain⟨H1,m1,r1,n1,k1⟩:=row_st hr (n:=10) rfl (i:=9) om (x:=.int .i64 ((d+1:Nat):Int)) rfl (l':=rObj s (oW o) e l ((d+1:Nat):Int)) rfl
 have l7:oLoad false 1 H1 (cellR rb 10 7)=some (.int .i64 e):=row_load r1 rfl rfl
 have F1:Fp rb H H1:=⟨om,fun c _ hc=>k1 c hc⟩
 cases o with
 | ok w=>
  have he0:e=0:=he.2 ⟨w,rfl⟩
  subst he0
  have hl:l=0:=by
   have h':Row H rb (rObj s w 0 0 d):=h
   have a1:oLoad false 1 H (cellR rb 10 8)=some (.int .i64 0):=row_load h' rfl rfl
   have a2:oLoad false 1 H (cellR rb 10 8)=some (.int .i64 l):=row_load hr rfl rfl
   rw[a1]at a2; simpa using a2.symm
  subst hl
  simp only[c72,sA,sB,seval,nil_cell,fldA,fld0,l9,hg',wk,m1,l7]
  exact⟨⟨true,tt,.inl ⟨tt,om,⟨w,rfl⟩,r1⟩⟩,F1,n1⟩
 | error f=>
  have hne:e≠0:=fun q=>by obtain⟨w,hw⟩:=he.1 q; simp at hw
  have h':Row H rb (rObj s W0 f.1 f.2 d):=h.1
  have a1:oLoad false 1 H (cellR rb 10 7)=some (.int .i64 (f.1:Int)):=row_load h' rfl rfl
  have a2:oLoad false 1 H (cellR rb 10 7)=some (.int .i64 e):=row_load hr rfl rfl
  have b1:oLoad false 1 H (cellR rb 10 8)=some (.int .i64 (f.2:Int)):=row_load h' rfl rfl
  have b2:oLoad false 1 H (cellR rb 10 8)=some (.int .i64 l):=row_load hr rfl rfl
  have e1:e=(f.1:Int):=by rw[a1]at a2; simpa using a2.symm
  have e2:l=(f.2:Int):=by rw[b1]at b2; simpa using b2.symm
  subst e1 e2
  simp only[c72,sA,sB,seval,nil_cell,fldA,fld0,l9,hg',wk,m1,l7,hne]
  exact⟨⟨false,tt,.inr ⟨tt,d+1,om,om,fun ⟨w,hw⟩=>by simp at hw,r1,h.2⟩⟩,F1,n1⟩
theorem ftwo_spec{H:AHeap}(S:Bs){xs ys:List AVal}(hx:xs.length=4)(hy:ys.length=4)(ox:xs.all AVal.one=true)(oy:ys.all AVal.one=true) :
  ACalls Tryz.prog natT 116 [.str S,.agg xs,.agg ys] H fun u H'=>∃b,u=.agg [.int .u8 3,.str S,.int .i64 0,.slice (some ⟨b,8,0⟩) 2 (.known 2)]∧H.next≤b∧b<H'.next∧Row H' b (xs++ys)∧Ext H.next H H':=by
 refine acalls_ofN rfl za116 rfl ?_
 obtain⟨H1,m1,r1,n1,k1⟩:=row_newL H xs hx
 obtain⟨H2,m2,r2,n2,k2⟩:=row_newL H1 ys hy
 obtain⟨H3,m3,r3,n3,k3⟩:=row_newL H2 [.int .u8 0,.str [],.int .i64 0,.slice none 0 (.known 0)] (n:=4) rfl
 have l1:=row_loadN (r1.same (H':=H3) (by rw[k3 _ om,k2 _ om])) hx
 have l2:=row_loadN (r2.same (H':=H3) (by rw[k3 _ om])) hy
 have bs:=sls4 H3 hx hy
 have rP:Row (H3.push (.cells (xs++ys) 0 false)) H3.next (xs++ys):=row_push _ _
 obtain⟨H4,m4,r4,n4,k4⟩:=row_storeN (H:=H3.push (.cells (xs++ys) 0 false)) (r3.same (get_push_lt om)) (n:=4) rfl (xs:=[.int .u8 3,.str S,.int .i64 0,.slice (some ⟨H3.next,8,0⟩) 2 (.known 2)]) rfl rfl
 rw[push_next]at n4
 have l4:=row_loadN r4 (n:=4) rfl
 simp only[c116,sA,sB,seval,cells_agg,m1,m2,m3,l1,l2,bs,bldOp S (.slice (some ⟨H3.next,8,0⟩) 2 (.known 2)) rfl,m4]
 refine fin_c1 _ _ _ _ (v:=.agg [.int .u8 3,.str S,.int .i64 0,.slice (some ⟨H3.next,8,0⟩) 2 (.known 2)]) (by simp only[sA,sB,seval]; exact l4) ?_
 exact⟨H3.next,rfl,om,om,rP.same (k4 _ om),om,fun c hc=>by rw[k4 c om,get_push_lt om,k3 c om,k2 c om,k1 c om]⟩
open Go.Abs Go.Abs.S
structure Ok4(xs:List AVal):Prop where
 len:xs.length=4
 one:xs.all AVal.one=true
 aeq:aeqs xs xs=true
theorem ok4_z:Ok4 [.int .u8 0,.str [],.int .i64 0,.slice none 0 (.known 0)]:=⟨rfl,rfl,rfl⟩
theorem ok4_op(S:Bs)(b:Nat):Ok4 [.int .u8 3,.str S,.int .i64 0,.slice (some ⟨b,8,0⟩) 2 (.known 2)]:=⟨rfl,one4 _ _ _ rfl,aeqs4 _ _ _ (by simp[aeq])⟩
def DeadE(rb:Nat)(s:Bs)(fn:FuncId):Prop:=∀(H:AHeap) (e:Flt) (d:Nat),Sta rb s H (.error e) d→d≤200→rb<H.next →
  ACalls Tryz.prog natT fn [cellR rb 10 0] H fun u H'=>∃xs d',u=.agg xs∧Ok4 xs∧d≤d'∧d'≤200∧Sta rb s H' (.error e) d'∧Fp rb H H'
theorem dead_unary(rb:Nat)(s:Bs):DeadE rb s 210:=by
 intro H e d hs hd hrb
 refine acalls_ofN rfl za210 rfl ?_
 obtain⟨H1,m1,r1,n1,k1⟩:=row_newL H [.int .u8 0,.str [],.int .i64 0,.slice none 0 (.known 0)] (n:=4) rfl
 have b0:=bld0
 simp only[c210,sA,sB,seval,m1]
 refine (renter_spec (hs.same (k1 rb om)) hd).mono ?_
 rintro _ H2 ⟨⟨b,rfl,⟨rfl,_,⟨w,hw⟩,_⟩ | ⟨rfl,d',h1,h2,_,h3⟩⟩,F2,n2⟩
 ·simp at hw
 obtain⟨H3,m3,r3,n3,k3⟩:=row_storeN (r1.same (F2.old _ om om)) (n:=4) rfl (xs:=[.int .u8 0,.str [],.int .i64 0,.slice none 0 (.known 0)]) rfl rfl
 have l3:=row_loadN r3 (n:=4) rfl
 simp only[sA,sB,seval,b0,m3]
 refine fin_c1 _ _ _ _ (v:=.agg [.int .u8 0,.str [],.int .i64 0,.slice none 0 (.known 0)]) (by simp only[sA,sB,seval]; exact l3) ?_
 exact⟨_,d',rfl,ok4_z,h1,h2,h3.same (k3 rb om),om,fun c hc hp=>by rw[k3 c om,F2.old c om hp,k1 c om]⟩
theorem dead_mul{rb:Nat}{s:Bs}(hb:DeadE rb s 210):DeadE rb s 204:=by
 intro H e d hs hd hrb
 refine acalls_ofN rfl za204 rfl ?_
 obtain⟨H1,m1,r1,n1,k1⟩:=row_newL H [.int .u8 0,.str [],.int .i64 0,.slice none 0 (.known 0)] (n:=4) rfl
 simp only[c204,sA,sB,seval,m1]
 refine (hb H1 e d (hs.same (k1 rb om)) hd om).mono ?_
 rintro _ H2 ⟨xs,d',rfl,x4,h1,h2,h3,F2⟩
 have e2:=F2.next
 obtain⟨H3,m3,r3,n3,k3⟩:=row_newL H2 [.int .u8 0,.str [],.int .i64 0,.slice none 0 (.known 0)] (n:=4) rfl
 obtain⟨H4,m4,r4,n4,k4⟩:=row_storeN r3 (n:=4) rfl x4.len x4.one
 have l4:=row_loadN r4 x4.len
 have k42:∀c,c<H2.next→H4.get c=H2.get c:=fun c hc=>by rw[k4 c om,k3 c om]
 have s4:=h3.same (k42 rb om)
 obtain⟨H5,m5,r5,n5,k5⟩:=row_storeN (H:=H4) (r1.same (by rw[k42 _ om,F2.old _ om om])) (n:=4) rfl x4.len x4.one
 have l5:=row_loadN r5 x4.len
 simp only[sA,sB,seval,m3,m4]
 refine aw_loop (fun m (T:Env) H'=>H4=H'∧T 0=cellR rb 10 0∧T 2=cellR H.next 4 0∧T 3=cellR H2.next 4 0) 0 ⟨rfl,by simp only[sA,sB,seval],by simp only[sA,sB,seval],by simp only[sA,sB,seval]⟩ ?_
 rintro m T _ ⟨rfl,t0,t2,t3⟩
 simp only[sA,sB,seval,t0,t2,t3]
 refine (ris_spec s4 _).mono ?_
 rintro _ _ ⟨rfl,rfl⟩
 simp only[isO,sA,sB,seval,t0]
 refine (ris_spec s4 _).mono ?_
 rintro _ _ ⟨rfl,rfl⟩
 simp only[isO,sA,sB,seval,t0]
 simp only[sA,sB,seval,l4,m5,t2,t3]
 refine fin_c1 _ _ _ _ (v:=.agg xs) (by simp only[sA,sB,seval,t2,t3]; exact l5) ?_
 exact⟨xs,d',rfl,x4,h1,h2,s4.same (k5 rb om),om,fun c hc hp=>by rw[k5 c om,k42 c om,F2.old c om hp,k1 c om]⟩
theorem dead_add{rb:Nat}{s:Bs}(hb:DeadE rb s 204):DeadE rb s 185:=by
 intro H e d hs hd hrb
 refine acalls_ofN rfl za185 rfl ?_
 obtain⟨H1,m1,r1,n1,k1⟩:=row_newL H [.int .u8 0,.str [],.int .i64 0,.slice none 0 (.known 0)] (n:=4) rfl
 simp only[c185,sA,sB,seval,m1]
 refine (hb H1 e d (hs.same (k1 rb om)) hd om).mono ?_
 rintro _ H2 ⟨xs,d',rfl,x4,h1,h2,h3,F2⟩
 have e2:=F2.next
 obtain⟨H3,m3,r3,n3,k3⟩:=row_newL H2 [.int .u8 0,.str [],.int .i64 0,.slice none 0 (.known 0)] (n:=4) rfl
 obtain⟨H4,m4,r4,n4,k4⟩:=row_storeN r3 (n:=4) rfl x4.len x4.one
 have l4:=row_loadN r4 x4.len
 have k42:∀c,c<H2.next→H4.get c=H2.get c:=fun c hc=>by rw[k4 c om,k3 c om]
 have s4:=h3.same (k42 rb om)
 obtain⟨H5,m5,r5,n5,k5⟩:=row_storeN (H:=H4) (r1.same (by rw[k42 _ om,F2.old _ om om])) (n:=4) rfl x4.len x4.one
 have l5:=row_loadN r5 x4.len
 simp only[sA,sB,seval,m3,m4]
 refine aw_loop (fun m (T:Env) H'=>H4=H'∧T 0=cellR rb 10 0∧T 2=cellR H.next 4 0∧T 3=cellR H2.next 4 0) 0 ⟨rfl,by simp only[sA,sB,seval],by simp only[sA,sB,seval],by simp only[sA,sB,seval]⟩ ?_
 rintro m T _ ⟨rfl,t0,t2,t3⟩
 simp only[sA,sB,seval,t0,t2,t3]
 refine (ris_spec s4 _).mono ?_
 rintro _ _ ⟨rfl,rfl⟩
 simp only[isO,sA,sB,seval,t0]
 refine (ris_spec s4 _).mono ?_
 rintro _ _ ⟨rfl,rfl⟩
 simp only[isO,sA,sB,seval,t0]
 simp only[sA,sB,seval,l4,m5,t2,t3]
 refine fin_c1 _ _ _ _ (v:=.agg xs) (by simp only[sA,sB,seval,t2,t3]; exact l5) ?_
 exact⟨xs,d',rfl,x4,h1,h2,s4.same (k5 rb om),om,fun c hc hp=>by rw[k5 c om,k42 c om,F2.old c om hp,k1 c om]⟩
theorem dead_cmp{rb:Nat}{s:Bs}(hb:DeadE rb s 185):DeadE rb s 161:=by
 intro H e d hs hd hrb
 refine acalls_ofN rfl za161 rfl ?_
 obtain⟨H1,m1,r1,n1,k1⟩:=row_newL H [.int .u8 0,.str [],.int .i64 0,.slice none 0 (.known 0)] (n:=4) rfl
 simp only[c161,sA,sB,seval,m1]
 refine (hb H1 e d (hs.same (k1 rb om)) hd om).mono ?_
 rintro _ H2 ⟨xs,d',rfl,x4,h1,h2,h3,F2⟩
 have e2:=F2.next
 obtain⟨H3,m3,r3,n3,k3⟩:=row_newL H2 [.int .u8 0,.str [],.int .i64 0,.slice none 0 (.known 0)] (n:=4) rfl
 obtain⟨H4,m4,r4,n4,k4⟩:=row_storeN r3 (n:=4) rfl x4.len x4.one
 have l4:=row_loadN r4 x4.len
 have k42:∀c,c<H2.next→H4.get c=H2.get c:=fun c hc=>by rw[k4 c om,k3 c om]
 have s4:=h3.same (k42 rb om)
 obtain⟨H5,m5,r5,n5,k5⟩:=row_storeN (H:=H4) (r1.same (by rw[k42 _ om,F2.old _ om om])) (n:=4) rfl x4.len x4.one
 have l5:=row_loadN r5 x4.len
 simp only[sA,sB,seval,m3,m4]
 refine (ris_spec s4 _).mono ?_
 rintro _ _ ⟨rfl,rfl⟩
 simp only[isO,sA,sB,seval]
 refine (ris_spec s4 _).mono ?_
 rintro _ _ ⟨rfl,rfl⟩
 simp only[isO,sA,sB,seval]
 refine (ris_spec s4 _).mono ?_
 rintro _ _ ⟨rfl,rfl⟩
 simp only[isO,sA,sB,seval]
 refine (ris_spec s4 _).mono ?_
 rintro _ _ ⟨rfl,rfl⟩
 simp only[isO,sA,sB,seval]
 refine (ris_spec s4 _).mono ?_
 rintro _ _ ⟨rfl,rfl⟩
 simp only[isO,sA,sB,seval]
 refine (ris_spec s4 _).mono ?_
 rintro _ _ ⟨rfl,rfl⟩
 simp only[isO,sA,sB,seval]
 simp only[sA,sB,seval,l4,m5]
 refine fin_c1 _ _ _ _ (v:=.agg xs) (by simp only[sA,sB,seval]; exact l5) ?_
 exact⟨xs,d',rfl,x4,h1,h2,s4.same (k5 rb om),om,fun c hc hp=>by rw[k5 c om,k42 c om,F2.old c om hp,k1 c om]⟩
theorem dead_and{rb:Nat}{s:Bs}(hb:DeadE rb s 161):DeadE rb s 115:=by
 intro H e d hs hd hrb
 refine acalls_ofN rfl za115 rfl ?_
 obtain⟨H1,m1,r1,n1,k1⟩:=row_newL H [.int .u8 0,.str [],.int .i64 0,.slice none 0 (.known 0)] (n:=4) rfl
 simp only[c115,sA,sB,seval,m1]
 refine (hb H1 e d (hs.same (k1 rb om)) hd om).mono ?_
 rintro _ H2 ⟨xs,d',rfl,x4,h1,h2,h3,F2⟩
 have e2:=F2.next
 obtain⟨H3,m3,r3,n3,k3⟩:=row_newL H2 [.int .u8 0,.str [],.int .i64 0,.slice none 0 (.known 0)] (n:=4) rfl
 obtain⟨H4,m4,r4,n4,k4⟩:=row_storeN r3 (n:=4) rfl x4.len x4.one
 have l4:=row_loadN r4 x4.len
 have k42:∀c,c<H2.next→H4.get c=H2.get c:=fun c hc=>by rw[k4 c om,k3 c om]
 have s4:=h3.same (k42 rb om)
 obtain⟨H5,m5,r5,n5,k5⟩:=row_storeN (H:=H4) (r1.same (by rw[k42 _ om,F2.old _ om om])) (n:=4) rfl x4.len x4.one
 have l5:=row_loadN r5 x4.len
 simp only[sA,sB,seval,m3,m4]
 refine aw_loop (fun m (T:Env) H'=>H4=H'∧T 0=cellR rb 10 0∧T 2=cellR H.next 4 0∧T 3=cellR H2.next 4 0) 0 ⟨rfl,by simp only[sA,sB,seval],by simp only[sA,sB,seval],by simp only[sA,sB,seval]⟩ ?_
 rintro m T _ ⟨rfl,t0,t2,t3⟩
 simp only[sA,sB,seval,t0,t2,t3]
 refine (ris_spec s4 _).mono ?_
 rintro _ _ ⟨rfl,rfl⟩
 simp only[isO,sA,sB,seval,t0]
 simp only[sA,sB,seval,l4,m5,t2,t3]
 refine fin_c1 _ _ _ _ (v:=.agg xs) (by simp only[sA,sB,seval,t2,t3]; exact l5) ?_
 exact⟨xs,d',rfl,x4,h1,h2,s4.same (k5 rb om),om,fun c hc hp=>by rw[k5 c om,k42 c om,F2.old c om hp,k1 c om]⟩
theorem dead_or{rb:Nat}{s:Bs}(hb:DeadE rb s 115):DeadE rb s 77:=by
 intro H e d hs hd hrb
 refine acalls_ofN rfl za77 rfl ?_
 obtain⟨H1,m1,r1,n1,k1⟩:=row_newL H [.int .u8 0,.str [],.int .i64 0,.slice none 0 (.known 0)] (n:=4) rfl
 simp only[c77,sA,sB,seval,m1]
 refine (hb H1 e d (hs.same (k1 rb om)) hd om).mono ?_
 rintro _ H2 ⟨xs,d',rfl,x4,h1,h2,h3,F2⟩
 have e2:=F2.next
 obtain⟨H3,m3,r3,n3,k3⟩:=row_newL H2 [.int .u8 0,.str [],.int .i64 0,.slice none 0 (.known 0)] (n:=4) rfl
 obtain⟨H4,m4,r4,n4,k4⟩:=row_storeN r3 (n:=4) rfl x4.len x4.one
 have l4:=row_loadN r4 x4.len
 have k42:∀c,c<H2.next→H4.get c=H2.get c:=fun c hc=>by rw[k4 c om,k3 c om]
 have s4:=h3.same (k42 rb om)
 obtain⟨H5,m5,r5,n5,k5⟩:=row_storeN (H:=H4) (r1.same (by rw[k42 _ om,F2.old _ om om])) (n:=4) rfl x4.len x4.one
 have l5:=row_loadN r5 x4.len
 simp only[sA,sB,seval,m3,m4]
 refine aw_loop (fun m (T:Env) H'=>H4=H'∧T 0=cellR rb 10 0∧T 2=cellR H.next 4 0∧T 3=cellR H2.next 4 0) 0 ⟨rfl,by simp only[sA,sB,seval],by simp only[sA,sB,seval],by simp only[sA,sB,seval]⟩ ?_
 rintro m T _ ⟨rfl,t0,t2,t3⟩
 simp only[sA,sB,seval,t0,t2,t3]
 refine (ris_spec s4 _).mono ?_
 rintro _ _ ⟨rfl,rfl⟩
 simp only[isO,sA,sB,seval,t0]
 simp only[sA,sB,seval,l4,m5,t2,t3]
 refine fin_c1 _ _ _ _ (v:=.agg xs) (by simp only[sA,sB,seval,t2,t3]; exact l5) ?_
 exact⟨xs,d',rfl,x4,h1,h2,s4.same (k5 rb om),om,fun c hc hp=>by rw[k5 c om,k42 c om,F2.old c om hp,k1 c om]⟩
def fnK:Nat→FuncId
 | 0=>210
 | 1=>204
 | 2=>185
 | 3=>161
 | 4=>115
 | _=>77
theorem dead_all(rb:Nat)(s:Bs):∀k,k≤5→DeadE rb s (fnK k)
 | 0,_=>dead_unary rb s
 | 1,_=>dead_mul (dead_unary rb s)
 | 2,_=>dead_add (dead_mul (dead_unary rb s))
 | 3,_=>dead_cmp (dead_add (dead_mul (dead_unary rb s)))
 | 4,_=>dead_and (dead_cmp (dead_add (dead_mul (dead_unary rb s))))
 | 5,_=>dead_or (dead_and (dead_cmp (dead_add (dead_mul (dead_unary rb s)))))
 | k+6,h=>om
open Go.Abs Go.Abs.S
def Go{β:Type}(s:Bs)(o:Except Flt Wd)(d' d:Nat)(r:Res β)(k:Wd→Option (Res β)):Prop:=(∃w,o=.ok w∧d'=d∧WOk s w∧k w=some r)∨∃e,o=.error e∧r=.error e
theorem Go.en{β:Type}{s:Bs}{o:Except Flt Wd}{d' d:Nat}{r:Res β}{k:Wd→Option (Res β)}(h:Go s o d' d r k):∀w,o=.ok w→w.en≤1000000:=by
 rintro w rfl
 rcases h with⟨w',hw,_,ok,_⟩ | ⟨e,he,_⟩
 ·simp only[Except.ok.injEq]at hw
  subst hw
  have:=ok.en
  have:=ok.long
  omega
 ·simp at he
theorem Go.take{β:Type}{s:Bs}{o:Except Flt Wd}{d' d:Nat}{r:Res β}{k:Wd→Option (Res β)}(h:Go s o d' d r fun w=>onW (stepW s w) k):Go s (takeO s o) d' d r k:=by
 rcases h with⟨w,rfl,hd,ok,hk⟩ | ⟨e,rfl,rfl⟩
 ·rcases onW_ok hk with⟨e,he,rfl⟩ | ⟨w1,he,hk⟩
  ·exact .inr ⟨e,he,rfl⟩
  ·exact .inl ⟨w1,he,hd,(nextW_ok he).1,hk⟩
 ·exact .inr ⟨e,rfl,rfl⟩
theorem isB_sgn{s:Bs}{w:Wd}(h:WOk s w){t:Bs}(ht:keyF t=false):isB w t=sgn w [t]:=by
 have hb:∀n,Nat.beq w.k n=decide (w.k=n):=fun n=>beq_dec _ _
 unfold isB sgn
 simp only[hb]
 by_cases h4:w.k=4
 ·rw[decide_eq_true h4]
  simp[eq_comm]
 ·rw[decide_eq_false h4]
  by_cases h3:w.k=3
  ·have:w.S≠t:=fun e=>by rw[← e,h.key h3]at ht; simp at ht
   simp[this]
  ·simp[h3]
theorem isB_kyw{s:Bs}{w:Wd}(h:WOk s w){t:Bs}(ht:t∉signsL):isB w t=kyw w t:=by
 have hb:∀n,Nat.beq w.k n=decide (w.k=n):=fun n=>beq_dec _ _
 unfold isB kyw
 simp only[hb]
 by_cases h3:w.k=3
 ·rw[decide_eq_true h3]; simp
 ·rw[decide_eq_false h3]
  by_cases h4:w.k=4
  ·have:w.S≠t:=fun e=>ht (e ▸ h.sig h4)
   simp[this]
  ·simp[h4]
theorem Go.must{β:Type}{s:Bs}{o:Except Flt Wd}{d' d:Nat}{r:Res β}{t:Bs}{k:Wd→Option (Res β)}(h:Go s o d' d r fun w=>onW (takeW s t w) k)(ht:keyF t=false):Go s (mustO s o t) d' d r k:=by
 rcases h with⟨w,rfl,hd,ok,hk⟩ | ⟨e,rfl,rfl⟩
 ·have e1:mustO s (.ok w) t=takeW s t w:=by
   unfold mustO takeW
   rw[show isO (.ok w) t=isB w t from rfl,isB_sgn ok ht]
   rfl
  rw[e1]
  rcases onW_ok hk with⟨e,he,rfl⟩ | ⟨w1,he,hk⟩
  ·exact .inr ⟨e,he,rfl⟩
  ·exact .inl ⟨w1,he,hd,(takeW_ok he ok).2.2.1,hk⟩
 ·exact .inr ⟨e,by unfold mustO; rfl,rfl⟩
theorem sgn2{s:Bs}{w:Wd}(h:WOk s w){a b:Bs}(ha:keyF a=false)(hb:keyF b=false):sgn w [a,b]=(isB w a||isB w b):=by
 rw[isB_sgn h ha,isB_sgn h hb]
 unfold sgn
 cases Nat.beq w.k 4 <;> simp
def LiveE(rb:Nat)(s:Bs)(fn:FuncId)(sem:Nat→Wd→Option (Res Ex)):Prop:=∀(H:AHeap) (w:Wd) (d:Nat) (r:Res Ex),Sta rb s H (.ok w) d→WOk s w→d≤200→rb<H.next→sem d w=some r →
  ACalls Tryz.prog natT fn [cellR rb 10 0] H fun u H'=>∃xs d' o',u=.agg xs∧Ok4 xs∧d≤d'∧d'≤200∧Sta rb s H' o' d'∧Fp rb H H'∧((∃e w',r=.ok (e,w')∧o'=.ok w'∧d'=d∧WOk s w'∧XE (In H.next H'.next) H' e xs)∨∃e,r=.error e∧o'=.error e)
theorem callE2{β:Type}{rb:Nat}{s:Bs}{fn:FuncId}{sem:Nat→Wd→Option (Res Ex)}(dead:DeadE rb s fn)(live:LiveE rb s fn sem){H:AHeap}{o:Except Flt Wd}{d' d:Nat}{r:Res β}{k:Ex→Wd→Option (Res β)}(hs:Sta rb s H o d')(h1:d≤d')(h2:d'≤200)(hrb:rb<H.next)(h:Go s o d' d r fun w=>onR (sem d w) k) :
  ACalls Tryz.prog natT fn [cellR rb 10 0] H fun u H'=>∃xs d2 o2,u=.agg xs∧Ok4 xs∧d≤d2∧d2≤200∧Sta rb s H' o2 d2∧Fp rb H H'∧((∃e,Go s o2 d2 d r (k e)∧XE (In H.next H'.next) H' e xs)∨∃e,r=.error e∧o2=.error e)∧∀e,o=.error e→o2=.error e:=by
 rcases h with⟨w,rfl,rfl,ok,hk⟩ | ⟨e,rfl,rfl⟩
 ·obtain⟨r0,hr0⟩:∃r0,sem d' w=some r0:=by
   rcases onR_ok hk with⟨e,he,rfl⟩ | ⟨e1,w3,he,_⟩
   ·exact⟨_,he⟩
   ·exact⟨_,he⟩
  refine (live H w d' r0 hs ok h2 hrb hr0).mono ?_
  rintro u H' ⟨xs,d2,o2,rfl,x4,y1,y2,y3,y4,y5⟩
  refine⟨xs,d2,o2,rfl,x4,y1,y2,y3,y4,?_,fun e q=>by simp at q⟩
  rcases onR_ok hk with⟨e,he,rfl⟩ | ⟨e1,w3,he,hk⟩
  ·rw[hr0]at he
   simp only[sJ]at he
   subst he
   rcases y5 with⟨e',w',q,_⟩ | ⟨e',q,rfl⟩
   ·simp at q
   ·simp only[Except.error.injEq]at q
    subst q
    exact .inr ⟨e,rfl,rfl⟩
  ·rw[hr0]at he
   simp only[sJ]at he
   subst he
   rcases y5 with⟨e',w',q,rfl,q2,q3,q4⟩ | ⟨e',q,rfl⟩
   ·simp only[Except.ok.injEq,pJ]at q
    obtain⟨rfl,rfl⟩:=q
    exact .inl ⟨e1,.inl ⟨w3,rfl,q2,q3,hk⟩,q4⟩
   ·simp at q
 ·refine (dead H e d' hs h2 hrb).mono ?_
  rintro u H' ⟨xs,d2,rfl,x4,y1,y2,y3,y4⟩
  exact⟨xs,d2,_,rfl,x4,om,y2,y3,y4,.inr ⟨e,rfl,rfl⟩,fun e' q=>q⟩
theorem callE{β:Type}{rb:Nat}{s:Bs}{fn:FuncId}{sem:Nat→Wd→Option (Res Ex)}(dead:DeadE rb s fn)(live:LiveE rb s fn sem){H:AHeap}{o:Except Flt Wd}{d' d:Nat}{r:Res β}{k:Ex→Wd→Option (Res β)}(hs:Sta rb s H o d')(h1:d≤d')(h2:d'≤200)(hrb:rb<H.next)(h:Go s o d' d r fun w=>onR (sem d w) k) :
  ACalls Tryz.prog natT fn [cellR rb 10 0] H fun u H'=>∃xs d2 o2,u=.agg xs∧Ok4 xs∧d≤d2∧d2≤200∧Sta rb s H' o2 d2∧Fp rb H H'∧((∃e,Go s o2 d2 d r (k e)∧XE (In H.next H'.next) H' e xs)∨∃e,r=.error e∧o2=.error e):=by
 refine (callE2 dead live hs h1 h2 hrb h).mono ?_
 rintro u H' ⟨xs,d2,o2,a1,a2,a3,a4,a5,a6,a7,_⟩
 exact⟨xs,d2,o2,a1,a2,a3,a4,a5,a6,a7⟩
theorem live_mul{rb:Nat}{s:Bs}{f:Nat}(ih:∀f',f'≤f→LiveE rb s (fnK 0) fun d w=>pE s f' (.rule 0) d w):LiveE rb s 204 fun d w=>pE s (f+1) (.rule 1) d w:=by
 intro H w d r hsA ok hd hrb hr
 have dead:=dead_all rb s 0 om
 have fnk:fnK 0=210:=rfl
 rw[fnk]at dead
 have ih:∀f',f'≤f→LiveE rb s 210 fun d w=>pE s f' (.rule 0) d w:=ih
 refine acalls_ofN rfl za204 rfl ?_
 simp only[pE_succ,stepE]at hr
 obtain⟨H1,m1,r1,n1,k1⟩:=row_newL H [.int .u8 0,.str [],.int .i64 0,.slice none 0 (.known 0)] (n:=4) rfl
 have F1:Fp rb H H1:=⟨om,fun c hc _=>k1 c om⟩
 simp only[c204,sA,sB,seval,m1]
 refine (callE dead (ih f rL) (hsA.same (k1 rb om)) rL hd om (.inl ⟨w,rfl,rfl,ok,hr⟩)).mono ?_
 rintro _ H2 ⟨xs,d2,o2,rfl,x4,h1,h2,s2,F2,hx⟩
 have e2:=F2.next
 obtain⟨H3,m3,r3,n3,k3⟩:=row_newL H2 [.int .u8 0,.str [],.int .i64 0,.slice none 0 (.known 0)] (n:=4) rfl
 obtain⟨H4,m4,r4,n4,k4⟩:=row_storeN r3 (n:=4) rfl x4.len x4.one
 have k42:∀c,c<H2.next→H4.get c=H2.get c:=fun c hc=>by rw[k4 c om,k3 c om]
 have F4:Fp rb H H4:=⟨om,fun c hc hp=>by rw[k42 c om,F2.old c om hp,F1.old c hc hp]⟩
 simp only[sA,sB,seval,m3,m4]
 refine aw_loop (fun m (T:Env) H'=>∃o' d' xs,m≤f∧T 0=cellR rb 10 0∧T 2=cellR H.next 4 0∧T 3=cellR H2.next 4 0∧Row H' H2.next xs∧Ok4 xs∧Row H' H.next [.int .u8 0,.str [],.int .i64 0,.slice none 0 (.known 0)]∧Sta rb s H' o' d'∧d≤d'∧d'≤200∧Fp rb H H'∧H2.next<H'.next∧((∃e,Go s o' d' d r (fun w=>pE s m (.loop 1 e) d w)∧XE (fun c=>In (H.next+1) H'.next c∧c≠H2.next) H' e xs)∨∃e,r=.error e∧o'=.error e)) f
  ⟨o2,d2,xs,Nat.le_refl _,by simp only[sA,sB,seval],by simp only[sA,sB,seval],by simp only[sA,sB,seval],r4,x4,r1.same (by rw[k42 _ om,F2.old _ om om]),s2.same (k42 rb om),h1,h2,F4,om,hx.imp (fun ⟨e,g,q⟩=>⟨e,g,q.mono fun c hc=>by
   have c1:=hc.1
   have c2:=hc.2
   exact⟨⟨⟨om,om⟩,om⟩,k42 c c2⟩⟩) fun q=>q⟩ ?_
 rintro m T H5 ⟨o',d',xs,hm,t0,t2,t3,rx,x4,q2,hs,h1,h2,F5,lt5,hx⟩
 have e5:=F5.next
 have lx5:=row_loadN rx x4.len
 simp only[sA,sB,seval,t0,t2,t3]
 rcases hx with⟨e1,hgo,hx5⟩ | ⟨e,rfl,rfl⟩
 rotate_left
 ·skip
  refine (ris_spec hs _).mono ?_
  rintro _ _ ⟨rfl,rfl⟩
  simp only[isO,sA,sB,seval,t0,t2,t3]
  refine (ris_spec hs _).mono ?_
  rintro _ _ ⟨rfl,rfl⟩
  simp only[isO,sA,sB,seval,t0,t2,t3]
  obtain⟨H6,m6,r6,n6,k6⟩:=row_storeN q2 (n:=4) rfl x4.len x4.one
  simp only[sA,sB,seval,t0,t2,t3,lx5,m6]
  refine fin_c1 _ _ _ _ (v:=.agg xs) (by simp only[sA,sB,seval,t2]; exact row_loadN r6 x4.len) ?_
  exact⟨xs,d',_,rfl,x4,h1,h2,hs.same (k6 rb om),⟨om,fun c hc hp=>by rw[k6 c om,F5.old c hc hp]⟩,.inr ⟨e,rfl,rfl⟩⟩
 rcases hgo with⟨w5,rfl,rfl,ok5,hp⟩ | ⟨e,rfl,rfl⟩
 rotate_left
 ·refine (ris_spec hs _).mono ?_
  rintro _ _ ⟨rfl,rfl⟩
  simp only[isO,sA,sB,seval,t0,t2,t3]
  refine (ris_spec hs _).mono ?_
  rintro _ _ ⟨rfl,rfl⟩
  simp only[isO,sA,sB,seval,t0,t2,t3]
  obtain⟨H6,m6,r6,n6,k6⟩:=row_storeN q2 (n:=4) rfl x4.len x4.one
  simp only[sA,sB,seval,t0,t2,t3,lx5,m6]
  refine fin_c1 _ _ _ _ (v:=.agg xs) (by simp only[sA,sB,seval,t2]; exact row_loadN r6 x4.len) ?_
  exact⟨xs,d',_,rfl,x4,h1,h2,hs.same (k6 rb om),⟨om,fun c hc hp=>by rw[k6 c om,F5.old c hc hp]⟩,.inr ⟨e,rfl,rfl⟩⟩
 cases m with
 | zero=>simp[pE]at hp
 | succ m=>
 rw[pE_succ]at hp
 simp only[stepE,Nat.add_one_sub_one,Nat.reduceSub]at hp
 have lS:oLoad false 1 H5 (cellR rb 10 2)=some (.str w5.S):=row_load (show Row H5 rb (rObj s w5 0 0 d') from hs) rfl rfl
 have hlv:sgn w5 (lvl 1)=(isB w5 [42]||isB w5 [47]):=sgn2 ok5 rfl rfl
 refine (ris_spec hs _).mono ?_
 rintro _ _ ⟨rfl,rfl⟩
 have i1:isO (.ok w5) [42]=isB w5 [42]:=rfl
 rw[i1]
 cases b1:isB w5 [42] with
 | true=>
  rw[if_pos (by rw[hlv,b1] <;> rfl)]at hp
  have hgo:Go s (Except.ok w5) d' d' r fun w=>onW (stepW s w) fun w1=>onR (pE s m (.rule 0) d' w1) fun e2 w2=>pE s m (.loop 1 (.mk 3 w5.S 0 [e1,e2])) d' w2:=.inl ⟨w5,rfl,rfl,ok5,hp⟩
  obtain⟨SG,hSG⟩:∃SG,SG=w5.S:=⟨_,rfl⟩
  rw[← hSG]at hgo lS
  simp only[sA,sB,seval,t0,t2,t3,nil_cell,fldA,lS]
  refine (rtake_spec hs om (Go.en hgo)).mono ?_
  rintro _ H6 ⟨s6,F6⟩
  have g6:=Go.take hgo
  have e6:=F6.next
  have x6:=rx.same (F6.old _ lt5 om)
  have lx6:=row_loadN x6 x4.len
  simp only[sA,sB,seval,t0,t2,t3]
  refine aw_drawC rfl ?_
  simp only[sR,sA,sB,seval,t0,t2,t3,lx6]
  refine (callE dead (ih m om) s6 h1 h2 om g6).mono ?_
  rintro _ H7 ⟨ys,d7,o7,rfl,y4,y5,y6,s7,F7,hy⟩
  have e7:=F7.next
  have F57:=F6.trans F7
  have x7:=x6.same (F7.old _ om om)
  have lx7:=row_loadN x7 x4.len
  simp only[sR,sA,sB,seval,t0,t2,t3]
  refine (ftwo_spec _ x4.len y4.len x4.one y4.one).mono ?_
  rintro _ H8 ⟨b,rfl,b1,b2,rB,E8⟩
  have e8:=E8.next
  have s8:=s7.same (E8.old rb om)
  have x8:=x7.same (E8.old _ om)
  have o4:=ok4_op SG b
  obtain⟨H9,m9,r9,n9,k9⟩:=row_storeN x8 (n:=4) x4.len o4.len o4.one
  have k95:∀c,c<H5.next→c≠rb→c≠H2.next→H9.get c=H5.get c:=fun c h1 h2 h3=>by rw[k9 c h3,E8.old c om,F57.old c h1 h2]
  simp only[sR,sA,sB,seval,t0,t2,t3,m9]
  simp only[ck_nil',ck_cons,ckP_load,ckP_nil,ck_end,and_true,true_and,List.map_cons,List.map_nil,sA,sB,seval,t0,t2,t3]
  refine⟨⟨_,rfl,fun _=>⟨_,lx7,by simpa[aeq] using x4.aeq⟩⟩,m,om,o7,d7,_,om,r9,o4,q2.same (k95 _ om om om),s8.same (k9 rb om),y5,y6,⟨by have:=F5.next; omega,fun c h1 h2=>by rw[k95 c (by have:=F5.next; omega) h2 om,F5.old c h1 h2]⟩,om,?_⟩
  rcases hy with⟨e2,gy,xy⟩ | ⟨e,rfl,rfl⟩
  case inr=>exact .inr ⟨e,rfl,rfl⟩
  refine .inl ⟨.mk 3 SG 0 [e1,e2],gy,⟨_,xs++ys,rfl,.row (rB.same (k9 _ om)) (by rw[lA,x4.len,y4.len]) rfl ⟨⟨om,om⟩,om⟩,xs,ys,rfl,hx5.mono fun c hc=>?_,.sing (xy.mono fun c hc=>?_)⟩⟩
  ·have c1:=hc.1.1
   have c2:=hc.1.2
   exact⟨⟨⟨c1,om⟩,hc.2⟩,k95 c c2 om hc.2⟩
  ·have c1:=hc.1
   have c2:=hc.2
   exact⟨⟨⟨om,om⟩,om⟩,by rw[k9 c om,E8.old c om]⟩
 | false=>
 simp only[sA,sB,seval,t0,t2,t3]
 refine (ris_spec hs _).mono ?_
 rintro _ _ ⟨rfl,rfl⟩
 have i2:isO (.ok w5) [47]=isB w5 [47]:=rfl
 rw[i2]
 cases b2:isB w5 [47] with
 | true=>
  rw[if_pos (by rw[hlv,b1,b2] <;> rfl)]at hp
  have hgo:Go s (Except.ok w5) d' d' r fun w=>onW (stepW s w) fun w1=>onR (pE s m (.rule 0) d' w1) fun e2 w2=>pE s m (.loop 1 (.mk 3 w5.S 0 [e1,e2])) d' w2:=.inl ⟨w5,rfl,rfl,ok5,hp⟩
  obtain⟨SG,hSG⟩:∃SG,SG=w5.S:=⟨_,rfl⟩
  rw[← hSG]at hgo lS
  simp only[sA,sB,seval,t0,t2,t3,nil_cell,fldA,lS]
  refine (rtake_spec hs om (Go.en hgo)).mono ?_
  rintro _ H6 ⟨s6,F6⟩
  have g6:=Go.take hgo
  have e6:=F6.next
  have x6:=rx.same (F6.old _ lt5 om)
  have lx6:=row_loadN x6 x4.len
  simp only[sA,sB,seval,t0,t2,t3]
  refine aw_drawC rfl ?_
  simp only[sR,sA,sB,seval,t0,t2,t3,lx6]
  refine (callE dead (ih m om) s6 h1 h2 om g6).mono ?_
  rintro _ H7 ⟨ys,d7,o7,rfl,y4,y5,y6,s7,F7,hy⟩
  have e7:=F7.next
  have F57:=F6.trans F7
  have x7:=x6.same (F7.old _ om om)
  have lx7:=row_loadN x7 x4.len
  simp only[sR,sA,sB,seval,t0,t2,t3]
  refine (ftwo_spec _ x4.len y4.len x4.one y4.one).mono ?_
  rintro _ H8 ⟨b,rfl,b1,b2,rB,E8⟩
  have e8:=E8.next
  have s8:=s7.same (E8.old rb om)
  have x8:=x7.same (E8.old _ om)
  have o4:=ok4_op SG b
  obtain⟨H9,m9,r9,n9,k9⟩:=row_storeN x8 (n:=4) x4.len o4.len o4.one
  have k95:∀c,c<H5.next→c≠rb→c≠H2.next→H9.get c=H5.get c:=fun c h1 h2 h3=>by rw[k9 c h3,E8.old c om,F57.old c h1 h2]
  simp only[sR,sA,sB,seval,t0,t2,t3,m9]
  simp only[ck_nil',ck_cons,ckP_load,ckP_nil,ck_end,and_true,true_and,List.map_cons,List.map_nil,sA,sB,seval,t0,t2,t3]
  refine⟨⟨_,rfl,fun _=>⟨_,lx7,by simpa[aeq] using x4.aeq⟩⟩,m,om,o7,d7,_,om,r9,o4,q2.same (k95 _ om om om),s8.same (k9 rb om),y5,y6,⟨by have:=F5.next; omega,fun c h1 h2=>by rw[k95 c (by have:=F5.next; omega) h2 om,F5.old c h1 h2]⟩,om,?_⟩
  rcases hy with⟨e2,gy,xy⟩ | ⟨e,rfl,rfl⟩
  case inr=>exact .inr ⟨e,rfl,rfl⟩
  refine .inl ⟨.mk 3 SG 0 [e1,e2],gy,⟨_,xs++ys,rfl,.row (rB.same (k9 _ om)) (by rw[lA,x4.len,y4.len]) rfl ⟨⟨om,om⟩,om⟩,xs,ys,rfl,hx5.mono fun c hc=>?_,.sing (xy.mono fun c hc=>?_)⟩⟩
  ·have c1:=hc.1.1
   have c2:=hc.1.2
   exact⟨⟨⟨c1,om⟩,hc.2⟩,k95 c c2 om hc.2⟩
  ·have c1:=hc.1
   have c2:=hc.2
   exact⟨⟨⟨om,om⟩,om⟩,by rw[k9 c om,E8.old c om]⟩
 | false=>
 rw[if_neg (by rw[hlv]; simp only[b1,b2]; simp)]at hp
 simp only[fineR,sJ]at hp
 subst hp
 obtain⟨H6,m6,r6,n6,k6⟩:=row_storeN q2 (n:=4) rfl x4.len x4.one
 simp only[sA,sB,seval,t0,t2,t3,lx5,m6]
 refine fin_c1 _ _ _ _ (v:=.agg xs) (by simp only[sA,sB,seval,t2]; exact row_loadN r6 x4.len) ?_
 refine⟨xs,d',_,rfl,x4,h1,h2,hs.same (k6 rb om),⟨om,fun c hc hp=>by rw[k6 c om,F5.old c hc hp]⟩,.inl ⟨e1,w5,rfl,rfl,rfl,ok5,hx5.mono fun c hc=>?_⟩⟩
 have c1:=hc.1.1
 have c2:=hc.1.2
 exact⟨⟨om,om⟩,k6 c om⟩
theorem live_add{rb:Nat}{s:Bs}{f:Nat}(ih:∀f',f'≤f→LiveE rb s (fnK 1) fun d w=>pE s f' (.rule 1) d w):LiveE rb s 185 fun d w=>pE s (f+1) (.rule 2) d w:=by
 intro H w d r hsA ok hd hrb hr
 have dead:=dead_all rb s 1 om
 have fnk:fnK 1=204:=rfl
 rw[fnk]at dead
 have ih:∀f',f'≤f→LiveE rb s 204 fun d w=>pE s f' (.rule 1) d w:=ih
 refine acalls_ofN rfl za185 rfl ?_
 simp only[pE_succ,stepE]at hr
 obtain⟨H1,m1,r1,n1,k1⟩:=row_newL H [.int .u8 0,.str [],.int .i64 0,.slice none 0 (.known 0)] (n:=4) rfl
 have F1:Fp rb H H1:=⟨om,fun c hc _=>k1 c om⟩
 simp only[c185,sA,sB,seval,m1]
 refine (callE dead (ih f rL) (hsA.same (k1 rb om)) rL hd om (.inl ⟨w,rfl,rfl,ok,hr⟩)).mono ?_
 rintro _ H2 ⟨xs,d2,o2,rfl,x4,h1,h2,s2,F2,hx⟩
 have e2:=F2.next
 obtain⟨H3,m3,r3,n3,k3⟩:=row_newL H2 [.int .u8 0,.str [],.int .i64 0,.slice none 0 (.known 0)] (n:=4) rfl
 obtain⟨H4,m4,r4,n4,k4⟩:=row_storeN r3 (n:=4) rfl x4.len x4.one
 have k42:∀c,c<H2.next→H4.get c=H2.get c:=fun c hc=>by rw[k4 c om,k3 c om]
 have F4:Fp rb H H4:=⟨om,fun c hc hp=>by rw[k42 c om,F2.old c om hp,F1.old c hc hp]⟩
 simp only[sA,sB,seval,m3,m4]
 refine aw_loop (fun m (T:Env) H'=>∃o' d' xs,m≤f∧T 0=cellR rb 10 0∧T 2=cellR H.next 4 0∧T 3=cellR H2.next 4 0∧Row H' H2.next xs∧Ok4 xs∧Row H' H.next [.int .u8 0,.str [],.int .i64 0,.slice none 0 (.known 0)]∧Sta rb s H' o' d'∧d≤d'∧d'≤200∧Fp rb H H'∧H2.next<H'.next∧((∃e,Go s o' d' d r (fun w=>pE s m (.loop 2 e) d w)∧XE (fun c=>In (H.next+1) H'.next c∧c≠H2.next) H' e xs)∨∃e,r=.error e∧o'=.error e)) f
  ⟨o2,d2,xs,Nat.le_refl _,by simp only[sA,sB,seval],by simp only[sA,sB,seval],by simp only[sA,sB,seval],r4,x4,r1.same (by rw[k42 _ om,F2.old _ om om]),s2.same (k42 rb om),h1,h2,F4,om,hx.imp (fun ⟨e,g,q⟩=>⟨e,g,q.mono fun c hc=>by
   have c1:=hc.1
   have c2:=hc.2
   exact⟨⟨⟨om,om⟩,om⟩,k42 c c2⟩⟩) fun q=>q⟩ ?_
 rintro m T H5 ⟨o',d',xs,hm,t0,t2,t3,rx,x4,q2,hs,h1,h2,F5,lt5,hx⟩
 have e5:=F5.next
 have lx5:=row_loadN rx x4.len
 simp only[sA,sB,seval,t0,t2,t3]
 rcases hx with⟨e1,hgo,hx5⟩ | ⟨e,rfl,rfl⟩
 rotate_left
 ·skip
  refine (ris_spec hs _).mono ?_
  rintro _ _ ⟨rfl,rfl⟩
  simp only[isO,sA,sB,seval,t0,t2,t3]
  refine (ris_spec hs _).mono ?_
  rintro _ _ ⟨rfl,rfl⟩
  simp only[isO,sA,sB,seval,t0,t2,t3]
  obtain⟨H6,m6,r6,n6,k6⟩:=row_storeN q2 (n:=4) rfl x4.len x4.one
  simp only[sA,sB,seval,t0,t2,t3,lx5,m6]
  refine fin_c1 _ _ _ _ (v:=.agg xs) (by simp only[sA,sB,seval,t2]; exact row_loadN r6 x4.len) ?_
  exact⟨xs,d',_,rfl,x4,h1,h2,hs.same (k6 rb om),⟨om,fun c hc hp=>by rw[k6 c om,F5.old c hc hp]⟩,.inr ⟨e,rfl,rfl⟩⟩
 rcases hgo with⟨w5,rfl,rfl,ok5,hp⟩ | ⟨e,rfl,rfl⟩
 rotate_left
 ·refine (ris_spec hs _).mono ?_
  rintro _ _ ⟨rfl,rfl⟩
  simp only[isO,sA,sB,seval,t0,t2,t3]
  refine (ris_spec hs _).mono ?_
  rintro _ _ ⟨rfl,rfl⟩
  simp only[isO,sA,sB,seval,t0,t2,t3]
  obtain⟨H6,m6,r6,n6,k6⟩:=row_storeN q2 (n:=4) rfl x4.len x4.one
  simp only[sA,sB,seval,t0,t2,t3,lx5,m6]
  refine fin_c1 _ _ _ _ (v:=.agg xs) (by simp only[sA,sB,seval,t2]; exact row_loadN r6 x4.len) ?_
  exact⟨xs,d',_,rfl,x4,h1,h2,hs.same (k6 rb om),⟨om,fun c hc hp=>by rw[k6 c om,F5.old c hc hp]⟩,.inr ⟨e,rfl,rfl⟩⟩
 cases m with
 | zero=>simp[pE]at hp
 | succ m=>
 rw[pE_succ]at hp
 simp only[stepE,Nat.add_one_sub_one,Nat.reduceSub]at hp
 have lS:oLoad false 1 H5 (cellR rb 10 2)=some (.str w5.S):=row_load (show Row H5 rb (rObj s w5 0 0 d') from hs) rfl rfl
 have hlv:sgn w5 (lvl 2)=(isB w5 [43]||isB w5 [45]):=sgn2 ok5 rfl rfl
 refine (ris_spec hs _).mono ?_
 rintro _ _ ⟨rfl,rfl⟩
 have i1:isO (.ok w5) [43]=isB w5 [43]:=rfl
 rw[i1]
 cases b1:isB w5 [43] with
 | true=>
  rw[if_pos (by rw[hlv,b1] <;> rfl)]at hp
  have hgo:Go s (Except.ok w5) d' d' r fun w=>onW (stepW s w) fun w1=>onR (pE s m (.rule 1) d' w1) fun e2 w2=>pE s m (.loop 2 (.mk 3 w5.S 0 [e1,e2])) d' w2:=.inl ⟨w5,rfl,rfl,ok5,hp⟩
  obtain⟨SG,hSG⟩:∃SG,SG=w5.S:=⟨_,rfl⟩
  rw[← hSG]at hgo lS
  simp only[sA,sB,seval,t0,t2,t3,nil_cell,fldA,lS]
  refine (rtake_spec hs om (Go.en hgo)).mono ?_
  rintro _ H6 ⟨s6,F6⟩
  have g6:=Go.take hgo
  have e6:=F6.next
  have x6:=rx.same (F6.old _ lt5 om)
  have lx6:=row_loadN x6 x4.len
  simp only[sA,sB,seval,t0,t2,t3]
  refine aw_drawC rfl ?_
  simp only[sR,sA,sB,seval,t0,t2,t3,lx6]
  refine (callE dead (ih m om) s6 h1 h2 om g6).mono ?_
  rintro _ H7 ⟨ys,d7,o7,rfl,y4,y5,y6,s7,F7,hy⟩
  have e7:=F7.next
  have F57:=F6.trans F7
  have x7:=x6.same (F7.old _ om om)
  have lx7:=row_loadN x7 x4.len
  simp only[sR,sA,sB,seval,t0,t2,t3]
  refine (ftwo_spec _ x4.len y4.len x4.one y4.one).mono ?_
  rintro _ H8 ⟨b,rfl,b1,b2,rB,E8⟩
  have e8:=E8.next
  have s8:=s7.same (E8.old rb om)
  have x8:=x7.same (E8.old _ om)
  have o4:=ok4_op SG b
  obtain⟨H9,m9,r9,n9,k9⟩:=row_storeN x8 (n:=4) x4.len o4.len o4.one
  have k95:∀c,c<H5.next→c≠rb→c≠H2.next→H9.get c=H5.get c:=fun c h1 h2 h3=>by rw[k9 c h3,E8.old c om,F57.old c h1 h2]
  simp only[sR,sA,sB,seval,t0,t2,t3,m9]
  simp only[ck_nil',ck_cons,ckP_load,ckP_nil,ck_end,and_true,true_and,List.map_cons,List.map_nil,sA,sB,seval,t0,t2,t3]
  refine⟨⟨_,rfl,fun _=>⟨_,lx7,by simpa[aeq] using x4.aeq⟩⟩,m,om,o7,d7,_,om,r9,o4,q2.same (k95 _ om om om),s8.same (k9 rb om),y5,y6,⟨by have:=F5.next; omega,fun c h1 h2=>by rw[k95 c (by have:=F5.next; omega) h2 om,F5.old c h1 h2]⟩,om,?_⟩
  rcases hy with⟨e2,gy,xy⟩ | ⟨e,rfl,rfl⟩
  case inr=>exact .inr ⟨e,rfl,rfl⟩
  refine .inl ⟨.mk 3 SG 0 [e1,e2],gy,⟨_,xs++ys,rfl,.row (rB.same (k9 _ om)) (by rw[lA,x4.len,y4.len]) rfl ⟨⟨om,om⟩,om⟩,xs,ys,rfl,hx5.mono fun c hc=>?_,.sing (xy.mono fun c hc=>?_)⟩⟩
  ·have c1:=hc.1.1
   have c2:=hc.1.2
   exact⟨⟨⟨c1,om⟩,hc.2⟩,k95 c c2 om hc.2⟩
  ·have c1:=hc.1
   have c2:=hc.2
   exact⟨⟨⟨om,om⟩,om⟩,by rw[k9 c om,E8.old c om]⟩
 | false=>
 simp only[sA,sB,seval,t0,t2,t3]
 refine (ris_spec hs _).mono ?_
 rintro _ _ ⟨rfl,rfl⟩
 have i2:isO (.ok w5) [45]=isB w5 [45]:=rfl
 rw[i2]
 cases b2:isB w5 [45] with
 | true=>
  rw[if_pos (by rw[hlv,b1,b2] <;> rfl)]at hp
  have hgo:Go s (Except.ok w5) d' d' r fun w=>onW (stepW s w) fun w1=>onR (pE s m (.rule 1) d' w1) fun e2 w2=>pE s m (.loop 2 (.mk 3 w5.S 0 [e1,e2])) d' w2:=.inl ⟨w5,rfl,rfl,ok5,hp⟩
  obtain⟨SG,hSG⟩:∃SG,SG=w5.S:=⟨_,rfl⟩
  rw[← hSG]at hgo lS
  simp only[sA,sB,seval,t0,t2,t3,nil_cell,fldA,lS]
  refine (rtake_spec hs om (Go.en hgo)).mono ?_
  rintro _ H6 ⟨s6,F6⟩
  have g6:=Go.take hgo
  have e6:=F6.next
  have x6:=rx.same (F6.old _ lt5 om)
  have lx6:=row_loadN x6 x4.len
  simp only[sA,sB,seval,t0,t2,t3]
  refine aw_drawC rfl ?_
  simp only[sR,sA,sB,seval,t0,t2,t3,lx6]
  refine (callE dead (ih m om) s6 h1 h2 om g6).mono ?_
  rintro _ H7 ⟨ys,d7,o7,rfl,y4,y5,y6,s7,F7,hy⟩
  have e7:=F7.next
  have F57:=F6.trans F7
  have x7:=x6.same (F7.old _ om om)
  have lx7:=row_loadN x7 x4.len
  simp only[sR,sA,sB,seval,t0,t2,t3]
  refine (ftwo_spec _ x4.len y4.len x4.one y4.one).mono ?_
  rintro _ H8 ⟨b,rfl,b1,b2,rB,E8⟩
  have e8:=E8.next
  have s8:=s7.same (E8.old rb om)
  have x8:=x7.same (E8.old _ om)
  have o4:=ok4_op SG b
  obtain⟨H9,m9,r9,n9,k9⟩:=row_storeN x8 (n:=4) x4.len o4.len o4.one
  have k95:∀c,c<H5.next→c≠rb→c≠H2.next→H9.get c=H5.get c:=fun c h1 h2 h3=>by rw[k9 c h3,E8.old c om,F57.old c h1 h2]
  simp only[sR,sA,sB,seval,t0,t2,t3,m9]
  simp only[ck_nil',ck_cons,ckP_load,ckP_nil,ck_end,and_true,true_and,List.map_cons,List.map_nil,sA,sB,seval,t0,t2,t3]
  refine⟨⟨_,rfl,fun _=>⟨_,lx7,by simpa[aeq] using x4.aeq⟩⟩,m,om,o7,d7,_,om,r9,o4,q2.same (k95 _ om om om),s8.same (k9 rb om),y5,y6,⟨by have:=F5.next; omega,fun c h1 h2=>by rw[k95 c (by have:=F5.next; omega) h2 om,F5.old c h1 h2]⟩,om,?_⟩
  rcases hy with⟨e2,gy,xy⟩ | ⟨e,rfl,rfl⟩
  case inr=>exact .inr ⟨e,rfl,rfl⟩
  refine .inl ⟨.mk 3 SG 0 [e1,e2],gy,⟨_,xs++ys,rfl,.row (rB.same (k9 _ om)) (by rw[lA,x4.len,y4.len]) rfl ⟨⟨om,om⟩,om⟩,xs,ys,rfl,hx5.mono fun c hc=>?_,.sing (xy.mono fun c hc=>?_)⟩⟩
  ·have c1:=hc.1.1
   have c2:=hc.1.2
   exact⟨⟨⟨c1,om⟩,hc.2⟩,k95 c c2 om hc.2⟩
  ·have c1:=hc.1
   have c2:=hc.2
   exact⟨⟨⟨om,om⟩,om⟩,by rw[k9 c om,E8.old c om]⟩
 | false=>
 rw[if_neg (by rw[hlv]; simp only[b1,b2]; simp)]at hp
 simp only[fineR,sJ]at hp
 subst hp
 obtain⟨H6,m6,r6,n6,k6⟩:=row_storeN q2 (n:=4) rfl x4.len x4.one
 simp only[sA,sB,seval,t0,t2,t3,lx5,m6]
 refine fin_c1 _ _ _ _ (v:=.agg xs) (by simp only[sA,sB,seval,t2]; exact row_loadN r6 x4.len) ?_
 refine⟨xs,d',_,rfl,x4,h1,h2,hs.same (k6 rb om),⟨om,fun c hc hp=>by rw[k6 c om,F5.old c hc hp]⟩,.inl ⟨e1,w5,rfl,rfl,rfl,ok5,hx5.mono fun c hc=>?_⟩⟩
 have c1:=hc.1.1
 have c2:=hc.1.2
 exact⟨⟨om,om⟩,k6 c om⟩
theorem live_and{rb:Nat}{s:Bs}{f:Nat}(ih:∀f',f'≤f→LiveE rb s (fnK 3) fun d w=>pE s f' (.rule 3) d w):LiveE rb s 115 fun d w=>pE s (f+1) (.rule 4) d w:=by
 intro H w d r hsA ok hd hrb hr
 have dead:=dead_all rb s 3 om
 have fnk:fnK 3=161:=rfl
 rw[fnk]at dead
 have ih:∀f',f'≤f→LiveE rb s 161 fun d w=>pE s f' (.rule 3) d w:=ih
 refine acalls_ofN rfl za115 rfl ?_
 simp only[pE_succ,stepE]at hr
 obtain⟨H1,m1,r1,n1,k1⟩:=row_newL H [.int .u8 0,.str [],.int .i64 0,.slice none 0 (.known 0)] (n:=4) rfl
 have F1:Fp rb H H1:=⟨om,fun c hc _=>k1 c om⟩
 simp only[c115,sA,sB,seval,m1]
 refine (callE dead (ih f rL) (hsA.same (k1 rb om)) rL hd om (.inl ⟨w,rfl,rfl,ok,hr⟩)).mono ?_
 rintro _ H2 ⟨xs,d2,o2,rfl,x4,h1,h2,s2,F2,hx⟩
 have e2:=F2.next
 obtain⟨H3,m3,r3,n3,k3⟩:=row_newL H2 [.int .u8 0,.str [],.int .i64 0,.slice none 0 (.known 0)] (n:=4) rfl
 obtain⟨H4,m4,r4,n4,k4⟩:=row_storeN r3 (n:=4) rfl x4.len x4.one
 have k42:∀c,c<H2.next→H4.get c=H2.get c:=fun c hc=>by rw[k4 c om,k3 c om]
 have F4:Fp rb H H4:=⟨om,fun c hc hp=>by rw[k42 c om,F2.old c om hp,F1.old c hc hp]⟩
 simp only[sA,sB,seval,m3,m4]
 refine aw_loop (fun m (T:Env) H'=>∃o' d' xs,m≤f∧T 0=cellR rb 10 0∧T 2=cellR H.next 4 0∧T 3=cellR H2.next 4 0∧Row H' H2.next xs∧Ok4 xs∧Row H' H.next [.int .u8 0,.str [],.int .i64 0,.slice none 0 (.known 0)]∧Sta rb s H' o' d'∧d≤d'∧d'≤200∧Fp rb H H'∧H2.next<H'.next∧((∃e,Go s o' d' d r (fun w=>pE s m (.loop 4 e) d w)∧XE (fun c=>In (H.next+1) H'.next c∧c≠H2.next) H' e xs)∨∃e,r=.error e∧o'=.error e)) f
  ⟨o2,d2,xs,Nat.le_refl _,by simp only[sA,sB,seval],by simp only[sA,sB,seval],by simp only[sA,sB,seval],r4,x4,r1.same (by rw[k42 _ om,F2.old _ om om]),s2.same (k42 rb om),h1,h2,F4,om,hx.imp (fun ⟨e,g,q⟩=>⟨e,g,q.mono fun c hc=>by
   have c1:=hc.1
   have c2:=hc.2
   exact⟨⟨⟨om,om⟩,om⟩,k42 c c2⟩⟩) fun q=>q⟩ ?_
 rintro m T H5 ⟨o',d',xs,hm,t0,t2,t3,rx,x4,q2,hs,h1,h2,F5,lt5,hx⟩
 have e5:=F5.next
 have lx5:=row_loadN rx x4.len
 simp only[sA,sB,seval,t0,t2,t3]
 rcases hx with⟨e1,hgo,hx5⟩ | ⟨e,rfl,rfl⟩
 rotate_left
 ·skip
  refine (ris_spec hs _).mono ?_
  rintro _ _ ⟨rfl,rfl⟩
  simp only[isO,sA,sB,seval,t0,t2,t3]
  obtain⟨H6,m6,r6,n6,k6⟩:=row_storeN q2 (n:=4) rfl x4.len x4.one
  simp only[sA,sB,seval,t0,t2,t3,lx5,m6]
  refine fin_c1 _ _ _ _ (v:=.agg xs) (by simp only[sA,sB,seval,t2]; exact row_loadN r6 x4.len) ?_
  exact⟨xs,d',_,rfl,x4,h1,h2,hs.same (k6 rb om),⟨om,fun c hc hp=>by rw[k6 c om,F5.old c hc hp]⟩,.inr ⟨e,rfl,rfl⟩⟩
 rcases hgo with⟨w5,rfl,rfl,ok5,hp⟩ | ⟨e,rfl,rfl⟩
 rotate_left
 ·refine (ris_spec hs _).mono ?_
  rintro _ _ ⟨rfl,rfl⟩
  simp only[isO,sA,sB,seval,t0,t2,t3]
  obtain⟨H6,m6,r6,n6,k6⟩:=row_storeN q2 (n:=4) rfl x4.len x4.one
  simp only[sA,sB,seval,t0,t2,t3,lx5,m6]
  refine fin_c1 _ _ _ _ (v:=.agg xs) (by simp only[sA,sB,seval,t2]; exact row_loadN r6 x4.len) ?_
  exact⟨xs,d',_,rfl,x4,h1,h2,hs.same (k6 rb om),⟨om,fun c hc hp=>by rw[k6 c om,F5.old c hc hp]⟩,.inr ⟨e,rfl,rfl⟩⟩
 cases m with
 | zero=>simp[pE]at hp
 | succ m=>
 rw[pE_succ]at hp
 simp only[stepE,Nat.add_one_sub_one,Nat.reduceSub]at hp
 have lS:oLoad false 1 H5 (cellR rb 10 2)=some (.str w5.S):=row_load (show Row H5 rb (rObj s w5 0 0 d') from hs) rfl rfl
 have hlv:sgn w5 (lvl 4)=isB w5 [38,38]:=(isB_sgn ok5 rfl).symm
 refine (ris_spec hs _).mono ?_
 rintro _ _ ⟨rfl,rfl⟩
 have i1:isO (.ok w5) [38,38]=isB w5 [38,38]:=rfl
 rw[i1]
 cases b1:isB w5 [38,38] with
 | true=>
  rw[if_pos (by rw[hlv,b1] <;> rfl)]at hp
  have hgo:Go s (Except.ok w5) d' d' r fun w=>onW (stepW s w) fun w1=>onR (pE s m (.rule 3) d' w1) fun e2 w2=>pE s m (.loop 4 (.mk 3 w5.S 0 [e1,e2])) d' w2:=.inl ⟨w5,rfl,rfl,ok5,hp⟩
  have hS5:w5.S=[38,38]:=by simp only[isB,Bool.and_eq_true,decide_eq_true_eq]at b1; exact b1.2
  rw[hS5]at hgo
  simp only[sA,sB,seval,t0,t2,t3]
  refine (rtake_spec hs om (Go.en hgo)).mono ?_
  rintro _ H6 ⟨s6,F6⟩
  have g6:=Go.take hgo
  have e6:=F6.next
  have x6:=rx.same (F6.old _ lt5 om)
  have lx6:=row_loadN x6 x4.len
  simp only[sA,sB,seval,t0,t2,t3]
  refine aw_drawC rfl ?_
  simp only[sR,sA,sB,seval,t0,t2,t3,lx6]
  refine (callE dead (ih m om) s6 h1 h2 om g6).mono ?_
  rintro _ H7 ⟨ys,d7,o7,rfl,y4,y5,y6,s7,F7,hy⟩
  have e7:=F7.next
  have F57:=F6.trans F7
  have x7:=x6.same (F7.old _ om om)
  have lx7:=row_loadN x7 x4.len
  simp only[sR,sA,sB,seval,t0,t2,t3]
  refine (ftwo_spec _ x4.len y4.len x4.one y4.one).mono ?_
  rintro _ H8 ⟨b,rfl,b1,b2,rB,E8⟩
  have e8:=E8.next
  have s8:=s7.same (E8.old rb om)
  have x8:=x7.same (E8.old _ om)
  have o4:=ok4_op [38,38] b
  obtain⟨H9,m9,r9,n9,k9⟩:=row_storeN x8 (n:=4) x4.len o4.len o4.one
  have k95:∀c,c<H5.next→c≠rb→c≠H2.next→H9.get c=H5.get c:=fun c h1 h2 h3=>by rw[k9 c h3,E8.old c om,F57.old c h1 h2]
  simp only[sR,sA,sB,seval,t0,t2,t3,m9]
  simp only[ck_nil',ck_cons,ckP_load,ckP_nil,ck_end,and_true,true_and,List.map_cons,List.map_nil,sA,sB,seval,t0,t2,t3]
  refine⟨⟨_,rfl,fun _=>⟨_,lx7,by simpa[aeq] using x4.aeq⟩⟩,m,om,o7,d7,_,om,r9,o4,q2.same (k95 _ om om om),s8.same (k9 rb om),y5,y6,⟨by have:=F5.next; omega,fun c h1 h2=>by rw[k95 c (by have:=F5.next; omega) h2 om,F5.old c h1 h2]⟩,om,?_⟩
  rcases hy with⟨e2,gy,xy⟩ | ⟨e,rfl,rfl⟩
  case inr=>exact .inr ⟨e,rfl,rfl⟩
  refine .inl ⟨.mk 3 [38,38] 0 [e1,e2],gy,⟨_,xs++ys,rfl,.row (rB.same (k9 _ om)) (by rw[lA,x4.len,y4.len]) rfl ⟨⟨om,om⟩,om⟩,xs,ys,rfl,hx5.mono fun c hc=>?_,.sing (xy.mono fun c hc=>?_)⟩⟩
  ·have c1:=hc.1.1
   have c2:=hc.1.2
   exact⟨⟨⟨c1,om⟩,hc.2⟩,k95 c c2 om hc.2⟩
  ·have c1:=hc.1
   have c2:=hc.2
   exact⟨⟨⟨om,om⟩,om⟩,by rw[k9 c om,E8.old c om]⟩
 | false=>
 rw[if_neg (by rw[hlv]; simp only[b1]; simp)]at hp
 simp only[fineR,sJ]at hp
 subst hp
 obtain⟨H6,m6,r6,n6,k6⟩:=row_storeN q2 (n:=4) rfl x4.len x4.one
 simp only[sA,sB,seval,t0,t2,t3,lx5,m6]
 refine fin_c1 _ _ _ _ (v:=.agg xs) (by simp only[sA,sB,seval,t2]; exact row_loadN r6 x4.len) ?_
 refine⟨xs,d',_,rfl,x4,h1,h2,hs.same (k6 rb om),⟨om,fun c hc hp=>by rw[k6 c om,F5.old c hc hp]⟩,.inl ⟨e1,w5,rfl,rfl,rfl,ok5,hx5.mono fun c hc=>?_⟩⟩
 have c1:=hc.1.1
 have c2:=hc.1.2
 exact⟨⟨om,om⟩,k6 c om⟩
theorem live_or{rb:Nat}{s:Bs}{f:Nat}(ih:∀f',f'≤f→LiveE rb s (fnK 4) fun d w=>pE s f' (.rule 4) d w):LiveE rb s 77 fun d w=>pE s (f+1) (.rule 5) d w:=by
 intro H w d r hsA ok hd hrb hr
 have dead:=dead_all rb s 4 om
 have fnk:fnK 4=115:=rfl
 rw[fnk]at dead
 have ih:∀f',f'≤f→LiveE rb s 115 fun d w=>pE s f' (.rule 4) d w:=ih
 refine acalls_ofN rfl za77 rfl ?_
 simp only[pE_succ,stepE]at hr
 obtain⟨H1,m1,r1,n1,k1⟩:=row_newL H [.int .u8 0,.str [],.int .i64 0,.slice none 0 (.known 0)] (n:=4) rfl
 have F1:Fp rb H H1:=⟨om,fun c hc _=>k1 c om⟩
 simp only[c77,sA,sB,seval,m1]
 refine (callE dead (ih f rL) (hsA.same (k1 rb om)) rL hd om (.inl ⟨w,rfl,rfl,ok,hr⟩)).mono ?_
 rintro _ H2 ⟨xs,d2,o2,rfl,x4,h1,h2,s2,F2,hx⟩
 have e2:=F2.next
 obtain⟨H3,m3,r3,n3,k3⟩:=row_newL H2 [.int .u8 0,.str [],.int .i64 0,.slice none 0 (.known 0)] (n:=4) rfl
 obtain⟨H4,m4,r4,n4,k4⟩:=row_storeN r3 (n:=4) rfl x4.len x4.one
 have k42:∀c,c<H2.next→H4.get c=H2.get c:=fun c hc=>by rw[k4 c om,k3 c om]
 have F4:Fp rb H H4:=⟨om,fun c hc hp=>by rw[k42 c om,F2.old c om hp,F1.old c hc hp]⟩
 simp only[sA,sB,seval,m3,m4]
 refine aw_loop (fun m (T:Env) H'=>∃o' d' xs,m≤f∧T 0=cellR rb 10 0∧T 2=cellR H.next 4 0∧T 3=cellR H2.next 4 0∧Row H' H2.next xs∧Ok4 xs∧Row H' H.next [.int .u8 0,.str [],.int .i64 0,.slice none 0 (.known 0)]∧Sta rb s H' o' d'∧d≤d'∧d'≤200∧Fp rb H H'∧H2.next<H'.next∧((∃e,Go s o' d' d r (fun w=>pE s m (.loop 5 e) d w)∧XE (fun c=>In (H.next+1) H'.next c∧c≠H2.next) H' e xs)∨∃e,r=.error e∧o'=.error e)) f
  ⟨o2,d2,xs,Nat.le_refl _,by simp only[sA,sB,seval],by simp only[sA,sB,seval],by simp only[sA,sB,seval],r4,x4,r1.same (by rw[k42 _ om,F2.old _ om om]),s2.same (k42 rb om),h1,h2,F4,om,hx.imp (fun ⟨e,g,q⟩=>⟨e,g,q.mono fun c hc=>by
   have c1:=hc.1
   have c2:=hc.2
   exact⟨⟨⟨om,om⟩,om⟩,k42 c c2⟩⟩) fun q=>q⟩ ?_
 rintro m T H5 ⟨o',d',xs,hm,t0,t2,t3,rx,x4,q2,hs,h1,h2,F5,lt5,hx⟩
 have e5:=F5.next
 have lx5:=row_loadN rx x4.len
 simp only[sA,sB,seval,t0,t2,t3]
 rcases hx with⟨e1,hgo,hx5⟩ | ⟨e,rfl,rfl⟩
 rotate_left
 ·skip
  refine (ris_spec hs _).mono ?_
  rintro _ _ ⟨rfl,rfl⟩
  simp only[isO,sA,sB,seval,t0,t2,t3]
  obtain⟨H6,m6,r6,n6,k6⟩:=row_storeN q2 (n:=4) rfl x4.len x4.one
  simp only[sA,sB,seval,t0,t2,t3,lx5,m6]
  refine fin_c1 _ _ _ _ (v:=.agg xs) (by simp only[sA,sB,seval,t2]; exact row_loadN r6 x4.len) ?_
  exact⟨xs,d',_,rfl,x4,h1,h2,hs.same (k6 rb om),⟨om,fun c hc hp=>by rw[k6 c om,F5.old c hc hp]⟩,.inr ⟨e,rfl,rfl⟩⟩
 rcases hgo with⟨w5,rfl,rfl,ok5,hp⟩ | ⟨e,rfl,rfl⟩
 rotate_left
 ·refine (ris_spec hs _).mono ?_
  rintro _ _ ⟨rfl,rfl⟩
  simp only[isO,sA,sB,seval,t0,t2,t3]
  obtain⟨H6,m6,r6,n6,k6⟩:=row_storeN q2 (n:=4) rfl x4.len x4.one
  simp only[sA,sB,seval,t0,t2,t3,lx5,m6]
  refine fin_c1 _ _ _ _ (v:=.agg xs) (by simp only[sA,sB,seval,t2]; exact row_loadN r6 x4.len) ?_
  exact⟨xs,d',_,rfl,x4,h1,h2,hs.same (k6 rb om),⟨om,fun c hc hp=>by rw[k6 c om,F5.old c hc hp]⟩,.inr ⟨e,rfl,rfl⟩⟩
 cases m with
 | zero=>simp[pE]at hp
 | succ m=>
 rw[pE_succ]at hp
 simp only[stepE,Nat.add_one_sub_one,Nat.reduceSub]at hp
 have lS:oLoad false 1 H5 (cellR rb 10 2)=some (.str w5.S):=row_load (show Row H5 rb (rObj s w5 0 0 d') from hs) rfl rfl
 have hlv:sgn w5 (lvl 5)=isB w5 [124,124]:=(isB_sgn ok5 rfl).symm
 refine (ris_spec hs _).mono ?_
 rintro _ _ ⟨rfl,rfl⟩
 have i1:isO (.ok w5) [124,124]=isB w5 [124,124]:=rfl
 rw[i1]
 cases b1:isB w5 [124,124] with
 | true=>
  rw[if_pos (by rw[hlv,b1] <;> rfl)]at hp
  have hgo:Go s (Except.ok w5) d' d' r fun w=>onW (stepW s w) fun w1=>onR (pE s m (.rule 4) d' w1) fun e2 w2=>pE s m (.loop 5 (.mk 3 w5.S 0 [e1,e2])) d' w2:=.inl ⟨w5,rfl,rfl,ok5,hp⟩
  have hS5:w5.S=[124,124]:=by simp only[isB,Bool.and_eq_true,decide_eq_true_eq]at b1; exact b1.2
  rw[hS5]at hgo
  simp only[sA,sB,seval,t0,t2,t3]
  refine (rtake_spec hs om (Go.en hgo)).mono ?_
  rintro _ H6 ⟨s6,F6⟩
  have g6:=Go.take hgo
  have e6:=F6.next
  have x6:=rx.same (F6.old _ lt5 om)
  have lx6:=row_loadN x6 x4.len
  simp only[sA,sB,seval,t0,t2,t3]
  refine aw_drawC rfl ?_
  simp only[sR,sA,sB,seval,t0,t2,t3,lx6]
  refine (callE dead (ih m om) s6 h1 h2 om g6).mono ?_
  rintro _ H7 ⟨ys,d7,o7,rfl,y4,y5,y6,s7,F7,hy⟩
  have e7:=F7.next
  have F57:=F6.trans F7
  have x7:=x6.same (F7.old _ om om)
  have lx7:=row_loadN x7 x4.len
  simp only[sR,sA,sB,seval,t0,t2,t3]
  refine (ftwo_spec _ x4.len y4.len x4.one y4.one).mono ?_
  rintro _ H8 ⟨b,rfl,b1,b2,rB,E8⟩
  have e8:=E8.next
  have s8:=s7.same (E8.old rb om)
  have x8:=x7.same (E8.old _ om)
  have o4:=ok4_op [124,124] b
  obtain⟨H9,m9,r9,n9,k9⟩:=row_storeN x8 (n:=4) x4.len o4.len o4.one
  have k95:∀c,c<H5.next→c≠rb→c≠H2.next→H9.get c=H5.get c:=fun c h1 h2 h3=>by rw[k9 c h3,E8.old c om,F57.old c h1 h2]
  simp only[sR,sA,sB,seval,t0,t2,t3,m9]
  simp only[ck_nil',ck_cons,ckP_load,ckP_nil,ck_end,and_true,true_and,List.map_cons,List.map_nil,sA,sB,seval,t0,t2,t3]
  refine⟨⟨_,rfl,fun _=>⟨_,lx7,by simpa[aeq] using x4.aeq⟩⟩,m,om,o7,d7,_,om,r9,o4,q2.same (k95 _ om om om),s8.same (k9 rb om),y5,y6,⟨by have:=F5.next; omega,fun c h1 h2=>by rw[k95 c (by have:=F5.next; omega) h2 om,F5.old c h1 h2]⟩,om,?_⟩
  rcases hy with⟨e2,gy,xy⟩ | ⟨e,rfl,rfl⟩
  case inr=>exact .inr ⟨e,rfl,rfl⟩
  refine .inl ⟨.mk 3 [124,124] 0 [e1,e2],gy,⟨_,xs++ys,rfl,.row (rB.same (k9 _ om)) (by rw[lA,x4.len,y4.len]) rfl ⟨⟨om,om⟩,om⟩,xs,ys,rfl,hx5.mono fun c hc=>?_,.sing (xy.mono fun c hc=>?_)⟩⟩
  ·have c1:=hc.1.1
   have c2:=hc.1.2
   exact⟨⟨⟨c1,om⟩,hc.2⟩,k95 c c2 om hc.2⟩
  ·have c1:=hc.1
   have c2:=hc.2
   exact⟨⟨⟨om,om⟩,om⟩,by rw[k9 c om,E8.old c om]⟩
 | false=>
 rw[if_neg (by rw[hlv]; simp only[b1]; simp)]at hp
 simp only[fineR,sJ]at hp
 subst hp
 obtain⟨H6,m6,r6,n6,k6⟩:=row_storeN q2 (n:=4) rfl x4.len x4.one
 simp only[sA,sB,seval,t0,t2,t3,lx5,m6]
 refine fin_c1 _ _ _ _ (v:=.agg xs) (by simp only[sA,sB,seval,t2]; exact row_loadN r6 x4.len) ?_
 refine⟨xs,d',_,rfl,x4,h1,h2,hs.same (k6 rb om),⟨om,fun c hc hp=>by rw[k6 c om,F5.old c hc hp]⟩,.inl ⟨e1,w5,rfl,rfl,rfl,ok5,hx5.mono fun c hc=>?_⟩⟩
 have c1:=hc.1.1
 have c2:=hc.1.2
 exact⟨⟨om,om⟩,k6 c om⟩
open Go.Abs Go.Abs.S
def cmpB(o:Except Flt Wd):Bool:=isO o [61,61]||(isO o [33,61]||(isO o [60,61]||(isO o [62,61]||(isO o [60]||isO o [62]))))
theorem cmpB_ok{s:Bs}{w:Wd}(h:WOk s w):cmpB (.ok w)=sgn w (lvl 3):=by
 unfold cmpB
 simp only[isO]
 rw[isB_sgn h rfl,isB_sgn h rfl,isB_sgn h rfl,isB_sgn h rfl,isB_sgn h rfl,isB_sgn h rfl]
 unfold sgn lvl
 cases Nat.beq w.k 4 <;> simp
theorem live_cmp{rb:Nat}{s:Bs}{f:Nat}(ih:∀f',f'≤f→LiveE rb s 185 fun d w=>pE s f' (.rule 2) d w):LiveE rb s 161 fun d w=>pE s (f+1) (.rule 3) d w:=by
 intro H w d r hsA ok hd hrb hr
 have dead:DeadE rb s 185:=dead_all rb s 2 om
 refine acalls_ofN rfl za161 rfl ?_
 simp only[pE_succ,stepE]at hr
 obtain⟨H1,m1,r1,n1,k1⟩:=row_newL H [.int .u8 0,.str [],.int .i64 0,.slice none 0 (.known 0)] (n:=4) rfl
 have F1:Fp rb H H1:=⟨om,fun c hc _=>k1 c om⟩
 simp only[c161,sA,sB,seval,m1]
 refine (callE dead (ih f rL) (hsA.same (k1 rb om)) rL hd om (.inl ⟨w,rfl,rfl,ok,hr⟩)).mono ?_
 rintro _ H2 ⟨xs,d2,o2,rfl,x4,h1,h2,s2,F2,hx⟩
 have e2:=F2.next
 obtain⟨H3,m3,r3,n3,k3⟩:=row_newL H2 [.int .u8 0,.str [],.int .i64 0,.slice none 0 (.known 0)] (n:=4) rfl
 obtain⟨H4,m4,r4,n4,k4⟩:=row_storeN r3 (n:=4) rfl x4.len x4.one
 have k42:∀c,c<H2.next→H4.get c=H2.get c:=fun c hc=>by rw[k4 c om,k3 c om]
 have F4:Fp rb H H4:=⟨om,fun c hc hp=>by rw[k42 c om,F2.old c om hp,F1.old c hc hp]⟩
 have s4:=s2.same (k42 rb om)
 have q4:Row H4 H.next _:=r1.same (by rw[k42 _ om,F2.old _ om om])
 have lx4:=row_loadN r4 x4.len
 simp only[sA,sB,seval,m3,m4]
 refine ACalls.mono (K:=kont _ _ _ _ (fun T' H'=>H4=H'∧T' 0=cellR rb 10 0∧T' 2=cellR H.next 4 0∧T' 3=cellR H2.next 4 0∧T' 28=.bool (cmpB o2))) ?_ (fun v H' h=>wRegs_mono (calls_mono _ _) _ ?_ h)
 ·refine (ris_spec s4 _).mono ?_
  rintro _ _ ⟨rfl,rfl⟩
  cases b1:isO o2 [61,61] with
  | true=>simp only[sA,sB,seval,cmpB,b1]; exact⟨tt,tt,tt,tt,by rfl⟩
  | false=>
  simp only[sA,sB,seval]
  refine (ris_spec s4 _).mono ?_
  rintro _ _ ⟨rfl,rfl⟩
  cases b2:isO o2 [33,61] with
  | true=>simp only[sA,sB,seval,cmpB,b1,b2]; exact⟨tt,tt,tt,tt,by rfl⟩
  | false=>
  simp only[sA,sB,seval]
  refine (ris_spec s4 _).mono ?_
  rintro _ _ ⟨rfl,rfl⟩
  cases b3:isO o2 [60,61] with
  | true=>simp only[sA,sB,seval,cmpB,b1,b2,b3]; exact⟨tt,tt,tt,tt,by rfl⟩
  | false=>
  simp only[sA,sB,seval]
  refine (ris_spec s4 _).mono ?_
  rintro _ _ ⟨rfl,rfl⟩
  cases b4:isO o2 [62,61] with
  | true=>simp only[sA,sB,seval,cmpB,b1,b2,b3,b4]; exact⟨tt,tt,tt,tt,by rfl⟩
  | false=>
  simp only[sA,sB,seval]
  refine (ris_spec s4 _).mono ?_
  rintro _ _ ⟨rfl,rfl⟩
  cases b5:isO o2 [60] with
  | true=>simp only[sA,sB,seval,cmpB,b1,b2,b3,b4,b5]; exact⟨tt,tt,tt,tt,by rfl⟩
  | false=>
  simp only[sA,sB,seval]
  refine (ris_spec s4 _).mono ?_
  rintro _ _ ⟨rfl,rfl⟩
  cases b6:isO o2 [62] with
  | true=>simp only[sA,sB,seval,cmpB,b1,b2,b3,b4,b5,b6]; exact⟨tt,tt,tt,tt,by rfl⟩
  | false=>simp only[sA,sB,seval,cmpB,b1,b2,b3,b4,b5,b6]; exact⟨tt,tt,tt,tt,by rfl⟩
 rintro T _ ⟨rfl,t0,t2,t3,t28⟩
 cases hb:cmpB o2 with
 | false=>
  rw[hb]at t28
  obtain⟨H6,m6,r6,n6,k6⟩:=row_storeN q4 (n:=4) rfl x4.len x4.one
  simp only[sA,sB,seval,t0,t2,t3,t28,lx4,m6]
  refine fin_c1 _ _ _ _ (v:=.agg xs) (by simp only[sA,sB,seval,t2]; exact row_loadN r6 x4.len) ?_
  refine⟨xs,d2,o2,rfl,x4,h1,h2,s4.same (k6 rb om),⟨om,fun c hc hp=>by rw[k6 c om,F4.old c hc hp]⟩,?_⟩
  rcases hx with⟨e1,hgo,hx5⟩ | ⟨e,rfl,rfl⟩
  case inr=>exact .inr ⟨e,rfl,rfl⟩
  rcases hgo with⟨w5,rfl,rfl,ok5,hp⟩ | ⟨e,rfl,rfl⟩
  case inr=>exact .inr ⟨e,rfl,rfl⟩
  cases f with
  | zero=>simp[pE]at hp
  | succ m=>
  rw[pE_succ]at hp
  simp only[stepE]at hp
  rw[if_neg (by rw[← cmpB_ok ok5,hb]; simp)]at hp
  simp only[fineR,sJ]at hp
  subst hp
  refine .inl ⟨e1,w5,rfl,rfl,rfl,ok5,hx5.mono fun c hc=>?_⟩
  have c1:=hc.1
  have c2:=hc.2
  exact⟨⟨om,om⟩,by rw[k6 c om,k42 c c2]⟩
 | true=>
 rw[hb]at t28
 have alive:∃w5,o2=.ok w5:=by
  cases o2 with
  | ok w=>exact⟨w,rfl⟩
  | error e=>exact absurd hb (by simp[cmpB,isO])
 obtain⟨w5,rfl⟩:=alive
 rcases hx with⟨e1,hgo,hx5⟩ | ⟨e,_,he⟩
 rotate_left
 ·simp at he
 rcases hgo with⟨w5',hw5,rfl,ok5,hp⟩ | ⟨e,he,_⟩
 rotate_left
 ·simp at he
 simp only[Except.ok.injEq]at hw5
 subst hw5
 cases f with
 | zero=>simp[pE]at hp
 | succ m=>
 rw[pE_succ]at hp
 simp only[stepE]at hp
 rw[if_pos (by rw[← cmpB_ok ok5,hb])]at hp
 have hgo:Go s (Except.ok w5) d2 d2 r fun w=>onW (stepW s w) fun w1=>onR (pE s m (.rule 2) d2 w1) fun e2 w2=>fineR (.mk 3 w5.S 0 [e1,e2]) w2:=.inl ⟨w5,rfl,rfl,ok5,hp⟩
 obtain⟨SG,hSG⟩:∃SG,SG=w5.S:=⟨_,rfl⟩
 have lS:oLoad false 1 H4 (cellR rb 10 2)=some (.str w5.S):=row_load (show Row H4 rb (rObj s w5 0 0 d2) from s4) rfl rfl
 rw[← hSG]at hgo lS
 simp only[sA,sB,seval,t0,t2,t3,t28,nil_cell,fldA,lS]
 refine (rtake_spec s4 om (Go.en hgo)).mono ?_
 rintro _ H6 ⟨s6,F6⟩
 have g6:=Go.take hgo
 have e6:=F6.next
 have x6:=r4.same (F6.old _ om om)
 have lx6:=row_loadN x6 x4.len
 simp only[sA,sB,seval,t0,t2,t3]
 refine aw_drawC rfl ?_
 simp only[sR,sA,sB,seval,t0,t2,t3,lx6]
 refine (callE dead (ih m om) s6 h1 h2 om g6).mono ?_
 rintro _ H7 ⟨ys,d7,o7,rfl,y4,y5,y6,s7,F7,hy⟩
 have e7:=F7.next
 have F57:=F6.trans F7
 have x7:=x6.same (F7.old _ om om)
 have lx7:=row_loadN x7 x4.len
 simp only[sR,sA,sB,seval,t0,t2,t3]
 refine (ftwo_spec _ x4.len y4.len x4.one y4.one).mono ?_
 rintro _ H8 ⟨b,rfl,b1,b2,rB,E8⟩
 have e8:=E8.next
 have s8:=s7.same (E8.old rb om)
 have x8:=x7.same (E8.old _ om)
 have o4:=ok4_op SG b
 obtain⟨H9,m9,r9,n9,k9⟩:=row_storeN x8 (n:=4) x4.len o4.len o4.one
 have k95:∀c,c<H4.next→c≠rb→c≠H2.next→H9.get c=H4.get c:=fun c h1 h2 h3=>by rw[k9 c h3,E8.old c om,F57.old c h1 h2]
 obtain⟨Ha,ma,ra,na,ka⟩:=row_storeN (H:=H9) (q4.same (k95 _ om om om)) (n:=4) rfl o4.len o4.one
 have l9:=row_loadN r9 o4.len
 simp only[sR,sA,sB,seval,t0,t2,t3,m9]
 simp only[ck_nil',ck_cons,ckP_load,ckP_nil,ck_end,and_true,true_and,List.map_cons,List.map_nil,sA,sB,seval,t0,t2,t3]
 refine⟨⟨_,rfl,fun _=>⟨_,lx7,by simpa[aeq] using x4.aeq⟩⟩,?_⟩
 simp only[sA,sB,seval,t0,t2,t3,l9,ma]
 refine fin_c1 _ _ _ _ (by simp only[sA,sB,seval,t2]; exact row_loadN ra o4.len) ?_
 refine⟨_,d7,o7,rfl,o4,y5,y6,s8.same (by rw[ka rb om,k9 rb om]),⟨om,fun c hc hp=>by rw[ka c om,k95 c om hp om,F4.old c hc hp]⟩,?_⟩
 rcases hy with⟨e2,gy,xy⟩ | ⟨e,rfl,rfl⟩
 case inr=>exact .inr ⟨e,rfl,rfl⟩
 rcases gy with⟨w7,rfl,rfl,ok7,hp7⟩ | ⟨e,rfl,rfl⟩
 case inr=>exact .inr ⟨e,rfl,rfl⟩
 simp only[fineR,sJ]at hp7
 subst hp7
 refine .inl ⟨.mk 3 SG 0 [e1,e2],w7,rfl,rfl,rfl,ok7,_,xs++ys,rfl,.row (rB.same (by rw[ka _ om,k9 _ om])) (by rw[lA,x4.len,y4.len]) rfl ⟨om,om⟩,xs,ys,rfl,hx5.mono fun c hc=>?_,.sing (xy.mono fun c hc=>?_)⟩
 ·have c1:=hc.1
  have c2:=hc.2
  exact⟨⟨om,om⟩,by rw[ka c om,k95 c om om om,k42 c c2]⟩
 ·have c1:=hc.1
  have c2:=hc.2
  exact⟨⟨om,om⟩,by rw[ka c om,k9 c om,E8.old c om]⟩
end Go.Proofs.Wo
