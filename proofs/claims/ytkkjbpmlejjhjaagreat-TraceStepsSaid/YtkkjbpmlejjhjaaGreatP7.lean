/- Part of a proof (UF7 UC2 UF8 UF9 UFA UFC UFD UFE); no condition. -/
import Derived.Test.YtkkjbpmlejjhjaaGreatProg
import Derived.KernelRfl
import Derived.Test.YtkkjbpmlejjhjaaGreatP5
import Derived.Test.YtkkjbpmlejjhjaaGreatP6
set_option linter.unusedSimpArgs false
set_option linter.unusedVariables false
set_option linter.defProp false
set_option linter.unnecessarySimpa false
namespace Go.Proofs.Tc
open Go.Abs Go.Abs.S
open Go.Proofs.Tx (and32 shr32 shl32 shl32w ishl32 ishr32 uw wmul wmulw wadd wsub orU64 lt32_mul halves)
theorem aw_seq_cut{C:CS}(hC:CMono C){a b:ACode}{Q:Post}{T:Env}{H:AHeap}(F:Env→AHeap→Prop)(h:wp C a (inSeq Q F) T H)(k:∀T H,F T H→wp C b Q T H):wp C (.seq a b) Q T H:=
 wp_mono' hC a (inSeq_mono (fun _ _ _ h=>h) fun T H hk=>k T H hk) h
theorem min_if(a b:Int):(if b<a then b else a)=min a b:=om
theorem max_if(a b:Int):(if a<b then b else a)=max a b:=om
theorem pf_maxI(a b:Int):aPf (.mm true) [.int .i64 a,.int .i64 b]=some (.int .i64 (if a<b then b else a)):=by
 simp only[aPf,aMMs,aMM,aMM1,cond_true,ltF_eq]
 by_cases h:a<b <;> simp[h]
theorem quoC{a b:Int}(hb:1<b)(ha:J64 a):aBin .quo (.int .i64 a) (.int .i64 b)=some (.int .i64 (a.tdiv b)):=by
 rw[bin_quo _ _ _ om]
 unfold J64 at ha
 have h:-9223372036854775808≤a.tdiv b∧a.tdiv b≤9223372036854775807:=by
  rcases Int.le_total 0 a with h | h
  ·have h1:=Int.tdiv_le_self b h
   have h2:=Int.tdiv_nonneg h (by omega:0≤b)
   omega
  ·obtain⟨c,rfl⟩:∃c,a=-c:=⟨-a,om⟩
   rw[Int.neg_tdiv]
   have h1:=Int.tdiv_le_self b (show 0≤c by omega)
   have h2:=Int.tdiv_nonneg (show 0≤c by omega) (by omega:0≤b)
   omega
 rw[wrap64 h.1 h.2]
theorem tdiv_half{a b:Int}(hb:1<b)(ha:J64 a):-4611686018427387904≤a.tdiv b∧a.tdiv b≤4611686018427387904:=by
 unfold J64 at ha
 have key:∀c:Int,0≤c→c≤9223372036854775808→c.tdiv b≤4611686018427387904∧0≤c.tdiv b:=fun c h0 h1=>by
  refine⟨?_,Int.tdiv_nonneg h0 om⟩
  rw[Int.tdiv_eq_ediv_of_nonneg h0]
  exact Int.ediv_le_of_le_mul om om
 rcases Int.le_total 0 a with h | h
 ·have:=key a h om; omega
 ·obtain⟨c,rfl⟩:∃c,a=-c:=⟨-a,om⟩
  rw[Int.neg_tdiv]
  have:=key c om om; omega
theorem sin_spec{a:Int}(ha:J64 a){H:AHeap}:ACalls Tryz.prog noNat 106 [.int .i64 a] H fun v H'=>v=.int .i64 (fSin a)∧H=H':=by
 refine acalls_ofN rfl za106 rfl ?_
 have hm:-26986075409<a.tmod 26986075409∧a.tmod 26986075409<26986075409:=by
  have h1:=Int.tmod_lt_of_pos a (show (0:Int)<26986075409 by decide)
  have h2:=Int.lt_tmod_of_pos a (show (0:Int)<26986075409 by decide)
  omega
 have s1:aBin .rem (.int .i64 a) (.int .i64 26986075409)=some (.int .i64 (a.tmod 26986075409)):=bin_rem _ _ _ dD
 obtain⟨r0,hr0⟩:∃r,r=a.tmod 26986075409:=⟨_,rfl⟩
 rw[← hr0]at hm s1
 obtain⟨r1,hr1⟩:∃r,r=if r0<0 then r0+26986075409 else r0:=⟨_,rfl⟩
 have b1:0≤r1∧r1<26986075409:=om
 obtain⟨r2,hr2⟩:∃r,r=if 13493037704<r1 then r1-26986075409 else r1:=⟨_,rfl⟩
 have b2:-13493037704≤r2∧r2≤13493037704:=om
 obtain⟨r3,hr3⟩:∃r,r=if 6746518852<r2 then 13493037704-r2 else if r2 < -6746518852 then -13493037704-r2 else r2:=⟨_,rfl⟩
 have b3:J64 r3:=by unfold J64; omega
 have ef:fSin a=(let q:=fMul r3 r3
  let s:=4294967296-q.tdiv 72
  let s:=4294967296-(fMul q s).tdiv 42
  let s:=4294967296-(fMul q s).tdiv 20
  let s:=4294967296-(fMul q s).tdiv 6
  min (max (fMul r3 s) (-4294967296)) 4294967296):=by
  subst hr3 hr2 hr1 hr0; rfl
 rw[ef]
 simp only[c106]
 refine aw_seq_cut (calls_mono _ _) (fun T H'=>T 0=.int .i64 a∧H=H') (by simp only[sA,sB,seval]; exact⟨tt,tt⟩) ?_
 rintro T _ ⟨t0,rfl⟩
 refine aw_seq_cut (calls_mono _ _) (fun T H'=>T 3=.int .i64 r0∧H=H') (by simp only[sA,sB,seval,t0,s1]; exact⟨tt,tt⟩) ?_
 clear t0 T
 rintro T _ ⟨t3,rfl⟩
 refine aw_seq_cut (calls_mono _ _) (fun T H'=>T 3=.int .i64 r1∧H=H') ?_ ?_
 ·by_cases h:r0<0
  ·have w:IntKind.i64.wrap (r0+26986075409)=r1:=by rw[if_pos h]at hr1; rw[wrap64 om om,hr1]
   simp only[sA,sB,seval,t3,h,w]; exact⟨tt,tt⟩
  ·rw[if_neg h]at hr1
   simp only[sA,sB,seval,t3,h,hr1]; exact⟨tt,tt⟩
 clear t3 T
 rintro T _ ⟨t3,rfl⟩
 refine aw_seq_cut (calls_mono _ _) (fun T H'=>T 3=.int .i64 r2∧H=H') ?_ ?_
 ·by_cases h:13493037704<r1
  ·have w:IntKind.i64.wrap (r1-26986075409)=r2:=by rw[if_pos h]at hr2; rw[wrap64 om om,hr2]
   simp only[sA,sB,seval,t3,h,w]; exact⟨tt,tt⟩
  ·rw[if_neg h]at hr2
   simp only[sA,sB,seval,t3,h,hr2]; exact⟨tt,tt⟩
 clear t3 T
 rintro T _ ⟨t3,rfl⟩
 refine aw_seq_cut (calls_mono _ _) (fun T H'=>T 3=.int .i64 r3∧H=H') ?_ ?_
 ·by_cases h:6746518852<r2
  ·have w:IntKind.i64.wrap (13493037704-r2)=r3:=by rw[if_pos h]at hr3; rw[wrap64 om om,hr3]
   simp only[sA,sB,seval,t3,h,w]; exact⟨tt,tt⟩
  ·rw[if_neg h]at hr3
   by_cases h2:r2 < -6746518852
   ·have w:IntKind.i64.wrap (-13493037704-r2)=r3:=by rw[if_pos h2]at hr3; rw[wrap64 om om,hr3]
    simp only[sA,sB,seval,t3,h,h2,w]; exact⟨tt,tt⟩
   ·rw[if_neg h2]at hr3
    simp only[sA,sB,seval,t3,h,h2,hr3]; exact⟨tt,tt⟩
 clear t3 T
 rintro T _ ⟨t3,rfl⟩
 have wd:∀{x:Int} (b:Int),1<b→J64 x→IntKind.i64.wrap (4294967296-x.tdiv b)=4294967296-x.tdiv b∧J64 (4294967296-x.tdiv b):=fun {x} b hb hx=>by
  have:=tdiv_half hb hx
  exact⟨wrap64 om om,by unfold J64; omega⟩
 simp only[sA,sB,seval,t3]
 refine (mul_spec b3 b3).mono ?_
 rintro _ _ ⟨rfl,rfl⟩
 have q1:=fMul_j r3 r3
 generalize fMul r3 r3=q at *
 obtain⟨w1,j1⟩:=wd 72 dD q1
 simp only[sA,sB,seval,quoC (a:=q) (b:=72) dD q1,w1]
 refine (mul_spec q1 j1).mono ?_
 rintro _ _ ⟨rfl,rfl⟩
 generalize 4294967296-q.tdiv 72=sa at *
 obtain⟨w2,j2⟩:=wd 42 dD (fMul_j q sa)
 simp only[sA,sB,seval,quoC (a:=fMul q sa) (b:=42) dD (fMul_j ..),w2]
 refine (mul_spec q1 j2).mono ?_
 rintro _ _ ⟨rfl,rfl⟩
 generalize 4294967296-(fMul q sa).tdiv 42=sb at *
 obtain⟨w3,j3⟩:=wd 20 dD (fMul_j q sb)
 simp only[sA,sB,seval,quoC (a:=fMul q sb) (b:=20) dD (fMul_j ..),w3]
 refine (mul_spec q1 j3).mono ?_
 rintro _ _ ⟨rfl,rfl⟩
 generalize 4294967296-(fMul q sb).tdiv 20=sc at *
 obtain⟨w4,j4⟩:=wd 6 dD (fMul_j q sc)
 simp only[sA,sB,seval,quoC (a:=fMul q sc) (b:=6) dD (fMul_j ..),w4,t3]
 refine (mul_spec b3 j4).mono ?_
 rintro _ _ ⟨rfl,rfl⟩
 simp only[sA,sB,seval,pf_maxI,min_if,max_if]
 exact⟨tt,tt⟩
theorem cos_spec{a:Int}(ha:J64 a){H:AHeap}:ACalls Tryz.prog noNat 105 [.int .i64 a] H fun v H'=>v=.int .i64 (fCos a)∧H=H':=by
 refine acalls_ofN rfl za105 rfl ?_
 have h:J64 6746518852:=⟨by decide,by decide⟩
 simp only[c105,sA,sB,seval]
 refine (add_spec ha h).mono ?_
 rintro _ _ ⟨rfl,rfl⟩
 simp only[sA,sB,seval]
 refine (sin_spec (fAdd_j ha h)).mono ?_
 rintro _ _ ⟨rfl,rfl⟩
 simp only[sA,sB,seval]
 exact⟨rfl,tt⟩
open Go.Abs Go.Abs.S
noncomputable section
def c34:AFn:=⟨38,zq [zo 1 (.box (.t 0)),zo 2 (.mv (zi 0))] (zr [zf 4 0 1,zl 5 4,zh 6 5,zk 7 .gtr 6 4096] 7 (zq [zo 2 (.mv (zi 14))] .ret) .skip (zr [zf 8 1 1,zl 9 8,zh 10 9,zk 11 .gtr 10 4096,zm 12 11,zg 13 (.fieldA 2 (.t 1)) 12 false,zg 14 (.load false 1 (.t 13)) 12 false,zg 15 (.len false (.t 14)) 12 false,zg 16 (.fieldA 1 (.t 1)) 12 false,zg 17 (.load false 1 (.t 16)) 12 false,zg 18 (.len false (.t 17)) 12 false,zg 19 (.bin .sub (zi 4096) (.t 18)) 12 false,zg 20 (.bin .gtr (.t 15) (.t 19)) 12 false,zo 21 (.pick (.t 12) (.c (.bool true)) (.t 20))] 21 (zq [zo 2 (.mv (zi 14))] .ret) .skip (zq [zf 22 0 1,zl 23 22,zx 24 77 [.t 23,.f 78],zm 25 24,zg 26 (.fieldA 1 (.t 1)) 25 true,zg 27 (.load false 1 (.t 26)) 25 true,zg 28 (.mkFunc (.func 80) [] [.t 1]) 25 true,zg 29 (.call 79 [.t 27,.t 28]) 25 true,zo 30 (.pick (.t 25) (.t 29) (.c (.bool false))),zm 31 30,zg 32 (.fieldA 2 (.t 1)) 31 true,zg 33 (.load false 1 (.t 32)) 31 true,zg 34 (.call 82 [.t 33,.f 83]) 31 true,zo 35 (.pick (.t 31) (.t 34) (.c (.bool false))),zm 3 35] (zr [zm 36 3,zo 37 (.un .not (.t 36))] 37 (zq [zo 2 (.mv (zi 14))] .ret) .skip (zq [zo 2 (.mv (zi 0))] .ret))))),[.t 2]⟩
theorem za34:cN Tryz.prog 34=some c34:=by kernel_rfl
def c77:AFn:=⟨18,zq [zo 4 (.mv (.c (.bool false)))] (.seq (zq [zm 7 0,zh 8 7,zo 9 (.mv (zi 0))] (.block 0 (.loop (zq [zb 10 .lss 9 8] (.seq (.cond (.t 10) .skip (.exit 0)) (.seq (.block 1 (zq [zo 11 (.idxA 3 (.t 7) (.t 9)),zt 12 3 11,zo 6 (.new [zI 0,zI 0,zI 0]),zp (.store 3 (.t 6) (.t 12))] (zq [zm 13 1,zt 14 3 6,zo 15 (.callv (.t 13) [.t 14]),zo 16 (.un .not (.t 15))] (.cond (.t 16) (zq [zo 4 (.mv (.c (.bool false)))] .ret) .skip)))) (.reg [zk 17 .add 9 1,zm 9 17]))))))) (zq [zo 4 (.mv (.c (.bool true)))] .ret)),[.t 4]⟩
theorem za77:cN Tryz.prog 77=some c77:=by kernel_rfl
def c78:AFn:=⟨20,zq [zo 1 (.box (.t 0)),zo 2 (.mv (.c (.bool false)))] (zq [zo 3 (.mv (.f 109))] (zq [zm 4 3,zf 5 0 1,zl 6 5,zo 7 (.callv (.t 4) [.t 6]),zm 8 7,zg 9 (.mv (.t 3)) 8 true,zg 10 (.fieldA 1 (.t 1)) 8 true,zg 11 (.load false 1 (.t 10)) 8 true,zg 12 (.callv (.t 9) [.t 11]) 8 true,zo 13 (.pick (.t 8) (.t 12) (.c (.bool false))),zm 14 13,zg 15 (.mv (.t 3)) 14 true,zg 16 (.fieldA 2 (.t 1)) 14 true,zg 17 (.load false 1 (.t 16)) 14 true,zg 18 (.callv (.t 15) [.t 17]) 14 true,zo 19 (.pick (.t 14) (.t 18) (.c (.bool false))),zm 2 19] .ret)),[.t 2]⟩
theorem za78:cN Tryz.prog 78=some c78:=by kernel_rfl
def c109:AFn:=⟨9,zq [zo 2 (.mv (.c (.bool false)))] (zq [zm 3 0,zo 4 (.bin .leq (.c (.int .i64 (.negSucc 4503599627370495))) (.t 3)),zm 5 4,zg 6 (.mv (.t 0)) 5 true,zg 7 (.bin .leq (.t 6) (zi 4503599627370496)) 5 true,zo 8 (.pick (.t 5) (.t 7) (.c (.bool false))),zm 2 8] .ret),[.t 2]⟩
theorem za109:cN Tryz.prog 109=some c109:=by kernel_rfl
def c80:AFn:=⟨9,zq [zo 2 (.box (.t 0)),zo 3 (.mv (.c (.bool false)))] (zq [zf 4 0 1,zl 5 4,zh 6 5,zt 7 3 2,zx 8 81 [.t 6,.t 7],zm 3 8] .ret),[.t 3]⟩
theorem za80:cN Tryz.prog 80=some c80:=by kernel_rfl
def c81:AFn:=⟨19,zq [zo 3 (.box (.t 1)),zo 4 (.mv (.c (.bool false)))] (.seq (zq [zt 7 3 3,zo 8 (.mv (zi 0))] (.block 0 (.loop (zq [zk 9 .lss 8 3] (.seq (.cond (.t 9) .skip (.exit 0)) (.seq (.block 1 (zq [zo 10 (.idx 3 1 false (.t 7) (.t 8)),zm 6 10] (zq [zm 11 6,zk 12 .lss 11 0,zm 13 12,zg 14 (.mv (.t 6)) 13 false,zg 15 (.mv (.t 0)) 13 false,zg 16 (.bin .geq (.t 14) (.t 15)) 13 false,zo 17 (.pick (.t 13) (.c (.bool true)) (.t 16))] (.cond (.t 17) (zq [zo 4 (.mv (.c (.bool false)))] .ret) .skip)))) (.reg [zk 18 .add 8 1,zm 8 18]))))))) (zq [zo 4 (.mv (.c (.bool true)))] .ret)),[.t 4]⟩
theorem za81:cN Tryz.prog 81=some c81:=by kernel_rfl
def c79:AFn:=⟨18,zq [zo 4 (.mv (.c (.bool false)))] (.seq (zq [zm 7 0,zh 8 7,zo 9 (.mv (zi 0))] (.block 0 (.loop (zq [zb 10 .lss 9 8] (.seq (.cond (.t 10) .skip (.exit 0)) (.seq (.block 1 (zq [zo 11 (.idxA 3 (.t 7) (.t 9)),zt 12 3 11,zo 6 (.new [zI 0,zI 0,zI 0]),zp (.store 3 (.t 6) (.t 12))] (zq [zm 13 1,zt 14 3 6,zo 15 (.callv (.t 13) [.t 14]),zo 16 (.un .not (.t 15))] (.cond (.t 16) (zq [zo 4 (.mv (.c (.bool false)))] .ret) .skip)))) (.reg [zk 17 .add 9 1,zm 9 17]))))))) (zq [zo 4 (.mv (.c (.bool true)))] .ret)),[.t 4]⟩
theorem za79:cN Tryz.prog 79=some c79:=by kernel_rfl
def c82:AFn:=⟨18,zq [zo 4 (.mv (.c (.bool false)))] (.seq (zq [zm 7 0,zh 8 7,zo 9 (.mv (zi 0))] (.block 0 (.loop (zq [zb 10 .lss 9 8] (.seq (.cond (.t 10) .skip (.exit 0)) (.seq (.block 1 (zq [zo 11 (.idxA 4 (.t 7) (.t 9)),zt 12 4 11,zo 6 (.new [zI 0,zI 0,zI 0,zI 0]),zp (.store 4 (.t 6) (.t 12))] (zq [zm 13 1,zt 14 4 6,zo 15 (.callv (.t 13) [.t 14]),zo 16 (.un .not (.t 15))] (.cond (.t 16) (zq [zo 4 (.mv (.c (.bool false)))] .ret) .skip)))) (.reg [zk 17 .add 9 1,zm 9 17]))))))) (zq [zo 4 (.mv (.c (.bool true)))] .ret)),[.t 4]⟩
theorem za82:cN Tryz.prog 82=some c82:=by kernel_rfl
def c83:AFn:=⟨16,zq [zo 1 (.box (.t 0)),zo 2 (.mv (.c (.bool false)))] (zq [zf 3 0 1,zt 4 3 3,zx 5 78 [.t 4],zm 6 5,zg 7 (.fieldA 3 (.t 1)) 6 true,zg 8 (.load false 1 (.t 7)) 6 true,zg 9 (.bin .leq (zi 1) (.t 8)) 6 true,zo 10 (.pick (.t 6) (.t 9) (.c (.bool false))),zm 11 10,zg 12 (.fieldA 3 (.t 1)) 11 true,zg 13 (.load false 1 (.t 12)) 11 true,zg 14 (.bin .leq (.t 13) (zi 4503599627370496)) 11 true,zo 15 (.pick (.t 11) (.t 14) (.c (.bool false))),zm 2 15] .ret),[.t 2]⟩
theorem za83:cN Tryz.prog 83=some c83:=by kernel_rfl
def c50:AFn:=⟨10,zq [zo 1 (.box (.t 0)),zo 2 (.mv (zi 0))] (zq [zf 3 1 1,zl 4 3,zh 5 4,zf 6 2 1,zl 7 6,zh 8 7,zb 9 .add 5 8,zm 2 9] .ret),[.t 2]⟩
theorem za50:cN Tryz.prog 50=some c50:=by kernel_rfl
def c85:AFn:=⟨147,zq [zo 2 (.box (.t 0)),zo 4 (.new [zI 0,zI 0,zI 0,zI 0,zI 0,zI 0])] (zr [zm 10 1,zk 11 .lss 10 0,zm 12 11,zg 13 (.mv (.t 1)) 12 false,zg 14 (.load true 3 (.t 2)) 12 false,zg 15 (.call 50 [.t 14]) 12 false,zg 16 (.bin .geq (.t 13) (.t 15)) 12 false,zo 17 (.pick (.t 12) (.c (.bool true)) (.t 16))] 17 (zq [zo 18 (.build [zI 0,zI 0,zI 0,zI 0,zI 0,zI 0] []),zp (.store 6 (.t 4) (.t 18))] .ret) .skip (zr [zm 19 1,zf 20 1 2,zl 21 20,zh 22 21,zb 23 .geq 19 22] 23 (zq [zf 24 2 2,zl 25 24,zm 26 1,zf 27 1 2,zl 28 27,zh 29 28,zb 30 .sub 26 29,zo 31 (.idxA 4 (.t 25) (.t 30)),zt 32 4 31,zo 5 (.new [zI 0,zI 0,zI 0,zI 0]),zp (.store 4 (.t 5) (.t 32))] (.seq (.draw [zf 33 0 5,zf 34 0 33,zl 35 34,zf 36 3 5,zl 37 36,zx 38 87 [.t 35,.t 37],zf 39 0 5,zf 40 1 39,zl 41 40,zf 42 3 5,zl 43 42,zx 44 87 [.t 41,.t 43],zf 45 0 5,zf 46 2 45,zl 47 46,zf 48 3 5,zl 49 48,zx 50 87 [.t 47,.t 49],zo 51 (.build [zI 0,zI 0,zI 0] [(0,1,.t 38),(1,1,.t 44),(2,1,.t 50)]),zf 52 0 5,zf 53 0 52,zl 54 53,zf 55 3 5,zl 56 55,zx 57 69 [.t 54,.t 56],zf 58 0 5,zf 59 1 58,zl 60 59,zf 61 3 5,zl 62 61,zx 63 69 [.t 60,.t 62],zf 64 0 5,zf 65 2 64,zl 66 65,zf 67 3 5,zl 68 67,zx 69 69 [.t 66,.t 68],zo 70 (.build [zI 0,zI 0,zI 0] [(0,1,.t 57),(1,1,.t 63),(2,1,.t 69)]),zo 71 (.build [zI 0,zI 0,zI 0,zI 0,zI 0,zI 0] [(0,3,.t 51),(3,3,.t 70)]),zp (.store 6 (.t 4) (.t 71))] [[],[],[],[],[],[],[],[],[5],[],[5],[],[],[],[5,11],[],[5,11],[],[],[],[],[5,11,17],[],[5,11,17],[],[],[],[5,11,17,24],[],[5,11,17,24],[],[],[],[5,11,17,24,30],[],[5,11,17,24,30],[],[],[],[]]) .ret)) .skip (zq [zf 72 1 2,zl 73 72,zm 74 1,zo 75 (.idxA 3 (.t 73) (.t 74)),zt 76 3 75,zo 6 (.new [zI 0,zI 0,zI 0]),zp (.store 3 (.t 6) (.t 76))] (zr [zf 77 0 2,zl 78 77,zh 79 78,zt 80 3 6,zx 81 81 [.t 79,.t 80],zo 82 (.un .not (.t 81))] 82 (zq [zo 83 (.build [zI 0,zI 0,zI 0,zI 0,zI 0,zI 0] []),zp (.store 6 (.t 4) (.t 83))] .ret) .skip (.seq (.draw [zf 84 0 2,zl 85 84,zo 86 (.idxArr 3 1 (.t 6) (zi 0)),zl 87 86,zo 88 (.idxA 3 (.t 85) (.t 87)),zt 89 3 88,zf 90 0 2,zl 91 90,zo 92 (.idxArr 3 1 (.t 6) (zi 1)),zl 93 92,zo 94 (.idxA 3 (.t 91) (.t 93)),zt 95 3 94,zf 96 0 2,zl 97 96,zo 98 (.idxArr 3 1 (.t 6) (zi 2)),zl 99 98,zo 100 (.idxA 3 (.t 97) (.t 99)),zt 101 3 100,zo 7 (.new [zI 0,zI 0,zI 0]),zo 8 (.new [zI 0,zI 0,zI 0]),zo 9 (.new [zI 0,zI 0,zI 0]),zp (.store 3 (.t 7) (.t 89)),zp (.store 3 (.t 8) (.t 95)),zp (.store 3 (.t 9) (.t 101))] [[],[],[],[],[],[],[],[22],[],[22],[],[22],[],[22,23],[],[22,23],[],[22,23],[],[],[],[],[],[]]) (zq [zf 102 0 7,zl 103 102,zf 104 0 8,zl 105 104,zf 106 0 9,zl 107 106,zo 108 (.pf (.mm false) [.t 103,.t 105,.t 107]),zf 109 1 7,zl 110 109,zf 111 1 8,zl 112 111,zf 113 1 9,zl 114 113,zo 115 (.pf (.mm false) [.t 110,.t 112,.t 114]),zf 116 2 7,zl 117 116,zf 118 2 8,zl 119 118,zf 120 2 9,zl 121 120,zo 122 (.pf (.mm false) [.t 117,.t 119,.t 121]),zo 123 (.build [zI 0,zI 0,zI 0] [(0,1,.t 108),(1,1,.t 115),(2,1,.t 122)]),zf 124 0 7,zl 125 124,zf 126 0 8,zl 127 126,zf 128 0 9,zl 129 128,zo 130 (.pf (.mm true) [.t 125,.t 127,.t 129]),zf 131 1 7,zl 132 131,zf 133 1 8,zl 134 133,zf 135 1 9,zl 136 135,zo 137 (.pf (.mm true) [.t 132,.t 134,.t 136]),zf 138 2 7,zl 139 138,zf 140 2 8,zl 141 140,zf 142 2 9,zl 143 142,zo 144 (.pf (.mm true) [.t 139,.t 141,.t 143]),zo 145 (.build [zI 0,zI 0,zI 0] [(0,1,.t 130),(1,1,.t 137),(2,1,.t 144)]),zo 146 (.build [zI 0,zI 0,zI 0,zI 0,zI 0,zI 0] [(0,3,.t 123),(3,3,.t 145)]),zp (.store 6 (.t 4) (.t 146))] .ret)))))),[.cell true 6 4]⟩
theorem za85:cN Tryz.prog 85=some c85:=by kernel_rfl
def c46:AFn:=⟨89,zq [zo 5 (.box (.t 0)),zo 10 (.new [zI 0,zI 0,zI 0,zI 0,zI 0,zI 0])] (.seq (.draw [zf 22 0 5,zl 23 22,zo 24 (.pf (.mm true) [.t 23,zi 1]),zx 25 65 [.t 24],zf 26 1 5,zl 27 26,zo 28 (.pf (.mm true) [.t 27,zi 1]),zx 29 65 [.t 28],zm 11 25,zm 12 29] [[],[],[],[],[],[3],[],[],[],[]]) (zq [zf 30 8 5,zt 31 3 30,zf 32 5 5,zt 33 3 32,zx 34 54 [.t 31,.t 33],zx 35 52 [.t 34],zo 13 (.new [zI 0,zI 0,zI 0]),zp (.store 3 (.t 13) (.t 35))] (zq [zt 36 3 13,zf 37 11 5,zt 38 3 37,zx 39 53 [.t 36,.t 38],zx 40 52 [.t 39],zo 14 (.new [zI 0,zI 0,zI 0]),zp (.store 3 (.t 14) (.t 40))] (zq [zt 41 3 14,zt 42 3 13,zx 43 53 [.t 41,.t 42],zo 15 (.new [zI 0,zI 0,zI 0]),zp (.store 3 (.t 15) (.t 43))] (zq [zm 44 1,zx 45 65 [.t 44],zm 46 3,zx 47 69 [.t 45,.t 46],zm 48 11,zx 49 63 [.t 47,.t 48],zm 16 49] (zq [zm 50 2,zx 51 65 [.t 50],zm 52 4,zx 53 69 [.t 51,.t 52],zm 54 12,zx 55 63 [.t 53,.t 54],zm 17 55] (.seq (.draw [zm 56 16,zm 57 16,zx 58 69 [.t 56,.t 57],zx 59 87 [.t 58,zi 4294967296],zf 60 14 5,zl 61 60,zx 62 60 [.t 59,.t 61],zm 18 62] [[],[],[],[],[],[2,3],[],[]]) (zq [zf 63 14 5,zl 64 63,zm 65 12,zx 66 60 [.t 64,.t 65],zm 67 11,zx 68 63 [.t 66,.t 67],zm 19 68] (zq [zm 69 17,zm 70 17,zx 71 69 [.t 69,.t 70],zx 72 87 [zi 4294967296,.t 71],zm 73 19,zx 74 60 [.t 72,.t 73],zm 20 74] (.seq (.draw [zt 75 3 13,zt 76 3 14,zm 77 18,zx 78 55 [.t 76,.t 77],zt 79 3 15,zm 80 20,zx 81 55 [.t 79,.t 80],zx 82 49 [.t 78,.t 81],zx 83 49 [.t 75,.t 82],zo 21 (.new [zI 0,zI 0,zI 0]),zp (.store 3 (.t 21) (.t 83))] [[6,7,8],[],[],[],[3],[],[],[],[],[3,6,7,8],[]]) (.seq (.draw [zf 84 5 5,zt 85 3 84,zt 86 3 21,zx 87 52 [.t 86],zo 88 (.build [zI 0,zI 0,zI 0,zI 0,zI 0,zI 0] [(0,3,.t 85),(3,3,.t 87)]),zp (.store 6 (.t 10) (.t 88))] [[],[5],[],[],[],[]]) .ret))))))))))),[.cell true 6 10]⟩
theorem za46:cN Tryz.prog 46=some c46:=by kernel_rfl
def c89:AFn:=⟨60,zq [zo 2 (.box (.t 0)),zo 3 (.box (.t 1)),zo 4 (.mv (zi 0)),zo 5 (.mv (.c (.bool false)))] (zq [zo 6 (.new [zI 0]),zo 7 (.new [zI 0]),zp (.store 1 (.t 6) (zi 0)),zp (.store 1 (.t 7) (zi 9223372036854775807))] (zq [zo 10 (.mkFunc (.func 115) [] [.t 6,.t 7]),zm 8 10] (zq [zm 11 8,zf 12 0 2,zf 13 0 12,zl 14 13,zf 15 3 2,zf 16 0 15,zl 17 16,zf 18 0 3,zf 19 0 18,zl 20 19,zf 21 3 3,zf 22 0 21,zl 23 22,zo 24 (.callv (.t 11) [.t 14,.t 17,.t 20,.t 23]),zm 25 24,zg 26 (.mv (.t 8)) 25 true,zg 27 (.fieldA 0 (.t 2)) 25 true,zg 28 (.fieldA 1 (.t 27)) 25 true,zg 29 (.load false 1 (.t 28)) 25 true,zg 30 (.fieldA 3 (.t 2)) 25 true,zg 31 (.fieldA 1 (.t 30)) 25 true,zg 32 (.load false 1 (.t 31)) 25 true,zg 33 (.fieldA 0 (.t 3)) 25 true,zg 34 (.fieldA 1 (.t 33)) 25 true,zg 35 (.load false 1 (.t 34)) 25 true,zg 36 (.fieldA 3 (.t 3)) 25 true,zg 37 (.fieldA 1 (.t 36)) 25 true,zg 38 (.load false 1 (.t 37)) 25 true,zg 39 (.callv (.t 26) [.t 29,.t 32,.t 35,.t 38]) 25 true,zo 40 (.pick (.t 25) (.t 39) (.c (.bool false))),zm 41 40,zg 42 (.mv (.t 8)) 41 true,zg 43 (.fieldA 0 (.t 2)) 41 true,zg 44 (.fieldA 2 (.t 43)) 41 true,zg 45 (.load false 1 (.t 44)) 41 true,zg 46 (.fieldA 3 (.t 2)) 41 true,zg 47 (.fieldA 2 (.t 46)) 41 true,zg 48 (.load false 1 (.t 47)) 41 true,zg 49 (.fieldA 0 (.t 3)) 41 true,zg 50 (.fieldA 2 (.t 49)) 41 true,zg 51 (.load false 1 (.t 50)) 41 true,zg 52 (.fieldA 3 (.t 3)) 41 true,zg 53 (.fieldA 2 (.t 52)) 41 true,zg 54 (.load false 1 (.t 53)) 41 true,zg 55 (.callv (.t 42) [.t 45,.t 48,.t 51,.t 54]) 41 true,zo 56 (.pick (.t 41) (.t 55) (.c (.bool false))),zm 9 56] (zr [zm 57 9,zo 58 (.un .not (.t 57))] 58 (zq [zo 4 (.mv (zi 0)),zo 5 (.mv (.c (.bool false)))] .ret) .skip (zq [zl 59 6,zm 4 59,zo 5 (.mv (.c (.bool true)))] .ret))))),[.t 4,.t 5]⟩
theorem za89:cN Tryz.prog 89=some c89:=by kernel_rfl
def c115:AFn:=⟨46,zq [zo 10 (.mv (.c (.bool false)))] (zr [zm 13 1,zk 14 .eql 13 0] 14 (zq [zm 15 0,zm 16 2,zb 17 .geq 15 16,zm 18 17,zg 19 (.mv (.t 0)) 18 true,zg 20 (.mv (.t 3)) 18 true,zg 21 (.bin .leq (.t 19) (.t 20)) 18 true,zo 22 (.pick (.t 18) (.t 21) (.c (.bool false))),zm 10 22] .ret) .skip (zq [zm 23 2,zm 24 0,zx 25 87 [.t 23,.t 24],zm 26 1,zx 27 63 [.t 25,.t 26],zm 28 3,zm 29 0,zx 30 87 [.t 28,.t 29],zm 31 1,zx 32 63 [.t 30,.t 31],zm 11 27,zm 12 32] (zr [zm 33 1,zk 34 .lss 33 0] 34 (.reg [zm 35 12,zm 36 11,zm 11 35,zm 12 36]) .skip (.seq (.draw [zl 37 4,zm 38 11,zo 39 (.pf (.mm true) [.t 37,.t 38]),zl 40 5,zm 41 12,zo 42 (.pf (.mm false) [.t 40,.t 41]),zs 4 39,zs 5 42] [[],[],[],[7],[],[],[],[]]) (zq [zl 43 4,zl 44 5,zb 45 .leq 43 44,zm 10 45] .ret))))),[.t 10]⟩
theorem za115:cN Tryz.prog 115=some c115:=by kernel_rfl
def c90:AFn:=⟨83,zq [zo 4 (.box (.t 0)),zo 6 (.box (.t 2)),zo 8 (.new [zI 0,zI 0,zI 0,zI 0]),zo 9 (.mv (.c (.bool false)))] (zr [zm 16 1,zk 17 .lss 16 0,zm 18 17,zg 19 (.mv (.t 1)) 18 false,zg 20 (.load true 3 (.t 4)) 18 false,zg 21 (.call 50 [.t 20]) 18 false,zg 22 (.bin .geq (.t 19) (.t 21)) 18 false,zo 23 (.pick (.t 18) (.c (.bool true)) (.t 22))] 23 (zq [zx 24 116 [],zp (.store 4 (.t 8) (.t 24)),zo 9 (.mv (.c (.bool false)))] .ret) .skip (zr [zm 25 1,zf 26 1 4,zl 27 26,zh 28 27,zb 29 .geq 25 28] 29 (zq [zt 30 3 4,zm 31 1,zt 32 6 6,zm 33 3,zx 34 117 [.t 30,.t 31,.t 32,.t 33],ze 35 0 34,ze 36 1 34,zp (.store 4 (.t 8) (.t 35)),zm 9 36] .ret) .skip (zq [zt 38 3 4,zm 39 1,zx 40 51 [.t 38,.t 39],zm 37 40,ze 41 0 37,ze 42 1 37,ze 43 2 37,ze 44 3 37,zo 10 (.new [zI 0,zI 0,zI 0]),zo 11 (.new [zI 0,zI 0,zI 0]),zo 12 (.new [zI 0,zI 0,zI 0]),zp (.store 3 (.t 10) (.t 41)),zp (.store 3 (.t 11) (.t 42)),zp (.store 3 (.t 12) (.t 43)),zm 13 44] (zr [zm 45 13,zo 46 (.un .not (.t 45))] 46 (zq [zx 47 116 [],zp (.store 4 (.t 8) (.t 47)),zo 9 (.mv (.c (.bool false)))] .ret) .skip (.seq (.draw [zt 49 6 6,zt 50 3 4,zm 51 1,zx 52 85 [.t 50,.t 51],zx 53 89 [.t 49,.t 52],zm 48 53,ze 54 0 48,ze 55 1 48,zm 14 54,zm 13 55] [[4],[],[],[],[],[],[],[],[],[]]) (zr [zm 56 13,zo 57 (.un .not (.t 56))] 57 (zq [zx 58 116 [],zp (.store 4 (.t 8) (.t 58)),zo 9 (.mv (.c (.bool false)))] .ret) .skip (zq [zt 60 6 6,zt 61 3 10,zt 62 3 11,zt 63 3 12,zx 64 118 [.t 60,.t 61,.t 62,.t 63],zm 59 64,ze 65 0 59,ze 66 1 59,zo 15 (.new [zI 0,zI 0,zI 0,zI 0]),zp (.store 4 (.t 15) (.t 65)),zm 13 66] (zr [zm 67 13,zo 68 (.un .not (.t 67))] 68 (zq [zx 69 116 [],zp (.store 4 (.t 8) (.t 69)),zo 9 (.mv (.c (.bool false)))] .ret) .skip (zq [zf 70 0 15,zl 71 70,zm 72 14,zo 73 (.pf (.mm true) [.t 71,.t 72]),zf 74 0 15,zs 74 73] (zr [zf 75 0 15,zl 76 75,zm 77 3,zb 78 .lss 76 77] 78 (zq [zx 79 116 [],zp (.store 4 (.t 8) (.t 79)),zo 9 (.mv (.c (.bool false)))] .ret) .skip (zq [zm 80 1,zf 81 1 15,zs 81 80] (zq [zt 82 4 15,zp (.store 4 (.t 8) (.t 82)),zo 9 (.mv (.c (.bool true)))] .ret)))))))))))),[.cell true 4 8,.t 9]⟩
theorem za90:cN Tryz.prog 90=some c90:=by kernel_rfl
def c116:AFn:=⟨2,zq [zo 0 (.new [zI 0,zI 0,zI 0,zI 0])] (zq [zo 1 (.build [zI 0,zI 0,zI 0,zI 0] [(1,1,.c (.int .i64 (.negSucc 0)))]),zp (.store 4 (.t 0) (.t 1))] .ret),[.cell true 4 0]⟩
theorem za116:cN Tryz.prog 116=some c116:=by kernel_rfl
def c117:AFn:=⟨64,zq [zo 4 (.box (.t 0)),zo 6 (.box (.t 2)),zo 8 (.new [zI 0,zI 0,zI 0,zI 0]),zo 9 (.mv (.c (.bool false)))] (.seq (.draw [zt 17 6 6,zt 18 3 4,zm 19 1,zx 20 85 [.t 18,.t 19],zx 21 89 [.t 17,.t 20],zm 16 21,ze 22 0 16,ze 23 1 16,zm 10 22,zm 11 23] [[4],[],[],[],[],[],[],[],[],[]]) (zr [zm 24 11,zo 25 (.un .not (.t 24))] 25 (zq [zx 26 116 [],zp (.store 4 (.t 8) (.t 26)),zo 9 (.mv (.c (.bool false)))] .ret) .skip (zq [zt 28 6 6,zf 29 2 4,zl 30 29,zm 31 1,zf 32 1 4,zl 33 32,zh 34 33,zb 35 .sub 31 34,zo 36 (.idxA 4 (.t 30) (.t 35)),zt 37 4 36,zx 38 136 [.t 28,.t 37],zm 27 38,ze 39 0 27,ze 40 1 27,ze 41 2 27,zm 12 39,zm 13 40,zm 11 41] (zr [zm 42 11,zo 43 (.un .not (.t 42))] 43 (zq [zx 44 116 [],zp (.store 4 (.t 8) (.t 44)),zo 9 (.mv (.c (.bool false)))] .ret) .skip (.seq (zq [zm 45 12,zm 46 13,zo 47 (.build [zI 0,zI 0] [(0,1,.t 45),(1,1,.t 46)]),zo 48 (.mv (zi 0))] (.block 0 (.loop (zq [zk 49 .lss 48 2] (.seq (.cond (.t 49) .skip (.exit 0)) (.seq (.block 1 (zq [zo 50 (.idx 2 1 false (.t 47) (.t 48)),zm 15 50] (zr [zm 51 15,zk 52 .lss 51 0] 52 (.exit 1) .skip (zq [zm 53 15,zm 54 10,zo 55 (.pf (.mm true) [.t 53,.t 54]),zm 15 55] (zq [zm 56 15,zm 57 3,zb 58 .geq 56 57] (.cond (.t 58) (zq [zm 59 15,zm 60 1,zo 61 (.build [zI 0,zI 0,zI 0,zI 0] [(0,1,.t 59),(1,1,.t 60)]),zp (.store 4 (.t 8) (.t 61)),zo 9 (.mv (.c (.bool true)))] .ret) .skip)))))) (.reg [zk 62 .add 48 1,zm 48 62]))))))) (zq [zx 63 116 [],zp (.store 4 (.t 8) (.t 63)),zo 9 (.mv (.c (.bool false)))] .ret)))))),[.cell true 4 8,.t 9]⟩
theorem za117:cN Tryz.prog 117=some c117:=by kernel_rfl
def c136:AFn:=⟨61,zq [zo 2 (.box (.t 0)),zo 3 (.box (.t 1)),zo 4 (.mv (zi 0)),zo 5 (.mv (zi 0)),zo 6 (.mv (.c (.bool false)))] (zq [zf 13 0 2,zt 14 3 13,zf 15 0 3,zt 16 3 15,zx 17 54 [.t 14,.t 16],zo 7 (.new [zI 0,zI 0,zI 0]),zp (.store 3 (.t 7) (.t 17))] (zq [zf 18 3 2,zt 19 3 18,zf 20 3 2,zt 21 3 20,zx 22 56 [.t 19,.t 21],zm 8 22] (zr [zm 23 8,zk 24 .eql 23 0] 24 (zq [zo 4 (.mv (zi 0)),zo 5 (.mv (zi 0)),zo 6 (.mv (.c (.bool false)))] .ret) .skip (zq [zt 25 3 7,zf 26 3 2,zt 27 3 26,zx 28 56 [.t 25,.t 27],zm 9 28] (.seq (.draw [zt 29 3 7,zt 30 3 7,zx 31 56 [.t 29,.t 30],zf 32 3 3,zl 33 32,zf 34 3 3,zl 35 34,zx 36 60 [.t 33,.t 35],zx 37 87 [.t 31,.t 36],zm 10 37] [[],[],[],[],[2],[],[2],[],[],[]]) (zq [zm 38 9,zm 39 9,zx 40 60 [.t 38,.t 39],zm 41 8,zm 42 10,zx 43 60 [.t 41,.t 42],zx 44 87 [.t 40,.t 43],zm 11 44] (zr [zm 45 11,zk 46 .lss 45 0] 46 (zq [zo 4 (.mv (zi 0)),zo 5 (.mv (zi 0)),zo 6 (.mv (.c (.bool false)))] .ret) .skip (zq [zm 47 11,zx 48 104 [.t 47],zm 12 48] (zq [zm 49 9,zx 50 96 [.t 49],zm 51 12,zx 52 87 [.t 50,.t 51],zm 53 8,zx 54 63 [.t 52,.t 53],zm 55 9,zx 56 96 [.t 55],zm 57 12,zx 58 69 [.t 56,.t 57],zm 59 8,zx 60 63 [.t 58,.t 59],zm 4 54,zm 5 60,zo 6 (.mv (.c (.bool true)))] .ret))))))))),[.t 4,.t 5,.t 6]⟩
theorem za136:cN Tryz.prog 136=some c136:=by kernel_rfl
def c51:AFn:=⟨63,zq [zo 2 (.box (.t 0)),zo 4 (.new [zI 0,zI 0,zI 0]),zo 5 (.new [zI 0,zI 0,zI 0]),zo 6 (.new [zI 0,zI 0,zI 0]),zo 7 (.mv (.c (.bool false)))] (zr [zm 11 1,zk 12 .lss 11 0,zm 13 12,zg 14 (.mv (.t 1)) 13 false,zg 15 (.fieldA 1 (.t 2)) 13 false,zg 16 (.load false 1 (.t 15)) 13 false,zg 17 (.len false (.t 16)) 13 false,zg 18 (.bin .geq (.t 14) (.t 17)) 13 false,zo 19 (.pick (.t 13) (.c (.bool true)) (.t 18))] 19 (zq [zo 20 (.build [zI 0,zI 0,zI 0] []),zo 21 (.build [zI 0,zI 0,zI 0] []),zo 22 (.build [zI 0,zI 0,zI 0] []),zp (.store 3 (.t 4) (.t 20)),zp (.store 3 (.t 5) (.t 21)),zp (.store 3 (.t 6) (.t 22)),zo 7 (.mv (.c (.bool false)))] .ret) .skip (zq [zf 23 1 2,zl 24 23,zm 25 1,zo 26 (.idxA 3 (.t 24) (.t 25)),zt 27 3 26,zo 8 (.new [zI 0,zI 0,zI 0]),zp (.store 3 (.t 8) (.t 27))] (.seq (zq [zt 28 3 8,zo 29 (.mv (zi 0))] (.block 0 (.loop (zq [zk 30 .lss 29 3] (.seq (.cond (.t 30) .skip (.exit 0)) (.seq (.block 1 (zq [zo 31 (.idx 3 1 false (.t 28) (.t 29)),zm 10 31] (zq [zm 32 10,zk 33 .lss 32 0,zm 34 33,zg 35 (.mv (.t 10)) 34 false,zg 36 (.fieldA 0 (.t 2)) 34 false,zg 37 (.load false 1 (.t 36)) 34 false,zg 38 (.len false (.t 37)) 34 false,zg 39 (.bin .geq (.t 35) (.t 38)) 34 false,zo 40 (.pick (.t 34) (.c (.bool true)) (.t 39))] (.cond (.t 40) (zq [zo 41 (.build [zI 0,zI 0,zI 0] []),zo 42 (.build [zI 0,zI 0,zI 0] []),zo 43 (.build [zI 0,zI 0,zI 0] []),zp (.store 3 (.t 4) (.t 41)),zp (.store 3 (.t 5) (.t 42)),zp (.store 3 (.t 6) (.t 43)),zo 7 (.mv (.c (.bool false)))] .ret) .skip)))) (.reg [zk 44 .add 29 1,zm 29 44]))))))) (.seq (.draw [zf 45 0 2,zl 46 45,zo 47 (.idxArr 3 1 (.t 8) (zi 0)),zl 48 47,zo 49 (.idxA 3 (.t 46) (.t 48)),zt 50 3 49,zf 51 0 2,zl 52 51,zo 53 (.idxArr 3 1 (.t 8) (zi 1)),zl 54 53,zo 55 (.idxA 3 (.t 52) (.t 54)),zt 56 3 55,zf 57 0 2,zl 58 57,zo 59 (.idxArr 3 1 (.t 8) (zi 2)),zl 60 59,zo 61 (.idxA 3 (.t 58) (.t 60)),zt 62 3 61,zp (.store 3 (.t 4) (.t 50)),zp (.store 3 (.t 5) (.t 56)),zp (.store 3 (.t 6) (.t 62)),zo 7 (.mv (.c (.bool true)))] [[],[],[],[],[],[],[],[19],[],[19],[],[19],[],[19,20],[],[19,20],[],[19,20],[],[],[],[]]) .ret)))),[.cell true 3 4,.cell true 3 5,.cell true 3 6,.t 7]⟩
theorem za51:cN Tryz.prog 51=some c51:=by kernel_rfl
def c118:AFn:=⟨81,zq [zo 4 (.box (.t 0)),zo 5 (.box (.t 1)),zo 6 (.box (.t 2)),zo 7 (.box (.t 3)),zo 8 (.new [zI 0,zI 0,zI 0,zI 0]),zo 9 (.mv (.c (.bool false)))] (.seq (.draw [zt 19 3 6,zt 20 3 5,zx 21 54 [.t 19,.t 20],zt 22 3 7,zt 23 3 5,zx 24 54 [.t 22,.t 23],zo 10 (.new [zI 0,zI 0,zI 0]),zo 11 (.new [zI 0,zI 0,zI 0]),zp (.store 3 (.t 10) (.t 21)),zp (.store 3 (.t 11) (.t 24))] [[],[],[],[2],[2],[],[2,5],[2,5],[],[]]) (zq [zf 25 3 4,zt 26 3 25,zt 27 3 11,zx 28 53 [.t 26,.t 27],zo 12 (.new [zI 0,zI 0,zI 0]),zp (.store 3 (.t 12) (.t 28))] (zq [zt 29 3 10,zt 30 3 12,zx 31 56 [.t 29,.t 30],zm 13 31] (zr [zm 32 13,zk 33 .eql 32 0] 33 (zq [zo 34 (.build [zI 0,zI 0,zI 0,zI 0] []),zp (.store 4 (.t 8) (.t 34)),zo 9 (.mv (.c (.bool false)))] .ret) .skip (zq [zf 35 0 4,zt 36 3 35,zt 37 3 5,zx 38 54 [.t 36,.t 37],zo 14 (.new [zI 0,zI 0,zI 0]),zp (.store 3 (.t 14) (.t 38))] (zq [zt 39 3 14,zt 40 3 12,zx 41 56 [.t 39,.t 40],zm 42 13,zx 43 63 [.t 41,.t 42],zm 15 43] (zr [zm 44 15,zk 45 .lss 44 0,zm 46 45,zg 47 (.mv (.t 15)) 46 false,zg 48 (.bin .gtr (.t 47) (zi 4294967296)) 46 false,zo 49 (.pick (.t 46) (.c (.bool true)) (.t 48))] 49 (zq [zo 50 (.build [zI 0,zI 0,zI 0,zI 0] []),zp (.store 4 (.t 8) (.t 50)),zo 9 (.mv (.c (.bool false)))] .ret) .skip (zq [zt 51 3 14,zt 52 3 10,zx 53 53 [.t 51,.t 52],zo 16 (.new [zI 0,zI 0,zI 0]),zp (.store 3 (.t 16) (.t 53))] (zq [zf 54 3 4,zt 55 3 54,zt 56 3 16,zx 57 56 [.t 55,.t 56],zm 58 13,zx 59 63 [.t 57,.t 58],zm 17 59] (zr [zm 60 17,zk 61 .lss 60 0,zm 62 61,zg 63 (.mv (.t 15)) 62 false,zg 64 (.mv (.t 17)) 62 false,zg 65 (.call 69 [.t 63,.t 64]) 62 false,zg 66 (.bin .gtr (.t 65) (zi 4294967296)) 62 false,zo 67 (.pick (.t 62) (.c (.bool true)) (.t 66))] 67 (zq [zo 68 (.build [zI 0,zI 0,zI 0,zI 0] []),zp (.store 4 (.t 8) (.t 68)),zo 9 (.mv (.c (.bool false)))] .ret) .skip (zq [zt 69 3 11,zt 70 3 16,zx 71 56 [.t 69,.t 70],zm 72 13,zx 73 63 [.t 71,.t 72],zm 18 73] (zr [zm 74 18,zk 75 .lss 74 0] 75 (zq [zo 76 (.build [zI 0,zI 0,zI 0,zI 0] []),zp (.store 4 (.t 8) (.t 76)),zo 9 (.mv (.c (.bool false)))] .ret) .skip (zq [zm 77 18,zm 78 15,zm 79 17,zo 80 (.build [zI 0,zI 0,zI 0,zI 0] [(0,1,.t 77),(2,1,.t 78),(3,1,.t 79)]),zp (.store 4 (.t 8) (.t 80)),zo 9 (.mv (.c (.bool true)))] .ret))))))))))))),[.cell true 4 8,.t 9]⟩
theorem za118:cN Tryz.prog 118=some c118:=by kernel_rfl
def c24:AFn:=⟨78,zq [zo 3 (.box (.t 0)),zo 4 (.box (.t 1)),zo 5 (.box (.t 2)),zo 6 (.new [zI 0,zI 0,zI 0])] (zq [zf 14 1 4,zl 15 14,zm 7 15] (zr [zm 16 7,zk 17 .lss 16 0,zm 18 17,zg 19 (.mv (.t 7)) 18 false,zg 20 (.load true 3 (.t 3)) 18 false,zg 21 (.call 50 [.t 20]) 18 false,zg 22 (.bin .geq (.t 19) (.t 21)) 18 false,zo 23 (.pick (.t 18) (.c (.bool true)) (.t 22))] 23 (zq [zo 24 (.build [zI 0,zI 0,zI 0] []),zp (.store 3 (.t 6) (.t 24))] .ret) .skip (zq [zo 8 (.new [zI 0,zI 0,zI 0])] (zr [zm 25 7,zf 26 1 3,zl 27 26,zh 28 27,zb 29 .lss 25 28] 29 (zq [zt 31 3 3,zm 32 7,zx 33 51 [.t 31,.t 32],zm 30 33,ze 34 0 30,ze 35 1 30,ze 36 2 30,ze 37 3 30,zo 9 (.new [zI 0,zI 0,zI 0]),zo 10 (.new [zI 0,zI 0,zI 0]),zo 11 (.new [zI 0,zI 0,zI 0]),zp (.store 3 (.t 9) (.t 34)),zp (.store 3 (.t 10) (.t 35)),zp (.store 3 (.t 11) (.t 36)),zm 12 37] (zr [zm 38 12,zo 39 (.un .not (.t 38))] 39 (zq [zo 40 (.build [zI 0,zI 0,zI 0] []),zp (.store 3 (.t 6) (.t 40))] .ret) .skip (.draw [zt 41 3 10,zt 42 3 9,zx 43 54 [.t 41,.t 42],zt 44 3 11,zt 45 3 9,zx 46 54 [.t 44,.t 45],zx 47 53 [.t 43,.t 46],zx 48 52 [.t 47],zp (.store 3 (.t 8) (.t 48))] [[],[],[],[2],[2],[],[],[],[]]))) (.seq (.draw [zf 49 0 5,zt 50 3 49,zf 51 3 5,zt 52 3 51,zf 53 0 4,zl 54 53,zx 55 55 [.t 52,.t 54],zx 56 49 [.t 50,.t 55],zo 13 (.new [zI 0,zI 0,zI 0]),zp (.store 3 (.t 13) (.t 56))] [[],[7],[],[],[],[],[],[],[6,7],[]]) (.reg [zt 57 3 13,zf 58 2 3,zl 59 58,zm 60 7,zf 61 1 3,zl 62 61,zh 63 62,zb 64 .sub 60 63,zo 65 (.idxA 4 (.t 59) (.t 64)),zf 66 0 65,zt 67 3 66,zx 68 54 [.t 57,.t 67],zx 69 52 [.t 68],zp (.store 3 (.t 8) (.t 69))])) (zr [zt 70 3 8,zf 71 3 5,zt 72 3 71,zx 73 56 [.t 70,.t 72],zk 74 .gtr 73 0] 74 (.reg [zt 75 3 8,zx 76 57 [.t 75],zp (.store 3 (.t 8) (.t 76))]) .skip (zq [zt 77 3 8,zp (.store 3 (.t 6) (.t 77))] .ret)))))),[.cell true 3 6]⟩
theorem za24:cN Tryz.prog 24=some c24:=by kernel_rfl
def c26:AFn:=⟨21,zq [zo 3 (.box (.t 0)),zo 4 (.box (.t 1)),zo 5 (.box (.t 2)),zo 6 (.new [zI 0,zI 0,zI 0,zI 0,zI 0,zI 0,zI 0,zI 0])] (.seq (.draw [zf 7 2 4,zl 8 7,zf 9 3 4,zl 10 9,zf 11 0 3,zt 12 3 11,zf 13 3 3,zt 14 3 13,zf 15 0 4,zl 16 15,zx 17 55 [.t 14,.t 16],zx 18 49 [.t 12,.t 17],zt 19 3 5,zo 20 (.build [zI 0,zI 0,zI 0,zI 0,zI 0,zI 0,zI 0,zI 0] [(0,1,.t 8),(1,1,.t 10),(2,3,.t 18),(5,3,.t 19)]),zp (.store 8 (.t 6) (.t 20))] [[],[11,14],[],[11,14],[],[11],[],[],[],[],[],[],[10,11],[],[]]) .ret),[.cell true 8 6]⟩
theorem za26:cN Tryz.prog 26=some c26:=by kernel_rfl
def c29:AFn:=⟨5,zq [zo 1 (.box (.t 0)),zo 2 (.new [zI 0,zI 0,zI 0])] (zq [zt 3 3 1,zx 4 61 [.t 3,.f 62],zp (.store 3 (.t 2) (.t 4))] .ret),[.cell true 3 2]⟩
theorem za29:cN Tryz.prog 29=some c29:=by kernel_rfl
def c61:AFn:=⟨18,zq [zo 2 (.box (.t 0)),zo 4 (.new [zI 0,zI 0,zI 0])] (.seq (.draw [zm 5 1,zf 6 0 2,zl 7 6,zo 8 (.callv (.t 5) [.t 7]),zm 9 1,zf 10 1 2,zl 11 10,zo 12 (.callv (.t 9) [.t 11]),zm 13 1,zf 14 2 2,zl 15 14,zo 16 (.callv (.t 13) [.t 15]),zo 17 (.build [zI 0,zI 0,zI 0] [(0,1,.t 8),(1,1,.t 12),(2,1,.t 16)]),zp (.store 3 (.t 4) (.t 17))] [[],[],[],[],[],[],[3],[],[],[],[3,7],[],[],[]]) .ret),[.cell true 3 4]⟩
theorem za61:cN Tryz.prog 61=some c61:=by kernel_rfl
def c62:AFn:=⟨6,zq [zo 2 (.mv (zi 0))] (zq [zm 3 0,zo 4 (.pf (.mm true) [.t 3,zi 0]),zo 5 (.pf (.mm false) [.t 4,zi 4294967296]),zm 2 5] .ret),[.t 2]⟩
theorem za62:cN Tryz.prog 62=some c62:=by kernel_rfl
def c64:AFn:=⟨67,zq [zo 6 (.box (.t 1)),zo 7 (.box (.t 2)),zo 10 (.new [zI 0,zI 0,zI 0])] (zr [zm 19 0,zo 20 (.bin .eql (.t 19) (zu 2))] 20 (zq [zt 21 3 6,zt 22 3 7,zx 23 103 [.t 21,.t 22],zp (.store 3 (.t 10) (.t 23))] .ret) .skip (zq [zm 24 3,zx 25 60 [zi 26986075409,.t 24],zm 11 25] (zq [zm 26 4,zx 27 104 [.t 26],zm 12 27] (zq [zm 28 4,zx 29 87 [zi 4294967296,.t 28],zx 30 104 [.t 29],zm 13 30] (zq [zf 31 0 7,zl 32 31,zm 14 32] (zr [zm 33 14,zk 34 .lss 33 0] 34 (.reg [zm 35 14,zx 36 96 [.t 35],zm 14 36]) .skip (zq [zo 37 (.build [zI 0,zI 0,zI 0] [(1,1,zi 4294967296)]),zo 15 (.new [zI 0,zI 0,zI 0]),zp (.store 3 (.t 15) (.t 37))] (zr [zm 38 14,zk 39 .leq 38 2147483648] 39 (.reg [zo 40 (.build [zI 0,zI 0,zI 0] [(0,1,zi 4294967296)]),zp (.store 3 (.t 15) (.t 40))]) .skip (zq [zt 41 3 15,zt 42 3 7,zx 43 53 [.t 41,.t 42],zx 44 52 [.t 43],zo 16 (.new [zI 0,zI 0,zI 0]),zp (.store 3 (.t 16) (.t 44))] (zq [zt 45 3 7,zt 46 3 16,zx 47 53 [.t 45,.t 46],zo 17 (.new [zI 0,zI 0,zI 0]),zp (.store 3 (.t 17) (.t 47))] (.seq (.draw [zt 48 3 16,zm 49 12,zm 50 11,zx 51 105 [.t 50],zx 52 60 [.t 49,.t 51],zx 53 55 [.t 48,.t 52],zt 54 3 17,zm 55 12,zm 56 11,zx 57 106 [.t 56],zx 58 60 [.t 55,.t 57],zx 59 55 [.t 54,.t 58],zx 60 49 [.t 53,.t 59],zo 18 (.new [zI 0,zI 0,zI 0]),zp (.store 3 (.t 18) (.t 60))] [[4,5],[],[],[],[],[],[3,4,5,10,11],[],[],[],[],[],[],[3,4,5,9,10,11,12],[]]) (.seq (.draw [zt 61 3 18,zt 62 3 7,zm 63 13,zx 64 55 [.t 62,.t 63],zx 65 49 [.t 61,.t 64],zx 66 52 [.t 65],zp (.store 3 (.t 10) (.t 66))] [[4],[],[],[],[],[],[]]) .ret)))))))))))),[.cell true 3 10]⟩
theorem za64:cN Tryz.prog 64=some c64:=by kernel_rfl
def c32:AFn:=⟨27,zq [zo 2 (.box (.t 0)),zo 4 (.new [zU 0,zU 0,zU 0,zU 0])] (zq [zm 8 1,zo 9 (.pf (.mm true) [.t 8,zi 1]),zx 10 65 [.t 9],zo 5 (.new [zI 0]),zs 5 10] (zq [zt 11 3 2,zo 12 (.mkFunc (.func 66) [] [.t 5]),zx 13 61 [.t 11,.t 12],zo 6 (.new [zI 0,zI 0,zI 0]),zp (.store 3 (.t 6) (.t 13))] (zq [zt 14 3 6,zx 15 29 [.t 14],zx 16 61 [.t 15,.f 67],zo 7 (.new [zI 0,zI 0,zI 0]),zp (.store 3 (.t 7) (.t 16))] (zq [zf 17 0 7,zl 18 17,zv 19 .u8 18,zf 20 1 7,zl 21 20,zv 22 .u8 21,zf 23 2 7,zl 24 23,zv 25 .u8 24,zo 26 (.build [zU 0,zU 0,zU 0,zU 0] [(0,1,.t 19),(1,1,.t 22),(2,1,.t 25),(3,1,zu 255)]),zp (.store 4 (.t 4) (.t 26))] .ret)))),[.cell true 4 4]⟩
theorem za32:cN Tryz.prog 32=some c32:=by kernel_rfl
def c66:AFn:=⟨7,zq [zo 3 (.mv (zi 0))] (zq [zm 4 0,zl 5 1,zx 6 63 [.t 4,.t 5],zm 3 6] .ret),[.t 3]⟩
theorem za66:cN Tryz.prog 66=some c66:=by kernel_rfl
def c67:AFn:=⟨8,zq [zo 2 (.mv (zi 0))] (zq [zm 3 0,zx 4 65 [zi 255],zx 5 60 [.t 3,.t 4],zx 6 69 [.t 5,zi 2147483648],zx 7 68 [.t 6],zm 2 7] .ret),[.t 2]⟩
theorem za67:cN Tryz.prog 67=some c67:=by kernel_rfl
end
open Go.Abs Go.Abs.S
open Go.Proofs.Tx (and32 shr32 shl32 shl32w ishl32 ishr32 uw wmul wmulw wadd wsub orU64 lt32_mul halves)
theorem xorU{a b:Nat}(ha:a<18446744073709551616)(hb:b<18446744073709551616):aBin .xor (.int .u64 (a:Int)) (.int .u64 (b:Int))=some (.int .u64 ((a ^^^ b:Nat):Int)):=bin_xorU .u64 (by simp) (by simpa[IntKind.bits] using ha) (by simpa[IntKind.bits] using hb)
theorem xor_lt{a b:Nat}(ha:a<18446744073709551616)(hb:b<18446744073709551616):a ^^^ b<18446744073709551616:=Nat.xor_lt_two_pow (n:=64) ha hb
theorem mix_lt(x:Nat):mixN x<18446744073709551616:=by
 unfold mixN
 simp only
 have h:∀y z,(y*z) % 18446744073709551616<18446744073709551616:=fun y z=>Nat.mod_lt _ dD
 exact xor_lt (h _ _) (Nat.lt_of_le_of_lt (Nat.div_le_self _ _) (h _ _))
theorem mix_spec{x:Nat}(hx:x<18446744073709551616){H:AHeap}:ACalls Tryz.prog noNat 135 [.int .u64 (x:Int)] H fun v H'=>v=.int .u64 (mixN x:Int)∧H=H':=by
 refine acalls_ofN rfl za135 rfl ?_
 have e30:=fun x=>shrN .u64 .u64 x (b:=30) dD
 have e27:=fun x=>shrN .u64 .u64 x (b:=27) dD
 have e31:=fun x=>shrN .u64 .u64 x (b:=31) dD
 simp only[Int.cast_ofNat_Int]at e30 e27 e31
 have hd:∀{y:Nat} (k:Nat),y<18446744073709551616→y / 2 ^ k<18446744073709551616:=fun k h=>Nat.lt_of_le_of_lt (Nat.div_le_self _ _) h
 have m1:∀y:Nat,IntKind.u64.wrap ((y:Int)*13787848793156543929)=((y*13787848793156543929 % 18446744073709551616:Nat):Int):=fun y=>wmulw y 13787848793156543929
 have m2:∀y:Nat,IntKind.u64.wrap ((y:Int)*10723151780598845931)=((y*10723151780598845931 % 18446744073709551616:Nat):Int):=fun y=>wmulw y 10723151780598845931
 obtain⟨x1,h1⟩:∃y,y=(x ^^^ x / 2 ^ 30)*13787848793156543929 % 18446744073709551616:=⟨_,rfl⟩
 have l1:x1<18446744073709551616:=by rw[h1]; exact Nat.mod_lt _ dD
 obtain⟨x2,h2⟩:∃y,y=(x1 ^^^ x1 / 2 ^ 27)*10723151780598845931 % 18446744073709551616:=⟨_,rfl⟩
 have l2:x2<18446744073709551616:=by rw[h2]; exact Nat.mod_lt _ dD
 have a1:=xorU hx (hd 30 hx)
 have a2:=xorU l1 (hd 27 l1)
 have a3:=xorU l2 (hd 31 l2)
 have e:mixN x=x2 ^^^ x2 / 2 ^ 31:=by unfold mixN; subst h2 h1; rfl
 simp only[c135,sA,sB,Int.reduceNegSucc,reduceCtorEq,Nat.reduceEqDiff,↓reduceIte,Nat.reduceAdd,Int.reduceEq,Int.reduceLT,Int.reduceLE,Nat.reduceLT,e30,a1,m1,← h1,e27,a2,m2,← h2,e31,a3,e]
 exact⟨tt,tt⟩
def mixG(x:Nat)(n:Int):Nat:=mixN ((x+u64 n+11400714819323198485) % 18446744073709551616)
theorem u64_wrap(n:Int):IntKind.u64.wrap n=(u64 n:Int):=by unfold u64; rw[IntKind.wrap_u64]; omega
theorem mixed_spec{seed:Nat}(hs:seed<18446744073709551616){l:List Int}(hl:l.length≤100){s:AVal}{H:AHeap}(c:Cel H.next H s (l.map (AVal.int .i64))) :
  ACalls Tryz.prog noNat 114 [.int .u64 (seed:Int),s] H fun v H'=>v=.int .u64 (mixedN seed l:Int)∧H=H':=by
 refine acalls_ofN rfl za114 rfl ?_
 have w0:IntKind.u64.wrap ((seed:Int)+11400714819323198485)=((( seed+11400714819323198485) % 18446744073709551616:Nat):Int):=by rw[IntKind.wrap_u64]; omega
 simp only[c114,sW,sL,sXs,sXO,sXP,sB,seval,w0]
 refine (mix_spec (Nat.mod_lt _ dD)).mono ?_
 rintro _ _ ⟨rfl,rfl⟩
 obtain⟨x0,hx0⟩:∃x,x=mixN ((seed+11400714819323198485) % 18446744073709551616):=⟨_,rfl⟩
 have l0:x0<18446744073709551616:=by rw[hx0]; exact mix_lt _
 have ef:mixedN seed l=l.foldl mixG x0:=by rw[hx0]; rfl
 have hlen:=c.len
 simp only[List.length_map]at hlen
 rw[← hx0,ef]
 simp only[sW,sL,sXs,sXO,sXP,sB,seval,hlen]
 rw[aw_block]
 refine aw_cut (fun (T:Env) H'=>T 5=.int .u64 (l.foldl mixG x0:Nat)∧H=H') (calls_mono _ _) ?_ ?_
 rotate_left
 ·rintro T _ ⟨t5,rfl⟩
  simp only[sA,sB,seval,t5]; exact⟨tt,tt⟩
 refine aw_loop (fun m (T:Env) H'=>H=H'∧∃(i x:Nat),m=l.length-i∧i≤l.length∧T 5=.int .u64 (x:Int)∧T 11=s∧T 12=.int .i64 (l.length:Int)∧T 13=.int .i64 (i:Int)∧x<18446744073709551616∧(l.drop i).foldl mixG x=l.foldl mixG x0) l.length ⟨rfl,0,x0,rfl,Nat.zero_le _,tt,tt,tt,tt,l0,rfl⟩ ?_
 rintro m T _ ⟨rfl,i,x,rfl,hi,t5,t11,t12,t13,hx,hf⟩
 by_cases hlt:i<l.length
 ·have hlt':(i:Int)<(l.length:Int):=om
  have hg:l[i]?=some l[i]:=List.getElem?_eq_getElem hlt
  have ip:=c.idx .i64 (i:=i) (by simpa using hlt)
  have lp:=c.load (i:=i) (x:=.int .i64 l[i]) (by simp[hg])
  have w1:IntKind.u64.wrap (((x:Int))+(u64 l[i]:Int))=((W (x+u64 l[i]):Nat):Int):=waddw
  have w2:IntKind.u64.wrap (((W (x+u64 l[i]):Nat):Int)+11400714819323198485)=((( x+u64 l[i]+11400714819323198485) % 18446744073709551616:Nat):Int):=by unfold W; rw[IntKind.wrap_u64]; omega
  have w3:IntKind.i64.wrap ((i:Int)+1)=((i+1:Nat):Int):=wrap1 i om
  simp only[sA,sB,seval,t5,t11,t12,t13,hlt',ip,lp,u64_wrap,w1,w2]
  refine (mix_spec (Nat.mod_lt _ dD)).mono ?_
  rintro _ _ ⟨rfl,rfl⟩
  simp only[sA,sB,seval,t11,t12,t13,w3]
  refine⟨l.length-(i+1),om,tt,i+1,mixG x l[i],rfl,om,tt,tt,tt,tt,mix_lt _,?_⟩
  rw[← hf,List.drop_eq_getElem_cons hlt,List.foldl_cons]
 ·have hlt':¬(i:Int)<(l.length:Int):=om
  simp only[sA,sB,seval,t5,t12,t13,hlt']
  rw[List.drop_eq_nil_of_le om]at hf
  rw[← hf]; exact⟨tt,tt⟩
open Go.Abs Go.Abs.S
open Go.Proofs.Tx (and32 shr32 shl32 shl32w ishl32 ishr32 uw wmul wmulw wadd wsub orU64 lt32_mul halves)
theorem foldl_lt:∀(l:List Int) (x:Nat),x<18446744073709551616→l.foldl mixG x<18446744073709551616
 | [],x,h=>h
 | n::l,x,_=>foldl_lt l (mixG x n) (mix_lt _)
theorem mixed_lt(seed:Nat)(l:List Int):mixedN seed l<18446744073709551616:=foldl_lt l _ (mix_lt _)
theorem drawF_j(seed:Nat)(a b c:Int):J64 (drawF seed a b c)∧0≤drawF seed a b c∧drawF seed a b c<4294967296:=by
 have:=mixed_lt seed [a,b,c]
 unfold drawF J64
 omega
theorem sls3(H:AHeap)(a b c:Int):aBuildSl 3 [.int .i64 0] H [(0,1,.int .i64 a),(1,1,.int .i64 b),(2,1,.int .i64 c)]=some (slR H.next 3 (.known 3),H.push (.cells [.int .i64 a,.int .i64 b,.int .i64 c] 0 false)):=_root_.id rfl
theorem draw_spec{seed:Nat}(hs:seed<18446744073709551616){a b c:Int}{H:AHeap}:ACalls Tryz.prog noNat 88 [.int .u64 (seed:Int),.int .i64 a,.int .i64 b,.int .i64 c] H fun v H'=>v=.int .i64 (drawF seed a b c)∧Ext H.next H H':=by
 refine acalls_ofN rfl za88 rfl ?_
 have cl:Cel (H.push (.cells [.int .i64 a,.int .i64 b,.int .i64 c] 0 false)).next (H.push (.cells [.int .i64 a,.int .i64 b,.int .i64 c] 0 false)) (slR H.next 3 (.known 3)) ([a,b,c].map (AVal.int .i64)):=(row_push H [.int .i64 a,.int .i64 b,.int .i64 c]).cel rfl (Nat.lt_succ_self _)
 simp only[c88,sA,sB,seval,sls3]
 refine (mixed_spec hs (by simp) cl).mono ?_
 rintro _ _ ⟨rfl,rfl⟩
 have hm:=mixed_lt seed [a,b,c]
 have w:IntKind.i64.wrap ((mixedN seed [a,b,c] / 4294967296:Nat):Int)=((mixedN seed [a,b,c] / 4294967296:Nat):Int):=wrap64 om om
 simp only[sA,sB,seval,shr32,w]
 exact⟨rfl,(Ext.refl _ _).push rL _⟩
theorem leach_spec{f:Nat}(hf:f<1024){F:Int→Int}{caps:List AVal}{v:V}(hv:v.j){H:AHeap}
  (hF:∀{a:Int} {K:AHeap},Ext H.next H K→J64 a→ACalls Tryz.prog noNat f ([.int .i64 a]++caps) K fun r K'=>r=.int .i64 (F a)∧K=K') :
  ACalls Tryz.prog noNat 61 [.agg v.cells,.func (.func f) [] caps] H fun r H'=>r=.agg (V.mk (F v.x) (F v.y) (F v.z)).cells∧Ext H.next H H':=by
 obtain⟨a,b,c⟩:=v
 obtain⟨ha,hb,hc⟩:=hv
 show ACalls Tryz.prog noNat 61 [.agg (v3 a b c),.func (.func f) [] caps] H fun r H'=>r=.agg (v3 (F a) (F b) (F c))∧Ext H.next H H'
 obtain⟨H1,m1,r1,n1,k1⟩:=row_newL H (v3 a b c) (n:=3) rfl
 obtain⟨H3,m3,r3,n3,k3⟩:=row_newL H1 (v3 0 0 0) (n:=3) rfl
 have E3:Ext H.next H H3:=⟨om,fun c hc=>by rw[k3 c om,k1 c om]⟩
 obtain⟨p0,p1,p2,_⟩:=ld3 (r1.same (k3 _ om))
 obtain⟨H4,m4,r4,n4,k4⟩:=row_storeN r3 (n:=3) rfl (xs:=v3 (F a) (F b) (F c)) rfl rfl
 obtain⟨_,_,_,w⟩:=ld3 r4
 refine acalls_ofN rfl za61 rfl ?_
 simp only[c61,sA,sB,seval,cells_agg,m1,m3]
 refine aw_drawC rfl ?_
 simp only[sR,sA,sB,seval,fld0,fldA,p0,hf,List.nil_append]
 refine (hF E3 ha).mono ?_
 rintro _ _ ⟨rfl,rfl⟩
 simp only[sR,sA,sB,seval,fld0,fldA,p1,hf,List.nil_append]
 refine (hF E3 hb).mono ?_
 rintro _ _ ⟨rfl,rfl⟩
 simp only[sR,sA,sB,seval,fld0,fldA,p2,hf,List.nil_append]
 refine (hF E3 hc).mono ?_
 rintro _ _ ⟨rfl,rfl⟩
 simp only[sR,sA,sB,seval,bl3,m4]
 simp only[ck_nil',ck_cons,ckP_load,ckP_nil,ck_end,and_true,true_and,List.map_cons,List.map_nil,sA,sB,seval,fin_cc,OptP_some,w]
 refine⟨?_,⟨om,fun c hc=>by rw[k4 c om,E3.old c hc]⟩⟩
 and_intros <;> first | rfl | exact⟨_,rfl,fun _=>⟨_,by first | exact p1 | exact p2,aeq_int _ _⟩⟩
theorem clamp1_spec{a:Int}{H:AHeap}:ACalls Tryz.prog noNat 62 [.int .i64 a] H fun r H'=>r=.int .i64 (clampI a)∧H=H':=by
 refine acalls_ofN rfl za62 rfl ?_
 simp only[c62,sA,sB,seval,pf_maxI,min_if,max_if]; exact⟨tt,tt⟩
theorem clampI_j(x:Int):J64 (clampI x):=by unfold clampI J64; omega
theorem vClamp_j(v:V):(vClamp v).j:=⟨clampI_j _,clampI_j _,clampI_j _⟩
theorem clamp_spec{v:V}(hv:v.j){H:AHeap}:ACalls Tryz.prog noNat 29 [.agg v.cells] H fun r H'=>r=.agg (vClamp v).cells∧Ext H.next H H':=by
 obtain⟨H1,m1,r1,n1,k1⟩:=row_newL H v.cells (n:=3) rfl
 obtain⟨H2,m2,r2,n2,k2⟩:=row_newL H1 (v3 0 0 0) (n:=3) rfl
 obtain⟨_,_,_,p⟩:=ld3 (r1.same (k2 _ om))
 refine acalls_ofN rfl za29 rfl ?_
 simp only[c29,sA,sB,seval,cells_agg,m1,m2,p]
 refine (leach_spec (v:=v) om (F:=clampI) hv (caps:=[]) fun {_ _} _ _=>clamp1_spec).mono ?_
 rintro _ H4 ⟨rfl,E4⟩
 obtain⟨H5,m5,r5,n5,k5⟩:=row_storeN (r2.same (E4.old _ om)) (n:=3) rfl (xs:=(vClamp v).cells) rfl rfl
 obtain⟨_,_,_,w⟩:=ld3 r5
 have m5':oStore 3 H4 (cellR H1.next 3 0) (.agg (V.mk (clampI v.x) (clampI v.y) (clampI v.z)).cells)=some H5:=m5
 simp only[sA,sB,seval,m5',fin_cc,OptP_some,w]
 exact⟨rfl,⟨by have:=E4.next; omega,fun c hc=>by rw[k5 c om,E4.old c om,k2 c om,k1 c om]⟩⟩
theorem pixel1_spec{a s:Int}(ha:J64 a)(hs:J64 s){cb:Nat}{H:AHeap}(r:Row H cb [.int .i64 s]):ACalls Tryz.prog noNat 66 [.int .i64 a,cellR cb 1 0] H fun r H'=>r=.int .i64 (fDiv a s)∧H=H':=by
 refine acalls_ofN rfl za66 rfl ?_
 have l:oLoad false 1 H (cellR cb 1 0)=some (.int .i64 s):=row_load r rfl rfl
 simp only[c66,sA,sB,seval,l]
 refine (div_spec ha hs).mono ?_
 rintro _ _ ⟨rfl,rfl⟩
 simp only[sA,sB,seval]; exact⟨tt,tt⟩
def byteF(x:Int):Int:=fFloor (fAdd (fMul x (fOf 255)) 2147483648)
theorem pixel2_spec{a:Int}(ha:J64 a){H:AHeap}:ACalls Tryz.prog noNat 67 [.int .i64 a] H fun r H'=>r=.int .i64 (byteF a)∧H=H':=by
 refine acalls_ofN rfl za67 rfl ?_
 simp only[c67,sA,sB,seval]
 refine of_spec.mono ?_
 rintro _ _ ⟨rfl,rfl⟩
 simp only[sA,sB,seval]
 refine (mul_spec ha (fOf_j 255)).mono ?_
 rintro _ _ ⟨rfl,rfl⟩
 simp only[sA,sB,seval]
 refine (add_spec (fMul_j ..) ⟨by decide,by decide⟩).mono ?_
 rintro _ _ ⟨rfl,rfl⟩
 simp only[sA,sB,seval]
 refine floor_spec.mono ?_
 rintro _ _ ⟨rfl,rfl⟩
 simp only[sA,sB,seval]; exact⟨rfl,tt⟩
def pixC(p:Int×Int×Int):List AVal:=[.int .u8 p.1,.int .u8 p.2.1,.int .u8 p.2.2,.int .u8 255]
theorem pixel_spec{v:V}(hv:v.j){n:Int}{H:AHeap}:ACalls Tryz.prog noNat 32 [.agg v.cells,.int .i64 n] H fun r H'=>r=.agg (pixC (pixelF v n))∧Ext H.next H H':=by
 obtain⟨H1,m1,r1,n1,k1⟩:=row_newL H v.cells (n:=3) rfl
 obtain⟨H2,m2,r2,n2,k2⟩:=row_newL H1 [.int .u8 0,.int .u8 0,.int .u8 0,.int .u8 0] (n:=4) rfl
 refine acalls_ofN rfl za32 rfl ?_
 simp only[c32,sA,sB,seval,cells_agg,m1,m2,pf_maxI,max_if]
 refine of_spec.mono ?_
 rintro _ _ ⟨rfl,rfl⟩
 have js:J64 (fOf (max n 1)):=fOf_j _
 obtain⟨s,hs⟩:∃s,s=fOf (max n 1):=⟨_,rfl⟩
 rw[← hs]at js ⊢
 obtain⟨H3,m3,r3,n3,k3⟩:=row_newL H2 [.int .i64 0] (n:=1) rfl
 obtain⟨H4,m4,r4,n4,k4⟩:=row_st r3 (n:=1) rfl (i:=0) om (x:=.int .i64 s) rfl (l':=[.int .i64 s]) rfl
 obtain⟨_,_,_,p4⟩:=ld3 (r1.same (H':=H4) (by rw[k4 _ om,k3 _ om,k2 _ om]))
 simp only[sA,sB,seval,m3,m4,p4]
 refine (leach_spec (v:=v) om (F:=fun a=>fDiv a s) hv (caps:=[cellR H2.next 1 0]) fun {_ _} e h=>pixel1_spec h js (r4.same (e.old _ om))).mono ?_
 rintro _ H5 ⟨rfl,E5⟩
 have e5:=E5.next
 obtain⟨H6,m6,r6,n6,k6⟩:=row_newL H5 (v3 0 0 0) (n:=3) rfl
 obtain⟨H7,m7,r7,n7,k7⟩:=row_storeN r6 (n:=3) rfl (xs:=(vOver v s).cells) rfl rfl
 obtain⟨_,_,_,p7⟩:=ld3 r7
 have m7':oStore 3 H6 (cellR H5.next 3 0) (.agg (V.mk (fDiv v.x s) (fDiv v.y s) (fDiv v.z s)).cells)=some H7:=m7
 simp only[sA,sB,seval,m6,m7',p7]
 refine (clamp_spec (v:=vOver v s) (vOver_j v s)).mono ?_
 rintro _ H8 ⟨rfl,E8⟩
 have e8:=E8.next
 simp only[sA,sB,seval]
 refine (leach_spec (v:=vClamp (vOver v s)) om (F:=byteF) (vClamp_j _) (caps:=[]) fun {_ _} _ h=>pixel2_spec h).mono ?_
 rintro _ H9 ⟨rfl,E9⟩
 have e9:=E9.next
 obtain⟨Ha,ma,ra,na,ka⟩:=row_newL H9 (v3 0 0 0) (n:=3) rfl
 obtain⟨Hb,mb,rb,nb,kb⟩:=row_storeN ra (n:=3) rfl (xs:=v3 (byteF (vClamp (vOver v s)).x) (byteF (vClamp (vOver v s)).y) (byteF (vClamp (vOver v s)).z)) rfl rfl
 obtain⟨q0,q1,q2,_⟩:=ld3 rb
 have mb':oStore 3 Ha (cellR H9.next 3 0) (.agg (V.mk (byteF (vClamp (vOver v s)).x) (byteF (vClamp (vOver v s)).y) (byteF (vClamp (vOver v s)).z)).cells)=some Hb:=mb
 have old:∀c,c<H4.next→Hb.get c=H4.get c:=fun c hc=>by rw[kb c om,ka c om,E9.old c om,E8.old c om,k7 c om,k6 c om,E5.old c om]
 have w8:∀x:Int,IntKind.u8.wrap x=x % 256:=fun x=>by rw[IntKind.wrap_u8]
 have bd:∀a b c:Int,aBuild [.int .u8 0,.int .u8 0,.int .u8 0,.int .u8 0] [(0,1,.int .u8 a),(1,1,.int .u8 b),(2,1,.int .u8 c),(3,1,.int .u8 255)]=some (.agg [.int .u8 a,.int .u8 b,.int .u8 c,.int .u8 255]):=fun _ _ _=>rfl
 obtain⟨Hc,mc,rc,nc,kc⟩:=row_storeN (r2.same (H':=Hb) (by rw[old _ om,k4 _ om,k3 _ om])) (n:=4) rfl (xs:=pixC (byteF (vClamp (vOver v s)).x % 256,byteF (vClamp (vOver v s)).y % 256,byteF (vClamp (vOver v s)).z % 256)) rfl rfl
 have lc:=row_loadN rc (n:=4) rfl
 unfold pixC at mc lc
 simp only[sA,sB,seval,ma,mb',fld0,fldA,q0,q1,q2,w8,bd,mc,fin_cc,OptP_some,lc]
 refine⟨?_,⟨om,fun c hc=>by rw[kc c om,old c om,k4 c om,k3 c om,k2 c om,k1 c om]⟩⟩
 subst hs
 rfl
open Go.Abs Go.Abs.S
theorem ldR{H:AHeap}{b:Nat}{q:Ray}(r:Row H b q.cells):oLoad true 3 H (cellR b 6 0)=some (.agg q.o.cells)∧oLoad true 3 H (cellR b 6 3)=some (.agg q.d.cells):=
 ⟨row_loadK r (n:=6) rfl (show 0+3≤6 by decide),row_loadK r (n:=6) rfl (show 3+3≤6 by decide)⟩
theorem ldH{H:AHeap}{b:Nat}{q:Hit}(r:Row H b q.cells):oLoad false 1 H (cellR b 4 0)=some (.int .i64 q.t)∧oLoad false 1 H (cellR b 4 1)=some (.int .i64 q.i)∧oLoad false 1 H (cellR b 4 2)=some (.int .i64 q.u)∧oLoad false 1 H (cellR b 4 3)=some (.int .i64 q.v):=
 ⟨row_load r rfl rfl,row_load r rfl rfl,row_load r rfl rfl,row_load r rfl rfl⟩
theorem aeq_V(v:V):aeq (.agg v.cells) (.agg v.cells)=true:=aeq_v3 ..
theorem ld3V{H:AHeap}{b:Nat}{v:V}(r:Row H b v.cells):oLoad true 3 H (cellR b 3 0)=some (.agg v.cells):=row_loadN r rfl
def lookC(u v:Int)(p n:V):List AVal:=[.int .i64 u,.int .i64 v,.int .i64 p.x,.int .i64 p.y,.int .i64 p.z,.int .i64 n.x,.int .i64 n.y,.int .i64 n.z]
theorem look_spec{r:Ray}{h:Hit}{n:V}(hr:r.j)(hh:h.j){H:AHeap}:ACalls Tryz.prog noNat 26 [.agg r.cells,.agg h.cells,.agg n.cells] H fun u H'=>u=.agg (lookC h.u h.v (lookP r h) n)∧Ext H.next H H':=by
 obtain⟨H1,m1,r1,n1,k1⟩:=row_newL H r.cells (n:=6) rfl
 obtain⟨H2,m2,r2,n2,k2⟩:=row_newL H1 h.cells (n:=4) rfl
 obtain⟨H3,m3,r3,n3,k3⟩:=row_newL H2 n.cells (n:=3) rfl
 obtain⟨H4,m4,r4,n4,k4⟩:=row_newL H3 [.int .i64 0,.int .i64 0,.int .i64 0,.int .i64 0,.int .i64 0,.int .i64 0,.int .i64 0,.int .i64 0] (n:=8) rfl
 have a1:Row H4 H.next r.cells:=((r1.same (k2 _ om)).same (k3 _ om)).same (k4 _ om)
 have a2:Row H4 H1.next h.cells:=(r2.same (k3 _ om)).same (k4 _ om)
 have a3:Row H4 H2.next n.cells:=r3.same (k4 _ om)
 have lo:∀{K:AHeap},Ext H4.next H4 K→oLoad true 3 K (cellR H.next 6 0)=some (.agg r.o.cells):=fun e=>(ldR (a1.same (e.old _ om))).1
 have ld:∀{K:AHeap},Ext H4.next H4 K→oLoad true 3 K (cellR H.next 6 3)=some (.agg r.d.cells):=fun e=>(ldR (a1.same (e.old _ om))).2
 have lt:∀{K:AHeap},Ext H4.next H4 K→oLoad false 1 K (cellR H1.next 4 0)=some (.int .i64 h.t):=fun e=>(ldH (a2.same (e.old _ om))).1
 have lu:∀{K:AHeap},Ext H4.next H4 K→oLoad false 1 K (cellR H1.next 4 2)=some (.int .i64 h.u):=fun e=>(ldH (a2.same (e.old _ om))).2.2.1
 have lv:∀{K:AHeap},Ext H4.next H4 K→oLoad false 1 K (cellR H1.next 4 3)=some (.int .i64 h.v):=fun e=>(ldH (a2.same (e.old _ om))).2.2.2
 have ln:∀{K:AHeap},Ext H4.next H4 K→oLoad true 3 K (cellR H2.next 3 0)=some (.agg n.cells):=fun e=>ld3V (a3.same (e.old _ om))
 have E0:Ext H4.next H4 H4:=.refl _ _
 have l1:=lo E0
 have l2:=ld E0
 have l3:=lt E0
 have l4:=lu E0
 have l5:=lv E0
 refine acalls_ofN rfl za26 rfl ?_
 simp only[c26,sA,sB,seval,cells_agg,m1,m2,m3,m4]
 refine aw_drawC rfl ?_
 simp only[sR,sA,sB,seval,fld0,fldA,l1,l2,l3,l4,l5]
 refine (vscale_spec hr.2 hh.1).mono ?_
 rintro _ H5 ⟨rfl,E5⟩
 simp only[sR,sA,sB,seval]
 refine (vadd_spec hr.1 (vScale_j ..)).mono ?_
 rintro _ H6 ⟨rfl,E6⟩
 have E46:Ext H4.next H4 H6:=E5.trans (E6.less E5.next)
 have e6:=E46.next
 have l6:=ln E46
 obtain⟨H7,m7,r7,n7,k7⟩:=row_storeN (r4.same (H':=H6) (E46.old _ om)) (n:=8) rfl (xs:=lookC h.u h.v (lookP r h) n) rfl rfl
 have w:=row_loadN r7 (n:=8) rfl
 have b8:aBuild [.int .i64 0,.int .i64 0,.int .i64 0,.int .i64 0,.int .i64 0,.int .i64 0,.int .i64 0,.int .i64 0] [(0,1,.int .i64 h.u),(1,1,.int .i64 h.v),(2,3,.agg (vAdd r.o (vScale r.d h.t)).cells),(5,3,.agg n.cells)]=some (.agg (lookC h.u h.v (lookP r h) n)):=rfl
 simp only[sR,sA,sB,seval,l6,b8,m7]
 simp only[ck_nil',ck_cons,ckP_load,ckP_nil,ck_end,and_true,true_and,List.map_cons,List.map_nil,sA,sB,seval,fin_cc,OptP_some,w]
 refine⟨?_,⟨om,fun c hc=>by rw[k7 c om,E46.old c om,k4 c om,k3 c om,k2 c om,k1 c om]⟩⟩
 and_intros <;> first | rfl | exact⟨_,rfl,fun _=>⟨_,by first | exact lo (by assumption) | exact ld (by assumption) | exact lt (by assumption) | exact lu (by assumption) | exact lv (by assumption) | exact ln (by assumption),by first | exact aeq_int _ _ | exact aeq_V _⟩⟩
theorem resO_0(z:List AVal):resO z none=.cells z 0 false:=_root_.id rfl
theorem clOp_new(b:Nat)(z z':List AVal)(s:Option (Nat×Nat)):clOp b z s (.new z')=.claim b z s:=_root_.id rfl
theorem bounce_spec{k:Nat}{d n:V}{a b:Int}(hd:d.j)(hn:n.j)(ha:J64 a)(hb:J64 b){H:AHeap}:ACalls Tryz.prog noNat 64 [.int .u8 (k:Int),.agg d.cells,.agg n.cells,.int .i64 a,.int .i64 b] H fun u H'=>u=.agg (bounceF k d n a b).cells∧Ext H.next H H':=by
 obtain⟨H1,m1,r1,n1,k1⟩:=row_newL H d.cells (n:=3) rfl
 obtain⟨H2,m2,r2,n2,k2⟩:=row_newL H1 n.cells (n:=3) rfl
 obtain⟨H3,m3,r3,n3,k3⟩:=row_newL H2 (v3 0 0 0) (n:=3) rfl
 have a1:Row H3 H.next d.cells:=(r1.same (k2 _ om)).same (k3 _ om)
 have a2:Row H3 H1.next n.cells:=r2.same (k3 _ om)
 have old3:∀c,c<H.next→H3.get c=H.get c:=fun c hc=>by rw[k3 c om,k2 c om,k1 c om]
 have lnn:∀{K:AHeap},Ext H3.next H3 K→oLoad true 3 K (cellR H1.next 3 0)=some (.agg n.cells):=fun e=>ld3V (a2.same (e.old _ om))
 have p1:=ld3V a1
 have p2:=ld3V a2
 obtain⟨p2x,_⟩:=ld3 a2
 refine acalls_ofN rfl za64 rfl ?_
 unfold bounceF
 by_cases hk:(k:Int)=2
 ·simp only[c64,sA,sB,seval,cells_agg,m1,m2,m3,hk,p1,p2]
  refine (vbend_spec hd hn).mono ?_
  rintro _ H4 ⟨rfl,E4⟩
  obtain⟨H5,m5,r5,n5,k5⟩:=row_storeN (r3.same (E4.old _ om)) (n:=3) rfl (xs:=(vBend d n).cells) rfl rfl
  have w:=ld3V r5
  have e4:=E4.next
  simp only[sA,sB,seval,m5,fin_cc,OptP_some,w,if_true]
  exact⟨by first | rfl | trivial,⟨om,fun c hc=>by rw[k5 c om,E4.old c om,old3 c hc]⟩⟩
 rw[if_neg hk]
 obtain⟨x,hx⟩:∃x,x=fMul 26986075409 a:=⟨_,rfl⟩
 obtain⟨r,hr⟩:∃r,r=fSqrt b:=⟨_,rfl⟩
 obtain⟨z,hz⟩:∃z,z=fSqrt (fSub 4294967296 b):=⟨_,rfl⟩
 have jx:J64 x:=by rw[hx]; exact fMul_j ..
 have jr:J64 r:=by rw[hr]; exact (fSqrt_j _).1
 have jz:J64 z:=by rw[hz]; exact (fSqrt_j _).1
 have j1:J64 4294967296:=⟨by decide,by decide⟩
 obtain⟨size,hsize⟩:∃s,s=(if n.x<0 then fNeg n.x else n.x):=⟨_,rfl⟩
 obtain⟨axis,hax⟩:∃v:V,v=(if size≤2147483648 then ⟨4294967296,0,0⟩ else ⟨0,4294967296,0⟩):=⟨_,rfl⟩
 have jax:axis.j:=by rw[hax]; split <;> exact⟨⟨by decide,by decide⟩,⟨by decide,by decide⟩,by decide,by decide⟩
 obtain⟨H4,m4,r4,n4,k4⟩:=row_newL H3 (v3 0 0 0) (n:=3) rfl
 obtain⟨H5,m5,r5,n5,k5⟩:=row_storeN r4 (n:=3) rfl (xs:=v3 0 4294967296 0) rfl rfl
 obtain⟨H6,m6,r6,n6,k6⟩:=row_storeN r5 (n:=3) rfl (xs:=v3 4294967296 0 0) rfl rfl
 have bA:aBuild [.int .i64 0,.int .i64 0,.int .i64 0] [(1,1,.int .i64 4294967296)]=some (.agg (v3 0 4294967296 0)):=rfl
 have bB:aBuild [.int .i64 0,.int .i64 0,.int .i64 0] [(0,1,.int .i64 4294967296)]=some (.agg (v3 4294967296 0 0)):=rfl
 simp only[c64]
 refine aw_seq_cut (calls_mono _ _) (fun T' H'=>T' 0=.int .u8 (k:Int)∧T' 3=.int .i64 a∧T' 4=.int .i64 b∧T' 6=cellR H.next 3 0∧T' 7=cellR H1.next 3 0∧T' 10=cellR H2.next 3 0∧H3=H') ?_ ?_
 ·simp only[sA,sB,seval,cells_agg,m1,m2,m3]; exact⟨tt,tt,tt,tt,tt,tt,tt⟩
 rintro T _ ⟨t0,t3,t4,t6,t7,t10,rfl⟩
 refine aw_seq_cut (calls_mono _ _) (fun T' H'=>T' 3=.int .i64 a∧T' 4=.int .i64 b∧T' 6=cellR H.next 3 0∧T' 7=cellR H1.next 3 0∧T' 10=cellR H2.next 3 0∧H3=H') ?_ ?_
 ·simp only[sA,sB,seval,t0,t3,t4,t6,t7,t10,hk]; exact⟨tt,tt,tt,tt,tt,tt⟩
 clear t0 t3 t4 t6 t7 t10 T
 rintro T _ ⟨t3,t4,t6,t7,t10,rfl⟩
 refine aw_seq_cut (calls_mono _ _) (fun T' H'=>T' 3=.int .i64 a∧T' 4=.int .i64 b∧T' 6=cellR H.next 3 0∧T' 7=cellR H1.next 3 0∧T' 10=cellR H2.next 3 0∧T' 11=.int .i64 x∧H3=H') ?_ ?_
 ·simp only[sA,sB,seval,t3,t4,t6,t7,t10]
  refine (mul_spec ⟨by decide,by decide⟩ ha).mono ?_
  rintro _ _ ⟨rfl,rfl⟩
  rw[hx]; simp only[sA,sB,seval,t3,t4,t6,t7,t10]; exact⟨tt,tt,tt,tt,tt,tt,tt⟩
 clear t3 t4 t6 t7 t10 T
 rintro T _ ⟨t3,t4,t6,t7,t10,t11,rfl⟩
 refine aw_seq_cut (calls_mono _ _) (fun T' H'=>T' 3=.int .i64 a∧T' 4=.int .i64 b∧T' 6=cellR H.next 3 0∧T' 7=cellR H1.next 3 0∧T' 10=cellR H2.next 3 0∧T' 11=.int .i64 x∧T' 12=.int .i64 r∧H3=H') ?_ ?_
 ·simp only[sA,sB,seval,t3,t4,t6,t7,t10,t11]
  refine (sqrt_spec hb).mono ?_
  rintro _ _ ⟨rfl,rfl⟩
  rw[hr]; simp only[sA,sB,seval,t3,t4,t6,t7,t10,t11]; exact⟨tt,tt,tt,tt,tt,tt,tt,tt⟩
 clear t3 t4 t6 t7 t10 t11 T
 rintro T _ ⟨t3,t4,t6,t7,t10,t11,t12,rfl⟩
 refine aw_seq_cut (calls_mono _ _) (fun T' H'=>T' 6=cellR H.next 3 0∧T' 7=cellR H1.next 3 0∧T' 10=cellR H2.next 3 0∧T' 11=.int .i64 x∧T' 12=.int .i64 r∧T' 13=.int .i64 z∧H3=H') ?_ ?_
 ·simp only[sA,sB,seval,t3,t4,t6,t7,t10,t11,t12]
  refine (sub_spec j1 hb).mono ?_
  rintro _ _ ⟨rfl,rfl⟩
  simp only[sA,sB,seval]
  refine (sqrt_spec (fSub_j j1 hb)).mono ?_
  rintro _ _ ⟨rfl,rfl⟩
  rw[hz]; simp only[sA,sB,seval,t3,t4,t6,t7,t10,t11,t12]; exact⟨tt,tt,tt,tt,tt,tt,tt⟩
 clear t3 t4 t6 t7 t10 t11 t12 T
 rintro T _ ⟨t6,t7,t10,t11,t12,t13,rfl⟩
 refine aw_seq_cut (calls_mono _ _) (fun T' H'=>T' 6=cellR H.next 3 0∧T' 7=cellR H1.next 3 0∧T' 10=cellR H2.next 3 0∧T' 11=.int .i64 x∧T' 12=.int .i64 r∧T' 13=.int .i64 z∧T' 14=.int .i64 n.x∧H3=H') ?_ ?_
 ·simp only[sA,sB,seval,t6,t7,t10,t11,t12,t13,fld0,p2x]; exact⟨tt,tt,tt,tt,tt,tt,tt,tt⟩
 clear t6 t7 t10 t11 t12 t13 T
 rintro T _ ⟨t6,t7,t10,t11,t12,t13,t14,rfl⟩
 refine aw_seq_cut (calls_mono _ _) (fun T' H'=>T' 6=cellR H.next 3 0∧T' 7=cellR H1.next 3 0∧T' 10=cellR H2.next 3 0∧T' 11=.int .i64 x∧T' 12=.int .i64 r∧T' 13=.int .i64 z∧T' 14=.int .i64 size∧H3=H') ?_ ?_
 ·by_cases h0:n.x<0
  ·rw[if_pos h0]at hsize
   simp only[sA,sB,seval,t6,t7,t10,t11,t12,t13,t14,h0]
   refine (neg_spec hn.1).mono ?_
   rintro _ _ ⟨rfl,rfl⟩
   rw[hsize]
   simp only[sA,sB,seval,t6,t7,t10,t11,t12,t13,t14]; exact⟨tt,tt,tt,tt,tt,tt,tt,tt⟩
  ·rw[if_neg h0]at hsize
   rw[hsize]
   simp only[sA,sB,seval,t6,t7,t10,t11,t12,t13,t14,h0]; exact⟨tt,tt,tt,tt,tt,tt,tt,tt⟩
 clear t6 t7 t10 t11 t12 t13 t14 T
 rintro T _ ⟨t6,t7,t10,t11,t12,t13,t14,rfl⟩
 refine aw_seq_cut (calls_mono _ _) (fun T' H'=>T' 6=cellR H.next 3 0∧T' 7=cellR H1.next 3 0∧T' 10=cellR H2.next 3 0∧T' 11=.int .i64 x∧T' 12=.int .i64 r∧T' 13=.int .i64 z∧T' 14=.int .i64 size∧T' 15=cellR H3.next 3 0∧H5=H') ?_ ?_
 ·simp only[sA,sB,seval,t6,t7,t10,t11,t12,t13,t14,bA,m4,m5]; exact⟨tt,tt,tt,tt,tt,tt,tt,tt,tt⟩
 clear t6 t7 t10 t11 t12 t13 t14 T
 rintro T _ ⟨t6,t7,t10,t11,t12,t13,t14,t15,rfl⟩
 refine aw_seq_cut (calls_mono _ _) (fun T' H'=>T' 6=cellR H.next 3 0∧T' 7=cellR H1.next 3 0∧T' 10=cellR H2.next 3 0∧T' 11=.int .i64 x∧T' 12=.int .i64 r∧T' 13=.int .i64 z∧T' 15=cellR H3.next 3 0∧Row H' H3.next axis.cells∧H'.next=H5.next∧∀c,c≠H3.next→H'.get c=H5.get c) ?_ ?_
 ·by_cases h0:size≤2147483648
  ·rw[if_pos h0]at hax
   simp only[sA,sB,seval,t6,t7,t10,t11,t12,t13,t14,t15,h0,bB,m6]
   rw[hax]; exact⟨tt,tt,tt,tt,tt,tt,tt,r6,n6,k6⟩
  ·rw[if_neg h0]at hax
   simp only[sA,sB,seval,t6,t7,t10,t11,t12,t13,t14,t15,h0]
   rw[hax]; exact⟨tt,tt,tt,tt,tt,tt,tt,r5,tt,fun _ _=>by first | rfl | trivial⟩
 clear t6 t7 t10 t11 t12 t13 t14 t15 T
 rintro T H7 ⟨t6,t7,t10,t11,t12,t13,t15,r7,n7,k7⟩
 have E7:Ext H3.next H3 H7:=⟨om,fun c hc=>by rw[k7 c om,k5 c om,k4 c om]⟩
 have e7:=E7.next
 have q1:=ld3V r7
 have q2:=lnn E7
 simp only[sA,sB,seval,t6,t7,t10,t11,t12,t13,t15,q1,q2]
 refine (vcross_spec jax hn).mono ?_
 rintro _ H8 ⟨rfl,E8⟩
 simp only[sA,sB,seval,t6,t7,t10,t11,t12,t13,t15]
 refine (vunit_spec (vCross_j axis n)).mono ?_
 rintro _ H9 ⟨rfl,E9⟩
 obtain⟨t,ht⟩:∃t,t=vUnit (vCross axis n):=⟨_,rfl⟩
 have jt:t.j:=by rw[ht]; exact vUnit_j _
 rw[← ht]
 have e8:=E8.next
 have e9:=E9.next
 obtain⟨Ha,ma,ra,na,ka⟩:=row_newL H9 (v3 0 0 0) (n:=3) rfl
 obtain⟨Hb,mb,rb,nb,kb⟩:=row_storeN ra (n:=3) rfl (xs:=t.cells) rfl rfl
 have Eb:Ext H3.next H3 Hb:=⟨om,fun c hc=>by rw[kb c om,ka c om,E9.old c om,E8.old c om,E7.old c hc]⟩
 have q3:=lnn Eb
 have q4:=ld3V rb
 simp only[sA,sB,seval,t6,t7,t10,t11,t12,t13,t15,ma,mb,q3,q4]
 refine (vcross_spec hn jt).mono ?_
 rintro _ Hc ⟨rfl,Ec⟩
 have jv:=vCross_j n t
 obtain⟨v,hv⟩:∃v,v=vCross n t:=⟨_,rfl⟩
 rw[← hv]at jv ⊢
 have ec:=Ec.next
 obtain⟨Hd,md,rd,nd,kd⟩:=row_newL Hc (v3 0 0 0) (n:=3) rfl
 obtain⟨He,me,re,ne,ke⟩:=row_storeN rd (n:=3) rfl (xs:=v.cells) rfl rfl
 have Ee:Ext Hb.next Hb He:=⟨om,fun c hc=>by rw[ke c om,kd c om,Ec.old c hc]⟩
 have Ee3:Ext H3.next H3 He:=Eb.trans (Ee.less Eb.next)
 have rt:Row He H9.next t.cells:=rb.same (Ee.old _ om)
 simp only[sA,sB,seval,t6,t7,t10,t11,t12,t13,t15,md,me]
 refine aw_drawN ?_
 simp only[claims,newOf,reserves,resO_0,clOp_new]
 obtain⟨Hf,hf⟩:∃K,K=He.push (.cells [.int .i64 0,.int .i64 0,.int .i64 0] 0 false):=⟨_,rfl⟩
 rw[← hf]
 have Ef:Ext He.next He Hf:=by rw[hf]; exact (Ext.refl _ _).push rL _
 have nf:Hf.next=He.next+1:=by rw[hf]; rfl
 have gf:Hf.get He.next=some (.cells [.int .i64 0,.int .i64 0,.int .i64 0] 0 false):=by rw[hf,AHeap.get_push,if_pos rfl]
 have lt:∀{K:AHeap},Ext Hf.next Hf K→oLoad true 3 K (cellR H9.next 3 0)=some (.agg t.cells):=fun e=>ld3V (rt.same (by rw[e.old _ om,Ef.old _ om]))
 have lv:∀{K:AHeap},Ext Hf.next Hf K→oLoad true 3 K (cellR Hc.next 3 0)=some (.agg v.cells):=fun e=>ld3V (re.same (by rw[e.old _ om,Ef.old _ om]))
 have cl:∀{K:AHeap},Ext Hf.next Hf K→aClaim K He.next [.int .i64 0,.int .i64 0,.int .i64 0] none=some (cellR He.next 3 0):=fun e=>claim_ok (z:=[.int .i64 0,.int .i64 0,.int .i64 0]) ((e.old _ om).trans gf) rfl
 have F0:Ext Hf.next Hf Hf:=.refl _ _
 have lt0:=lt F0
 simp only[sR,sA,sB,seval,t6,t7,t10,t11,t12,t13,t15,lt0]
 refine (cos_spec jx).mono ?_
 rintro _ _ ⟨rfl,rfl⟩
 simp only[sR,sA,sB,seval,t6,t7,t10,t11,t12,t13,t15]
 refine (mul_spec jr (fCos_j x)).mono ?_
 rintro _ _ ⟨rfl,rfl⟩
 simp only[sR,sA,sB,seval,t6,t7,t10,t11,t12,t13,t15]
 refine (vscale_spec jt (fMul_j ..)).mono ?_
 rintro _ Hg ⟨rfl,Fg⟩
 have lv1:=lv Fg
 simp only[sR,sA,sB,seval,t6,t7,t10,t11,t12,t13,t15,lv1]
 refine (sin_spec jx).mono ?_
 rintro _ _ ⟨rfl,rfl⟩
 simp only[sR,sA,sB,seval,t6,t7,t10,t11,t12,t13,t15]
 refine (mul_spec jr (fSin_j x)).mono ?_
 rintro _ _ ⟨rfl,rfl⟩
 simp only[sR,sA,sB,seval,t6,t7,t10,t11,t12,t13,t15]
 refine (vscale_spec jv (fMul_j ..)).mono ?_
 rintro _ Hh ⟨rfl,Fh⟩
 have Gh:Ext Hf.next Hf Hh:=Fg.trans (Fh.less Fg.next)
 simp only[sR,sA,sB,seval,t6,t7,t10,t11,t12,t13,t15]
 refine (vadd_spec (vScale_j ..) (vScale_j ..)).mono ?_
 rintro _ Hi ⟨rfl,Fi⟩
 have Gi:Ext Hf.next Hf Hi:=Gh.trans (Fi.less Gh.next)
 have gi:=Gi.next
 obtain⟨flat,hfl⟩:∃f,f=vAdd (vScale t (fMul r (fCos x))) (vScale v (fMul r (fSin x))):=⟨_,rfl⟩
 have jfl:flat.j:=by rw[hfl]; exact vAdd_j (vScale_j ..) (vScale_j ..)
 rw[← hfl]
 have cl1:=cl Gi
 obtain⟨Hj,mj,rj,nj,kj⟩:=row_storeN (H:=Hi) (b:=He.next) (l:=[.int .i64 0,.int .i64 0,.int .i64 0]) ⟨0,(Gi.old _ om).trans gf,Nat.zero_le _⟩ (n:=3) rfl (xs:=flat.cells) rfl rfl
 simp only[sR,sA,sB,seval,t6,t7,t10,t11,t12,t13,t15,tr_claim,cl1,mj]
 simp only[ck_nil',ck_cons,ckP_load,ckP_claim,ckP_nil,ck_end,and_true,true_and,List.map_cons,List.map_nil]
 refine⟨?_,?_⟩
 ·and_intros <;> first | rfl | exact⟨_,rfl,fun _=>⟨_,by first | exact lt (by assumption) | exact lv (by assumption) | exact cl (by assumption),by first | exact aeq_V _ | exact aeq_cellR ..⟩⟩
 have oldj:∀c,c<He.next→Hj.get c=He.get c:=fun c hc=>by rw[kj c om,Gi.old c om,Ef.old c hc]
 have Ej:Ext H3.next H3 Hj:=⟨om,fun c hc=>by rw[oldj c om,Ee3.old c hc]⟩
 have lfl:∀{K:AHeap},Ext Hj.next Hj K→oLoad true 3 K (cellR He.next 3 0)=some (.agg flat.cells):=fun e=>ld3V (rj.same (e.old _ om))
 have lnj:∀{K:AHeap},Ext Hj.next Hj K→oLoad true 3 K (cellR H1.next 3 0)=some (.agg n.cells):=fun e=>lnn (Ej.trans (e.less Ej.next))
 have J0:Ext Hj.next Hj Hj:=.refl _ _
 have lfl0:=lfl J0
 have lnj0:=lnj J0
 refine aw_drawC rfl ?_
 simp only[sR,sA,sB,seval,t6,t7,t10,t11,t12,t13,t15,lfl0,lnj0]
 refine (vscale_spec hn jz).mono ?_
 rintro _ Hk ⟨rfl,Jk⟩
 simp only[sR,sA,sB,seval,t6,t7,t10,t11,t12,t13,t15]
 refine (vadd_spec jfl (vScale_j ..)).mono ?_
 rintro _ Hl ⟨rfl,Fl⟩
 have Jl:Ext Hj.next Hj Hl:=Jk.trans (Fl.less Jk.next)
 simp only[sR,sA,sB,seval,t6,t7,t10,t11,t12,t13,t15]
 refine (vunit_spec (vAdd_j jfl (vScale_j ..))).mono ?_
 rintro _ Hm ⟨rfl,Fm⟩
 have Jm:Ext Hj.next Hj Hm:=Jl.trans (Fm.less Jl.next)
 have Em:Ext H3.next H3 Hm:=Ej.trans (Jm.less Ej.next)
 have em:=Em.next
 obtain⟨Hn,mn,rn,nn,kn⟩:=row_storeN (r3.same (H':=Hm) (Em.old _ om)) (n:=3) rfl (xs:=(vUnit (vAdd flat (vScale n z))).cells) rfl rfl
 have w:=ld3V rn
 simp only[sR,sA,sB,seval,t6,t7,t10,t11,t12,t13,t15,mn]
 simp only[ck_nil',ck_cons,ckP_load,ckP_nil,ck_end,and_true,true_and,List.map_cons,List.map_nil,sA,sB,seval,t6,t7,t10,t11,t12,t13,t15,fin_cc,OptP_some,w]
 refine⟨?_,?_,⟨om,fun c hc=>by rw[kn c om,Em.old c om,old3 c hc]⟩⟩
 ·and_intros <;> first | rfl | exact⟨_,rfl,fun _=>⟨_,by first | exact lfl (by assumption) | exact lnj (by assumption),aeq_V _⟩⟩
 ·subst hfl hv ht hax hsize hz hr hx; rfl
open Go.Abs Go.Abs.S
abbrev h4(t i u v:Int):List AVal:=[.int .i64 t,.int .i64 i,.int .i64 u,.int .i64 v]
theorem fin_ct{T:Env}{H:AHeap}(g:Bool)(n i j:Nat)(K:AVal→AHeap→Prop):fin [.cell g n i,.t j] K .ret T H=OptP (oLoad g n H (T i)) fun v=>K (.tuple [v,T j]) H:=by
 rw[fin_ret]
 simp only[wRes]
 cases oLoad g n H (T i) with
 | none=>simp[OptP]
 | some v=>simp only[OptP_some]; rfl
theorem argE_5(a b c d e f:AVal)(r:List AVal):argE (a::b::c::d::e::f::r) 5=f:=_root_.id rfl
theorem none_spec{H:AHeap}:ACalls Tryz.prog noNat 116 [] H fun r H'=>r=.agg noHit.cells∧Ext H.next H H':=by
 obtain⟨H1,m1,r1,n1,k1⟩:=row_newL H (h4 0 0 0 0) (n:=4) rfl
 obtain⟨H2,m2,r2,n2,k2⟩:=row_storeN r1 (n:=4) rfl (xs:=h4 0 (-1) 0 0) rfl rfl
 have w:=row_loadN r2 (n:=4) rfl
 refine acalls_ofN rfl za116 rfl ?_
 have b:aBuild (h4 0 0 0 0) [(1,1,.int .i64 (-1))]=some (.agg (h4 0 (-1) 0 0)):=rfl
 simp only[c116,sA,sB,seval,m1,b,m2,fin_cc,OptP_some,w]
 exact⟨rfl,⟨om,fun c hc=>by rw[k2 c om,k1 c om]⟩⟩
theorem side_j{o d lo hi:Int}{p q:Int×Int}(hp:J64 p.1∧J64 p.2)(h:side o d lo hi p=some q):J64 q.1∧J64 q.2:=by
 have a1:=fDiv_j (fSub lo o) d
 have a2:=fDiv_j (fSub hi o) d
 unfold J64 at *
 unfold side at h
 generalize fDiv (fSub lo o) d=x at *
 generalize fDiv (fSub hi o) d=y at *
 by_cases hd:d=0
 ·rw[if_pos hd]at h
  split at h
  ·obtain rfl:=Option.some.inj h; exact hp
  ·cases h
 rw[if_neg hd]at h
 by_cases hn:d<0
 ·simp only[hn,if_true]at h
  split at h
  ·obtain rfl:=Option.some.inj h; exact⟨om,om⟩
  ·cases h
 ·simp only[hn,if_false]at h
  split at h
  ·obtain rfl:=Option.some.inj h; exact⟨om,om⟩
  ·cases h
theorem side_spec{o d lo hi:Int}(ho:J64 o)(hd:J64 d)(hl:J64 lo)(hh:J64 hi){p:Int×Int}{b c:Nat}(hbc:b≠c){H:AHeap}(rb:Row H b [.int .i64 p.1])(rc:Row H c [.int .i64 p.2]) :
  ACalls Tryz.prog noNat 115 [.int .i64 o,.int .i64 d,.int .i64 lo,.int .i64 hi,cellR b 1 0,cellR c 1 0] H fun r H'=>∃q:Int×Int,Row H' b [.int .i64 q.1]∧Row H' c [.int .i64 q.2]∧H'.next=H.next∧(∀k,k≠b→k≠c→H'.get k=H.get k) ∧
   ((side o d lo hi p=some q∧r=.bool true)∨(side o d lo hi p=none∧r=.bool false)):=by
 refine acalls_ofN rfl za115 rfl ?_
 unfold side
 by_cases h0:d=0
 ·rw[if_pos h0]
  by_cases h1:lo≤o
  ·by_cases h2:o≤hi
   ·rw[if_pos ⟨h1,h2⟩]
    simp only[c115,sA,sB,seval,h0,h1,h2]
    exact⟨p,rb,rc,by first | rfl | trivial,by first | trivial | exact fun _ _ _=>by first | rfl | trivial,.inl ⟨rfl,tt⟩⟩
   ·rw[if_neg (fun h=>h2 h.2)]
    simp only[c115,sA,sB,seval,h0,h1,h2]
    exact⟨p,rb,rc,by first | rfl | trivial,by first | trivial | exact fun _ _ _=>by first | rfl | trivial,.inr ⟨tt,tt⟩⟩
  ·rw[if_neg (fun h=>h1 h.1)]
   simp only[c115,sA,sB,seval,h0,h1]
   exact⟨p,rb,rc,by first | rfl | trivial,by first | trivial | exact fun _ _ _=>by first | rfl | trivial,.inr ⟨tt,tt⟩⟩
 rw[if_neg h0]
 have l1:oLoad false 1 H (cellR b 1 0)=some (.int .i64 p.1):=row_load rb rfl rfl
 have l2:oLoad false 1 H (cellR c 1 0)=some (.int .i64 p.2):=row_load rc rfl rfl
 simp only[c115,sA,sB,seval,h0]
 refine (sub_spec hl ho).mono ?_
 rintro _ _ ⟨rfl,rfl⟩
 simp only[sA,sB,seval]
 refine (div_spec (fSub_j hl ho) hd).mono ?_
 rintro _ _ ⟨rfl,rfl⟩
 simp only[sA,sB,seval]
 refine (sub_spec hh ho).mono ?_
 rintro _ _ ⟨rfl,rfl⟩
 simp only[sA,sB,seval]
 refine (div_spec (fSub_j hh ho) hd).mono ?_
 rintro _ _ ⟨rfl,rfl⟩
 generalize fDiv (fSub lo o) d=x
 generalize fDiv (fSub hi o) d=y
 by_cases hn:d<0
 ·obtain⟨H1,m1,r1,n1,k1⟩:=row_st rb (n:=1) rfl (i:=0) om (x:=.int .i64 (max p.1 y)) rfl (l':=[.int .i64 (max p.1 y)]) rfl
  obtain⟨H2,m2,r2,n2,k2⟩:=row_st (rc.same (H':=H1) (k1 _ om)) (n:=1) rfl (i:=0) om (x:=.int .i64 (min p.2 x)) rfl (l':=[.int .i64 (min p.2 x)]) rfl
  have r1':=r1.same (k2 _ om)
  have g1:oLoad false 1 H2 (cellR b 1 0)=some (.int .i64 (max p.1 y)):=row_load r1' rfl rfl
  have g2:oLoad false 1 H2 (cellR c 1 0)=some (.int .i64 (min p.2 x)):=row_load r2 rfl rfl
  have l3:oLoad false 1 H1 (cellR c 1 0)=some (.int .i64 p.2):=row_load (rc.same (k1 _ om)) rfl rfl
  simp only[sA,sB,seval,eq_true hn]
  refine aw_drawC rfl ?_
  simp only[sR,sA,sB,seval,argE_5,l1,l2,pf_maxI,max_if,min_if,m1,m2]
  simp only[ck_nil',ck_cons,ckP_load,ckP_nil,ck_end,and_true,true_and,List.map_cons,List.map_nil]
  refine⟨?_,?_⟩
  ·and_intros <;> first | rfl | exact⟨_,rfl,fun _=>⟨_,l3,aeq_int _ _⟩⟩
  simp only[sA,sB,seval,argE_5,g1,g2]
  by_cases hm:max p.1 y≤min p.2 x
  ·simp only[sA,sB,seval,hm]
   exact⟨(max p.1 y,min p.2 x),r1',r2,om,fun k hb hc=>by rw[k2 k hc,k1 k hb],.inl ⟨tt,tt⟩⟩
  ·simp only[sA,sB,seval,hm]
   exact⟨(max p.1 y,min p.2 x),r1',r2,om,fun k hb hc=>by rw[k2 k hc,k1 k hb],.inr ⟨tt,tt⟩⟩
 ·obtain⟨H1,m1,r1,n1,k1⟩:=row_st rb (n:=1) rfl (i:=0) om (x:=.int .i64 (max p.1 x)) rfl (l':=[.int .i64 (max p.1 x)]) rfl
  obtain⟨H2,m2,r2,n2,k2⟩:=row_st (rc.same (H':=H1) (k1 _ om)) (n:=1) rfl (i:=0) om (x:=.int .i64 (min p.2 y)) rfl (l':=[.int .i64 (min p.2 y)]) rfl
  have r1':=r1.same (k2 _ om)
  have g1:oLoad false 1 H2 (cellR b 1 0)=some (.int .i64 (max p.1 x)):=row_load r1' rfl rfl
  have g2:oLoad false 1 H2 (cellR c 1 0)=some (.int .i64 (min p.2 y)):=row_load r2 rfl rfl
  have l3:oLoad false 1 H1 (cellR c 1 0)=some (.int .i64 p.2):=row_load (rc.same (k1 _ om)) rfl rfl
  simp only[sA,sB,seval,eq_false hn]
  refine aw_drawC rfl ?_
  simp only[sR,sA,sB,seval,argE_5,l1,l2,pf_maxI,max_if,min_if,m1,m2]
  simp only[ck_nil',ck_cons,ckP_load,ckP_nil,ck_end,and_true,true_and,List.map_cons,List.map_nil]
  refine⟨?_,?_⟩
  ·and_intros <;> first | rfl | exact⟨_,rfl,fun _=>⟨_,l3,aeq_int _ _⟩⟩
  simp only[sA,sB,seval,argE_5,g1,g2]
  by_cases hm:max p.1 x≤min p.2 y
  ·simp only[sA,sB,seval,hm]
   exact⟨(max p.1 x,min p.2 y),r1',r2,om,fun k hb hc=>by rw[k2 k hc,k1 k hb],.inl ⟨tt,tt⟩⟩
  ·simp only[sA,sB,seval,hm]
   exact⟨(max p.1 x,min p.2 y),r1',r2,om,fun k hb hc=>by rw[k2 k hc,k1 k hb],.inr ⟨tt,tt⟩⟩
def oI:Option Int→AVal
 | some x=>.tuple [.int .i64 x,.bool true]
 | none=>.tuple [.int .i64 0,.bool false]
theorem ldB{H:AHeap}{b:Nat}{v u:V}(r:Row H b (v.cells++u.cells)):oLoad false 1 H (cellR b 6 0)=some (.int .i64 v.x)∧oLoad false 1 H (cellR b 6 1)=some (.int .i64 v.y)∧oLoad false 1 H (cellR b 6 2)=some (.int .i64 v.z) ∧
  oLoad false 1 H (cellR b 6 3)=some (.int .i64 u.x)∧oLoad false 1 H (cellR b 6 4)=some (.int .i64 u.y)∧oLoad false 1 H (cellR b 6 5)=some (.int .i64 u.z)∧oLoad true 3 H (cellR b 6 0)=some (.agg v.cells)∧oLoad true 3 H (cellR b 6 3)=some (.agg u.cells)∧oLoad true 6 H (cellR b 6 0)=some (.agg (v.cells++u.cells)):=
 ⟨row_load r rfl rfl,row_load r rfl rfl,row_load r rfl rfl,row_load r rfl rfl,row_load r rfl rfl,row_load r rfl rfl,row_loadK r (n:=6) rfl (show 0+3≤6 by decide),row_loadK r (n:=6) rfl (show 3+3≤6 by decide),row_loadN r (n:=6) rfl⟩
theorem box_spec{r:Ray}(hr:r.j){x:Bx}(hx:x.j){H:AHeap}:ACalls Tryz.prog noNat 89 [.agg r.cells,.agg x.cells] H fun v H'=>v=oI (boxF r x)∧Ext H.next H H':=by
 obtain⟨⟨rx,ry,rz⟩,dx,dy,dz⟩:=hr
 obtain⟨⟨lx,ly,lz⟩,ux,uy,uz⟩:=hx
 obtain⟨H1,m1,r1,n1,k1⟩:=row_newL H r.cells (n:=6) rfl
 obtain⟨H2,m2,r2,n2,k2⟩:=row_newL H1 x.cells (n:=6) rfl
 obtain⟨H3,m3,r3,n3,k3⟩:=row_newL H2 [.int .i64 0] (n:=1) rfl
 obtain⟨H4,m4,r4,n4,k4⟩:=row_newL H3 [.int .i64 0] (n:=1) rfl
 obtain⟨H5,m5,r5,n5,k5⟩:=row_st (r3.same (H':=H4) (k4 _ om)) (n:=1) rfl (i:=0) om (x:=.int .i64 0) rfl (l':=[.int .i64 0]) rfl
 obtain⟨H6,m6,r6,n6,k6⟩:=row_st (r4.same (H':=H5) (k5 _ om)) (n:=1) rfl (i:=0) om (x:=.int .i64 9223372036854775807) rfl (l':=[.int .i64 9223372036854775807]) rfl
 have old6:∀c,c<H2.next→H6.get c=H2.get c:=fun c hc=>by rw[k6 c om,k5 c om,k4 c om,k3 c om]
 have lr:∀{K:AHeap},(∀k,k≠H2.next→k≠H3.next→K.get k=H6.get k)→_:=fun {K} e=>ldB (v:=r.o) (u:=r.d) (r1.same (H':=K) (by rw[e _ om om,old6 _ om,k2 _ om]))
 have lx':∀{K:AHeap},(∀k,k≠H2.next→k≠H3.next→K.get k=H6.get k)→_:=fun {K} e=>ldB (v:=x.lo) (u:=x.hi) (r2.same (H':=K) (by rw[e _ om om,old6 _ om]))
 have ex:∀{K:AHeap},(∀k,k≠H2.next→k≠H3.next→K.get k=H6.get k)→K.next=H6.next→Ext H.next H K:=fun {K} e n=>⟨om,fun c hc=>by rw[e c om om,old6 c om,k2 c om,k1 c om]⟩
 refine acalls_ofN rfl za89 rfl ?_
 obtain⟨a0,a1,a2,a3,a4,a5,_⟩:=lr (K:=H6) fun _ _ _=>rfl
 obtain⟨b0,b1,b2,b3,b4,b5,_⟩:=lx' (K:=H6) fun _ _ _=>rfl
 unfold boxF
 simp only[c89,sA,sB,seval,cells_agg,m1,m2,m3,m4,m5,m6,fld0,fldA,a0,a3,b0,b3,List.nil_append]
 refine (side_spec rx dx lx ux (p:=(0,9223372036854775807)) (b:=H2.next) (c:=H3.next) om (r5.same (k6 _ om)) r6).mono ?_
 rintro _ Ha ⟨p,ra,rb,na,ka,⟨h,rfl⟩ | ⟨h,rfl⟩⟩
 rotate_left
 ·rw[h]
  simp only[sA,sB,seval]
  exact⟨tt,ex ka na⟩
 rw[h]
 obtain⟨a0,a1,a2,a3,a4,a5,_⟩:=lr ka
 obtain⟨b0,b1,b2,b3,b4,b5,_⟩:=lx' ka
 simp only[sA,sB,seval,fldA,a1,a4,b1,b4,List.nil_append]
 refine (side_spec ry dy ly uy om ra rb).mono ?_
 rintro _ Hb ⟨q,qa,qb,nb,kb,⟨g,rfl⟩ | ⟨g,rfl⟩⟩
 rotate_left
 ·rw[g]
  simp only[sA,sB,seval]
  exact⟨tt,ex (fun k h1 h2=>by rw[kb k h1 h2,ka k h1 h2]) om⟩
 rw[g]
 have kb':∀k,k≠H2.next→k≠H3.next→Hb.get k=H6.get k:=fun k h1 h2=>by rw[kb k h1 h2,ka k h1 h2]
 obtain⟨a0,a1,a2,a3,a4,a5,_⟩:=lr kb'
 obtain⟨b0,b1,b2,b3,b4,b5,_⟩:=lx' kb'
 simp only[sA,sB,seval,fldA,a2,a5,b2,b5,List.nil_append]
 refine (side_spec rz dz lz uz om qa qb).mono ?_
 rintro _ Hc ⟨s,sa,sb,nc,kc,⟨e,rfl⟩ | ⟨e,rfl⟩⟩
 rotate_left
 ·rw[e]
  simp only[sA,sB,seval]
  exact⟨tt,ex (fun k h1 h2=>by rw[kc k h1 h2,kb' k h1 h2]) om⟩
 rw[e]
 have l6:oLoad false 1 Hc (cellR H2.next 1 0)=some (.int .i64 s.1):=row_load sa rfl rfl
 simp only[sA,sB,seval,l6]
 exact⟨tt,ex (fun k h1 h2=>by rw[kc k h1 h2,kb' k h1 h2]) om⟩
theorem boxF_j{r:Ray}{x:Bx}{n:Int}(h:boxF r x=some n):J64 n:=by
 unfold boxF at h
 split at h
 ·cases h
 rename_i p hp
 split at h
 ·cases h
 rename_i q hq
 split at h
 ·cases h
 rename_i s hs
 obtain rfl:=Option.some.inj h
 exact (side_j (side_j (side_j ⟨⟨by decide,by decide⟩,by decide,by decide⟩ hp) hq) hs).1
open Go.Abs Go.Abs.S
def oT:Option Hit→AVal
 | some h=>.tuple [.agg h.cells,.bool true]
 | none=>.tuple [.agg H0.cells,.bool false]
theorem h4_0:aBuild (h4 0 0 0 0) []=some (.agg (h4 0 0 0 0)):=rfl
theorem h4_3(t u v:Int):aBuild (h4 0 0 0 0) [(0,1,.int .i64 t),(2,1,.int .i64 u),(3,1,.int .i64 v)]=some (.agg (h4 t 0 u v)):=rfl
theorem row_vec(H:AHeap)(v:V):∃H1 H',oNew H (v3 0 0 0)=(cellR H.next 3 0,H1)∧oStore 3 H1 (cellR H.next 3 0) (.agg v.cells)=some H'∧Row H' H.next v.cells∧H'.next=H.next+1∧∀c,c≠H.next→H'.get c=H.get c:=by
 obtain⟨H1,m1,r1,n1,k1⟩:=row_newL H (v3 0 0 0) (n:=3) rfl
 obtain⟨H2,m2,r2,n2,k2⟩:=row_storeN r1 (n:=3) rfl (xs:=v.cells) rfl rfl
 exact⟨H1,H2,m1,m2,r2,om,fun c hc=>by rw[k2 c hc,k1 c hc]⟩
theorem tri_spec{r:Ray}(hr:r.j){a b c:V}(ha:a.j)(hb:b.j)(hc:c.j){H:AHeap}:ACalls Tryz.prog noNat 118 [.agg r.cells,.agg a.cells,.agg b.cells,.agg c.cells] H fun v H'=>v=oT (triF r a b c)∧Ext H.next H H':=by
 obtain⟨jo,jd⟩:=hr
 obtain⟨H1,m1,r1,n1,k1⟩:=row_newL H r.cells (n:=6) rfl
 obtain⟨H2,m2,r2,n2,k2⟩:=row_newL H1 a.cells (n:=3) rfl
 obtain⟨H3,m3,r3,n3,k3⟩:=row_newL H2 b.cells (n:=3) rfl
 obtain⟨H4,m4,r4,n4,k4⟩:=row_newL H3 c.cells (n:=3) rfl
 obtain⟨H5,m5,r5,n5,k5⟩:=row_newL H4 (h4 0 0 0 0) (n:=4) rfl
 have E5:Ext H.next H H5:=⟨om,fun c hc=>by rw[k5 c om,k4 c om,k3 c om,k2 c om,k1 c om]⟩
 have w1:∀{K:AHeap},Ext H5.next H5 K→_:=fun {K} e=>ldB (v:=r.o) (u:=r.d) (r1.same (H':=K) (by rw[e.old _ om,k5 _ om,k4 _ om,k3 _ om,k2 _ om]))
 have w2:∀{K:AHeap},Ext H5.next H5 K→oLoad true 3 K (cellR H1.next 3 0)=some (.agg a.cells):=fun {K} e=>ld3V (r2.same (H':=K) (by rw[e.old _ om,k5 _ om,k4 _ om,k3 _ om]))
 have w3:∀{K:AHeap},Ext H5.next H5 K→oLoad true 3 K (cellR H2.next 3 0)=some (.agg b.cells):=fun {K} e=>ld3V (r3.same (H':=K) (by rw[e.old _ om,k5 _ om,k4 _ om]))
 have w4:∀{K:AHeap},Ext H5.next H5 K→oLoad true 3 K (cellR H3.next 3 0)=some (.agg c.cells):=fun {K} e=>ld3V (r4.same (H':=K) (by rw[e.old _ om,k5 _ om]))
 have fin4:∀{K:AHeap} (x:Hit),Ext H5.next H5 K→∃K',oStore 4 K (cellR H4.next 4 0) (.agg (h4 x.t x.i x.u x.v))=some K'∧oLoad true 4 K' (cellR H4.next 4 0)=some (.agg (h4 x.t x.i x.u x.v))∧Ext H.next H K':=fun {K} x e=>by
  have:=e.next
  obtain⟨K',q1,q2,q3,q4⟩:=row_storeN (r5.same (H':=K) (e.old _ om)) (n:=4) rfl (xs:=h4 x.t x.i x.u x.v) rfl rfl
  exact⟨K',q1,row_loadN q2 (n:=4) rfl,om,fun c hc=>by rw[q4 c om,e.old c om,E5.old c hc]⟩
 refine acalls_ofN rfl za118 rfl ?_
 obtain⟨e,he⟩:∃e,e=vSub b a:=⟨_,rfl⟩
 obtain⟨f,hf⟩:∃e,e=vSub c a:=⟨_,rfl⟩
 have je:e.j:=by rw[he]; exact vSub_j hb ha
 have jf:f.j:=by rw[hf]; exact vSub_j hc ha
 obtain⟨p,hp⟩:∃p,p=vCross r.d f:=⟨_,rfl⟩
 have jp:p.j:=by rw[hp]; exact vCross_j ..
 obtain⟨n,hn⟩:∃n,n=vDot e p:=⟨_,rfl⟩
 have jn:J64 n:=by rw[hn]; exact vDot_j ..
 obtain⟨s,hs⟩:∃s,s=vSub r.o a:=⟨_,rfl⟩
 have js:s.j:=by rw[hs]; exact vSub_j jo ha
 obtain⟨u,hu⟩:∃u,u=fDiv (vDot s p) n:=⟨_,rfl⟩
 have ju:J64 u:=by rw[hu]; exact fDiv_j ..
 obtain⟨q,hq⟩:∃q,q=vCross s e:=⟨_,rfl⟩
 have jq:q.j:=by rw[hq]; exact vCross_j ..
 obtain⟨v,hv⟩:∃v,v=fDiv (vDot r.d q) n:=⟨_,rfl⟩
 have jv:J64 v:=by rw[hv]; exact fDiv_j ..
 obtain⟨t,ht⟩:∃t,t=fDiv (vDot f q) n:=⟨_,rfl⟩
 have e':triF r a b c=(if n=0 then none else if u<0∨4294967296<u then none else if v<0∨4294967296<fAdd u v then none else if t<0 then none else some ⟨t,0,u,v⟩):=by
  subst ht hv hq hu hs hn hp hf he; rfl
 rw[e']
 simp only[c118,sA,sB,seval,cells_agg,m1,m2,m3,m4,m5]
 refine aw_drawN ?_
 simp only[claims,newOf,reserves,resO_0,clOp_new]
 obtain⟨Hp,hHp⟩:∃K,K=(H5.push (.cells (v3 0 0 0) 0 false)).push (.cells (v3 0 0 0) 0 false):=⟨_,rfl⟩
 rw[← hHp]
 have np:Hp.next=H5.next+2:=by rw[hHp]; rfl
 have g1:Hp.get H5.next=some (.cells (v3 0 0 0) 0 false):=by rw[hHp,AHeap.get_push,if_neg (by show H5.next≠H5.next+1; omega),AHeap.get_push,if_pos rfl]
 have g2:Hp.get (H5.next+1)=some (.cells (v3 0 0 0) 0 false):=by rw[hHp,AHeap.get_push]; exact if_pos rfl
 have Ep:Ext H5.next H5 Hp:=by rw[hHp]; exact ((Ext.refl _ _).push rL _).push (Nat.le_succ _) _
 have tl:∀{K:AHeap},Ext Hp.next Hp K→Ext H5.next H5 K:=fun x=>Ep.trans (x.less Ep.next)
 have cl1:∀{K:AHeap},Ext Hp.next Hp K→aClaim K H5.next (v3 0 0 0) none=some (cellR H5.next 3 0):=fun x=>claim_ok (z:=v3 0 0 0) ((x.old _ om).trans g1) rfl
 have cl2:∀{K:AHeap},Ext Hp.next Hp K→aClaim K (H5.next+1) (v3 0 0 0) none=some (cellR (H5.next+1) 3 0):=fun x=>claim_ok (z:=v3 0 0 0) ((x.old _ om).trans g2) rfl
 have x2:∀{K:AHeap},Ext Hp.next Hp K→oLoad true 3 K (cellR H1.next 3 0)=some (.agg a.cells):=fun x=>w2 (tl x)
 have x3:∀{K:AHeap},Ext Hp.next Hp K→oLoad true 3 K (cellR H2.next 3 0)=some (.agg b.cells):=fun x=>w3 (tl x)
 have x4:∀{K:AHeap},Ext Hp.next Hp K→oLoad true 3 K (cellR H3.next 3 0)=some (.agg c.cells):=fun x=>w4 (tl x)
 have P0:Ext Hp.next Hp Hp:=.refl _ _
 have y2:=x2 P0
 have y3:=x3 P0
 simp only[sR,sA,sB,seval,y2,y3]
 refine (vsub_spec hb ha).mono ?_
 rintro _ H6 ⟨rfl,P6⟩
 have z2:=x2 P6
 have z4:=x4 P6
 simp only[sR,sA,sB,seval,z2,z4]
 refine (vsub_spec hc ha).mono ?_
 rintro _ H7 ⟨rfl,P7⟩
 have P67:Ext Hp.next Hp H7:=P6.trans (P7.less P6.next)
 have p67:=P67.next
 have d1:=cl1 P67
 have d2:=cl2 P67
 rw[← he,← hf]
 obtain⟨Ha,ma,ra,na,ka⟩:=row_storeN (H:=H7) (b:=H5.next) (l:=v3 0 0 0) ⟨0,(P67.old _ om).trans g1,Nat.zero_le _⟩ (n:=3) rfl (xs:=e.cells) rfl rfl
 obtain⟨Hb,mb,rb,nb,kb⟩:=row_storeN (H:=Ha) (b:=H5.next+1) (l:=v3 0 0 0) ⟨0,(ka _ om).trans ((P67.old _ om).trans g2),Nat.zero_le _⟩ (n:=3) rfl (xs:=f.cells) rfl rfl
 have Eb:Ext H5.next H5 Hb:=⟨om,fun c hc=>by rw[kb c om,ka c om,P67.old c om,Ep.old c hc]⟩
 have eb:=Eb.next
 simp only[sR,sA,sB,seval,tr_claim,d1,d2,ma,mb]
 simp only[ck_nil',ck_cons,ckP_load,ckP_claim,ckP_nil,ck_end,and_true,true_and,List.map_cons,List.map_nil]
 refine⟨?_,?_⟩
 ·have t0:∀{K:AHeap},aClaim K H5.next (v3 0 0 0) none=aClaim K H5.next [.int .i64 0,.int .i64 0,.int .i64 0] none:=rfl
  and_intros <;> first | rfl | exact⟨_,rfl,fun _=>⟨_,by first | exact x2 (by assumption) | exact x3 (by assumption) | exact x4 (by assumption) | exact cl1 (by assumption) | exact cl2 (by assumption),by first | exact aeq_V _ | exact aeq_cellR ..⟩⟩
 have se:∀{K:AHeap},Ext Hb.next Hb K→oLoad true 3 K (cellR H5.next 3 0)=some (.agg e.cells):=fun {K} x=>ld3V ((ra.same (kb _ om)).same (H':=K) (x.old _ om))
 have sf:∀{K:AHeap},Ext Hb.next Hb K→oLoad true 3 K (cellR (H5.next+1) 3 0)=some (.agg f.cells):=fun {K} x=>ld3V (rb.same (H':=K) (x.old _ om))
 have tb:∀{K:AHeap},Ext Hb.next Hb K→Ext H5.next H5 K:=fun x=>Eb.trans (x.less Eb.next)
 have B0:Ext Hb.next Hb Hb:=.refl _ _
 have sf0:=sf B0
 obtain⟨_,_,_,_,_,_,p3,p6,_⟩:=w1 (tb B0)
 simp only[sA,sB,seval,fldA,p6,sf0]
 refine (vcross_spec jd jf).mono ?_
 rintro _ Hc ⟨rfl,Ec⟩
 rw[← hp]
 have ec:=Ec.next
 obtain⟨Hd,He,md,me,re,ne,ke⟩:=row_vec Hc p
 have Ee:Ext Hb.next Hb He:=⟨om,fun c hc=>by rw[ke c om,Ec.old c hc]⟩
 have ee:=Ee.next
 have sp:∀{K:AHeap},Ext He.next He K→oLoad true 3 K (cellR Hc.next 3 0)=some (.agg p.cells):=fun {K} x=>ld3V (re.same (H':=K) (x.old _ om))
 have se0:=se Ee
 have sp0:=sp (Ext.refl He.next He)
 simp only[sA,sB,seval,md,me,se0,sp0]
 refine (vdot_spec je jp).mono ?_
 rintro _ Hf ⟨rfl,Ef⟩
 rw[← hn]
 have Eef:Ext Hb.next Hb Hf:=Ee.trans (Ef.less Ee.next)
 have ef:=Ef.next
 by_cases hn0:n=0
 ·obtain⟨K',q1,q2,q3⟩:=fin4 H0 (tb Eef)
  simp only[sA,sB,seval,hn0,h4_0]
  have q1':oStore 4 Hf (cellR H4.next 4 0) (.agg (h4 0 0 0 0))=some K':=q1
  have q2':oLoad true 4 K' (cellR H4.next 4 0)=some (.agg (h4 0 0 0 0)):=q2
  simp only[sA,sB,seval,q1',fin_ct,OptP_some,q2']
  exact⟨rfl,q3⟩
 rw[if_neg hn0]
 obtain⟨_,_,_,_,_,_,o3,o6,_⟩:=w1 (tb Eef)
 have a3:=w2 (tb Eef)
 simp only[sA,sB,seval,hn0,fld0,o3,a3]
 refine (vsub_spec jo ha).mono ?_
 rintro _ Hg ⟨rfl,Eg⟩
 rw[← hs]
 have eg:=Eg.next
 obtain⟨Hh,Hi,mh,mi,ri,ni,ki⟩:=row_vec Hg s
 have Ei:Ext He.next He Hi:=⟨om,fun c hc=>by rw[ki c om,Eg.old c om,Ef.old c hc]⟩
 have ei:=Ei.next
 have ss:∀{K:AHeap},Ext Hi.next Hi K→oLoad true 3 K (cellR Hg.next 3 0)=some (.agg s.cells):=fun {K} x=>ld3V (ri.same (H':=K) (x.old _ om))
 have sp1:=sp Ei
 have ss1:=ss (Ext.refl Hi.next Hi)
 simp only[sA,sB,seval,mh,mi,sp1,ss1]
 refine (vdot_spec js jp).mono ?_
 rintro _ Hj ⟨rfl,Ej⟩
 simp only[sA,sB,seval]
 refine (div_spec (vDot_j ..) jn).mono ?_
 rintro _ _ ⟨rfl,rfl⟩
 rw[← hu]
 have ej:=Ej.next
 have Ebj:Ext Hb.next Hb Hj:=Ee.trans ((Ei.trans (Ej.less Ei.next)).less Ee.next)
 by_cases hc1:u<0∨4294967296<u
 ·obtain⟨K',q1,q2,q3⟩:=fin4 H0 (tb Ebj)
  have q1':oStore 4 Hj (cellR H4.next 4 0) (.agg (h4 0 0 0 0))=some K':=q1
  have q2':oLoad true 4 K' (cellR H4.next 4 0)=some (.agg (h4 0 0 0 0)):=q2
  rw[if_pos hc1]
  by_cases h1:u<0
  ·simp only[sA,sB,seval,h1,h4_0,q1',fin_ct,OptP_some,q2']
   exact⟨rfl,q3⟩
  ·have h2:4294967296<u:=om
   simp only[sA,sB,seval,h1,h2,h4_0,q1',fin_ct,OptP_some,q2']
   exact⟨rfl,q3⟩
 rw[if_neg hc1]
 have h1:¬u<0:=om
 have h2:¬4294967296<u:=om
 have ss2:=ss Ej
 have se2:=se Ebj
 simp only[sA,sB,seval,eq_false h1,eq_false h2,ss2,se2]
 refine (vcross_spec js je).mono ?_
 rintro _ Hk ⟨rfl,Ek⟩
 rw[← hq]
 have ek:=Ek.next
 obtain⟨Hl,Hm,ml,mm,rm,nm,km⟩:=row_vec Hk q
 have Em:Ext Hb.next Hb Hm:=⟨om,fun c hc=>by rw[km c om,Ek.old c om,Ebj.old c hc]⟩
 have em:=Em.next
 have sq:∀{K:AHeap},Ext Hm.next Hm K→oLoad true 3 K (cellR Hk.next 3 0)=some (.agg q.cells):=fun {K} x=>ld3V (rm.same (H':=K) (x.old _ om))
 obtain⟨_,_,_,_,_,_,_,o7,_⟩:=w1 (tb Em)
 have sq1:=sq (Ext.refl Hm.next Hm)
 simp only[sA,sB,seval,ml,mm,fldA,o7,sq1]
 refine (vdot_spec jd jq).mono ?_
 rintro _ Hn ⟨rfl,En⟩
 simp only[sA,sB,seval]
 refine (div_spec (vDot_j ..) jn).mono ?_
 rintro _ _ ⟨rfl,rfl⟩
 rw[← hv]
 have en:=En.next
 have Ebn:Ext Hb.next Hb Hn:=Em.trans (En.less Em.next)
 by_cases h3:v<0
 ·obtain⟨K',q1,q2,q3⟩:=fin4 H0 (tb Ebn)
  have q1':oStore 4 Hn (cellR H4.next 4 0) (.agg (h4 0 0 0 0))=some K':=q1
  have q2':oLoad true 4 K' (cellR H4.next 4 0)=some (.agg (h4 0 0 0 0)):=q2
  rw[if_pos (.inl h3)]
  simp only[sA,sB,seval,h3,h4_0,q1',fin_ct,OptP_some,q2']
  exact⟨rfl,q3⟩
 simp only[sA,sB,seval,eq_false h3]
 refine (add_spec ju jv).mono ?_
 rintro _ _ ⟨rfl,rfl⟩
 by_cases h5:4294967296<fAdd u v
 ·obtain⟨K',q1,q2,q3⟩:=fin4 H0 (tb Ebn)
  have q1':oStore 4 Hn (cellR H4.next 4 0) (.agg (h4 0 0 0 0))=some K':=q1
  have q2':oLoad true 4 K' (cellR H4.next 4 0)=some (.agg (h4 0 0 0 0)):=q2
  rw[if_pos (.inr h5)]
  simp only[sA,sB,seval,eq_true h5,h4_0,q1',fin_ct,OptP_some,q2']
  exact⟨rfl,q3⟩
 rw[if_neg (fun h=>h.elim id h5)]
 have sf2:=sf Ebn
 have sq2:=sq En
 simp only[sA,sB,seval,eq_false h5,sf2,sq2]
 refine (vdot_spec jf jq).mono ?_
 rintro _ Ho ⟨rfl,Eo⟩
 simp only[sA,sB,seval]
 refine (div_spec (vDot_j ..) jn).mono ?_
 rintro _ _ ⟨rfl,rfl⟩
 rw[← ht]
 have Ebo:Ext Hb.next Hb Ho:=Ebn.trans (Eo.less Ebn.next)
 by_cases h6:t<0
 ·obtain⟨K',q1,q2,q3⟩:=fin4 H0 (tb Ebo)
  have q1':oStore 4 Ho (cellR H4.next 4 0) (.agg (h4 0 0 0 0))=some K':=q1
  have q2':oLoad true 4 K' (cellR H4.next 4 0)=some (.agg (h4 0 0 0 0)):=q2
  rw[if_pos h6]
  simp only[sA,sB,seval,eq_true h6,h4_0,q1',fin_ct,OptP_some,q2']
  exact⟨rfl,q3⟩
 obtain⟨K',q1,q2,q3⟩:=fin4 ⟨t,0,u,v⟩ (tb Ebo)
 have q1':oStore 4 Ho (cellR H4.next 4 0) (.agg (h4 t 0 u v))=some K':=q1
 have q2':oLoad true 4 K' (cellR H4.next 4 0)=some (.agg (h4 t 0 u v)):=q2
 rw[if_neg h6]
 simp only[sA,sB,seval,eq_false h6,h4_3,q1',fin_ct,OptP_some,q2']
 exact⟨rfl,q3⟩
open Go.Abs Go.Abs.S
def Bll.j(b:Bll):Prop:=b.c.j∧J64 b.r
def oB:Option (Int×Int)→AVal
 | some p=>.tuple [.int .i64 p.1,.int .i64 p.2,.bool true]
 | none=>.tuple [.int .i64 0,.int .i64 0,.bool false]
theorem ldL{H:AHeap}{b:Nat}{x:Bll}(r:Row H b x.cells):oLoad true 3 H (cellR b 4 0)=some (.agg x.c.cells)∧oLoad false 1 H (cellR b 4 3)=some (.int .i64 x.r):=
 ⟨row_loadK r (n:=4) rfl (show 0+3≤4 by decide),row_load r rfl rfl⟩
theorem ball_spec{r:Ray}(hr:r.j){b:Bll}(hb:b.j){H:AHeap}:ACalls Tryz.prog noNat 136 [.agg r.cells,.agg b.cells] H fun v H'=>v=oB (ballF r b)∧Ext H.next H H':=by
 obtain⟨jo,jd⟩:=hr
 obtain⟨jc,jr⟩:=hb
 obtain⟨H1,m1,r1,n1,k1⟩:=row_newL H r.cells (n:=6) rfl
 obtain⟨H2,m2,r2,n2,k2⟩:=row_newL H1 b.cells (n:=4) rfl
 have E2:Ext H.next H H2:=⟨om,fun c hc=>by rw[k2 c om,k1 c om]⟩
 have e2:=E2.next
 have w1:∀{K:AHeap},Ext H2.next H2 K→_:=fun {K} e=>ldB (v:=r.o) (u:=r.d) (r1.same (H':=K) (by rw[e.old _ om,k2 _ om]))
 have w2:∀{K:AHeap},Ext H2.next H2 K→_:=fun {K} e=>ldL (x:=b) (r2.same (H':=K) (e.old _ om))
 have ex:∀{K:AHeap},Ext H2.next H2 K→Ext H.next H K:=fun e=>E2.trans (e.less E2.next)
 have E0:Ext H2.next H2 H2:=.refl _ _
 refine acalls_ofN rfl za136 rfl ?_
 obtain⟨g,hg⟩:∃g,g=vSub r.o b.c:=⟨_,rfl⟩
 have jg:g.j:=by rw[hg]; exact vSub_j jo jc
 obtain⟨a,ha⟩:∃a,a=vDot r.d r.d:=⟨_,rfl⟩
 have ja:J64 a:=by rw[ha]; exact vDot_j ..
 obtain⟨h,hh⟩:∃h,h=vDot g r.d:=⟨_,rfl⟩
 have jh:J64 h:=by rw[hh]; exact vDot_j ..
 obtain⟨c,hc⟩:∃c,c=fSub (vDot g g) (fMul b.r b.r):=⟨_,rfl⟩
 have jc':J64 c:=by rw[hc]; exact fSub_j (vDot_j ..) (fMul_j ..)
 obtain⟨w,hw⟩:∃w,w=fSub (fMul h h) (fMul a c):=⟨_,rfl⟩
 have jw:J64 w:=by rw[hw]; exact fSub_j (fMul_j ..) (fMul_j ..)
 obtain⟨root,hroot⟩:∃w',w'=fSqrt w:=⟨_,rfl⟩
 have jroot:J64 root:=by rw[hroot]; exact (fSqrt_j _).1
 have e':ballF r b=(if a=0 then none else if w<0 then none else some (fDiv (fSub (fNeg h) root) a,fDiv (fAdd (fNeg h) root) a)):=by
  subst hroot hw hc hh ha hg; rfl
 rw[e']
 obtain⟨_,_,_,_,_,_,p0,p3,_⟩:=w1 E0
 obtain⟨b0,b3⟩:=w2 E0
 simp only[c136,sA,sB,seval,cells_agg,m1,m2,fld0,p0,b0]
 refine (vsub_spec jo jc).mono ?_
 rintro _ H3 ⟨rfl,E3⟩
 rw[← hg]
 have e3:=E3.next
 obtain⟨H4,H5,m4,m5,r5,n5,k5⟩:=row_vec H3 g
 have E5:Ext H2.next H2 H5:=⟨om,fun c hc=>by rw[k5 c om,E3.old c hc]⟩
 have e5:=E5.next
 have sg:∀{K:AHeap},Ext H5.next H5 K→oLoad true 3 K (cellR H3.next 3 0)=some (.agg g.cells):=fun {K} x=>ld3V (r5.same (H':=K) (x.old _ om))
 have tl:∀{K:AHeap},Ext H5.next H5 K→Ext H2.next H2 K:=fun x=>E5.trans (x.less E5.next)
 have y0:Ext H5.next H5 H5:=.refl _ _
 obtain⟨_,_,_,_,_,_,q0,q3,_⟩:=w1 (tl y0)
 simp only[sA,sB,seval,m4,m5,fldA,q3]
 refine (vdot_spec jd jd).mono ?_
 rintro _ H6 ⟨rfl,E6⟩
 rw[← ha]
 by_cases h0:a=0
 ·simp only[sA,sB,seval,h0]
  exact⟨tt,ex (tl E6)⟩
 rw[if_neg h0]
 have sg1:=sg E6
 obtain⟨_,_,_,_,_,_,q0,q3,_⟩:=w1 (tl E6)
 simp only[sA,sB,seval,eq_false h0,fldA,sg1,q3]
 refine (vdot_spec jg jd).mono ?_
 rintro _ H7 ⟨rfl,E7⟩
 rw[← hh]
 have E57:Ext H5.next H5 H7:=E6.trans (E7.less E6.next)
 have sg2:=sg E57
 refine aw_drawC rfl ?_
 simp only[sR,sA,sB,seval,sg2]
 refine (vdot_spec jg jg).mono ?_
 rintro _ H8 ⟨rfl,E8⟩
 have E58:Ext H5.next H5 H8:=E57.trans (E8.less E57.next)
 have w28:∀{K:AHeap},Ext H5.next H5 K→_:=fun {K} e=>(w2 (K:=K) (tl e)).2
 have b3:=w28 E58
 simp only[sR,sA,sB,seval,fldA,b3]
 refine (mul_spec jr jr).mono ?_
 rintro _ _ ⟨rfl,rfl⟩
 simp only[sR,sA,sB,seval]
 refine (sub_spec (vDot_j ..) (fMul_j ..)).mono ?_
 rintro _ _ ⟨rfl,rfl⟩
 rw[← hc]
 simp only[sR,sA,sB,seval]
 simp only[ck_nil',ck_cons,ckP_load,ckP_nil,ck_end,and_true,true_and,List.map_cons,List.map_nil]
 refine⟨?_,?_⟩
 ·and_intros <;> first | rfl | exact⟨_,rfl,fun _=>⟨_,by first | exact sg (by assumption) | exact w28 (by assumption) | (simp only[sA,sB,seval,fldA]; exact w28 (by assumption)),by first | exact aeq_V _ | exact aeq_int _ _⟩⟩
 refine (mul_spec jh jh).mono ?_
 rintro _ _ ⟨rfl,rfl⟩
 simp only[sA,sB,seval]
 refine (mul_spec ja jc').mono ?_
 rintro _ _ ⟨rfl,rfl⟩
 simp only[sA,sB,seval]
 refine (sub_spec (fMul_j ..) (fMul_j ..)).mono ?_
 rintro _ _ ⟨rfl,rfl⟩
 rw[← hw]
 by_cases h1:w<0
 ·simp only[sA,sB,seval,eq_true h1]
  exact⟨tt,ex (tl E58)⟩
 rw[if_neg h1]
 simp only[sA,sB,seval,eq_false h1]
 refine (sqrt_spec jw).mono ?_
 rintro _ _ ⟨rfl,rfl⟩
 rw[← hroot]
 simp only[sA,sB,seval]
 refine (neg_spec jh).mono ?_
 rintro _ _ ⟨rfl,rfl⟩
 simp only[sA,sB,seval]
 refine (sub_spec (fNeg_j jh) jroot).mono ?_
 rintro _ _ ⟨rfl,rfl⟩
 simp only[sA,sB,seval]
 refine (div_spec (fSub_j (fNeg_j jh) jroot) ja).mono ?_
 rintro _ _ ⟨rfl,rfl⟩
 simp only[sA,sB,seval]
 refine (neg_spec jh).mono ?_
 rintro _ _ ⟨rfl,rfl⟩
 simp only[sA,sB,seval]
 refine (add_spec (fNeg_j jh) jroot).mono ?_
 rintro _ _ ⟨rfl,rfl⟩
 simp only[sA,sB,seval]
 refine (div_spec (fAdd_j (fNeg_j jh) jroot) ja).mono ?_
 rintro _ _ ⟨rfl,rfl⟩
 simp only[sA,sB,seval]
 exact⟨tt,ex (tl E58)⟩
end Go.Proofs.Tc
