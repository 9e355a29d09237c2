/- Part of a proof (F1 F2 F3); no condition. -/
import Derived.Test.YteabnpheoiakdaaGreatDoorP7
set_option linter.unusedSimpArgs false
set_option linter.unusedVariables false
set_option linter.unnecessarySimpa false
namespace Go.Abs.F
open Go.Abs
noncomputable section
structure F8 where
 (a0 a1 a2 a3 a4 a5 a6 a7:AVal)
structure F64 where
 (b0 b1 b2 b3 b4 b5 b6 b7:F8)
structure Fr where
 (c0 c1 c2 c3:F64)
structure N8(α:Type) where
 (a0 a1 a2 a3 a4 a5 a6 a7:α)
def Nd(α:Type):Nat→Type:=@Nat.rec (fun _=>Type) α (fun _ t=>N8 t)
structure Cs where
 d:Nat
 t:Nd AVal d
inductive FObj where
 | cells (t:Cs) (n low:Nat) (ro:Bool) (mk:Bool:=false)
 | map (es:List (AVal×AVal×Nat)) (clock:Nat)
 | iter (s:List UInt8) (pos:Nat)
structure FHeap where
 next:Nat
 tr:Nd (Option FObj) 5
inductive R where
 | yes
 | no
 | val (v:AVal) (h:FHeap)
structure GW(T β:Type) where
 g:T→(β→R)→R
structure SW(T β:Type) where
 s:β→T→(T→R)→R
abbrev Kn:=Fr→FHeap→R
structure E where
 n:Nat
 call:FuncId→List AVal→FHeap→(AVal→FHeap→R)→R
abbrev GV:=Fr→(AVal→R)→R
abbrev SV:=AVal→Fr→(Fr→R)→R
abbrev K:=E→Fr→FHeap→Kn→List Kn→R
def l0(t:F8)(k:AVal→R):R:=@F8.rec (fun _=>R) (fun x _ _ _ _ _ _ _=>k x) t
def l1(t:F8)(k:AVal→R):R:=@F8.rec (fun _=>R) (fun _ x _ _ _ _ _ _=>k x) t
def l2(t:F8)(k:AVal→R):R:=@F8.rec (fun _=>R) (fun _ _ x _ _ _ _ _=>k x) t
def l3(t:F8)(k:AVal→R):R:=@F8.rec (fun _=>R) (fun _ _ _ x _ _ _ _=>k x) t
def l4(t:F8)(k:AVal→R):R:=@F8.rec (fun _=>R) (fun _ _ _ _ x _ _ _=>k x) t
def l5(t:F8)(k:AVal→R):R:=@F8.rec (fun _=>R) (fun _ _ _ _ _ x _ _=>k x) t
def l6(t:F8)(k:AVal→R):R:=@F8.rec (fun _=>R) (fun _ _ _ _ _ _ x _=>k x) t
def l7(t:F8)(k:AVal→R):R:=@F8.rec (fun _=>R) (fun _ _ _ _ _ _ _ x=>k x) t
def m0(g:F8→(AVal→R)→R)(t:F64)(k:AVal→R):R:=@F64.rec (fun _=>R) (fun x _ _ _ _ _ _ _=>g x k) t
def m1(g:F8→(AVal→R)→R)(t:F64)(k:AVal→R):R:=@F64.rec (fun _=>R) (fun _ x _ _ _ _ _ _=>g x k) t
def m2(g:F8→(AVal→R)→R)(t:F64)(k:AVal→R):R:=@F64.rec (fun _=>R) (fun _ _ x _ _ _ _ _=>g x k) t
def m3(g:F8→(AVal→R)→R)(t:F64)(k:AVal→R):R:=@F64.rec (fun _=>R) (fun _ _ _ x _ _ _ _=>g x k) t
def m4(g:F8→(AVal→R)→R)(t:F64)(k:AVal→R):R:=@F64.rec (fun _=>R) (fun _ _ _ _ x _ _ _=>g x k) t
def m5(g:F8→(AVal→R)→R)(t:F64)(k:AVal→R):R:=@F64.rec (fun _=>R) (fun _ _ _ _ _ x _ _=>g x k) t
def m6(g:F8→(AVal→R)→R)(t:F64)(k:AVal→R):R:=@F64.rec (fun _=>R) (fun _ _ _ _ _ _ x _=>g x k) t
def m7(g:F8→(AVal→R)→R)(t:F64)(k:AVal→R):R:=@F64.rec (fun _=>R) (fun _ _ _ _ _ _ _ x=>g x k) t
def t0(g:F64→(AVal→R)→R)(t:Fr)(k:AVal→R):R:=@Fr.rec (fun _=>R) (fun x _ _ _=>g x k) t
def t1(g:F64→(AVal→R)→R)(t:Fr)(k:AVal→R):R:=@Fr.rec (fun _=>R) (fun _ x _ _=>g x k) t
def t2(g:F64→(AVal→R)→R)(t:Fr)(k:AVal→R):R:=@Fr.rec (fun _=>R) (fun _ _ x _=>g x k) t
def t3(g:F64→(AVal→R)→R)(t:Fr)(k:AVal→R):R:=@Fr.rec (fun _=>R) (fun _ _ _ x=>g x k) t
def sl0(v:AVal)(t:F8)(k:F8→R):R:=@F8.rec (fun _=>R) (fun _ a1 a2 a3 a4 a5 a6 a7=>k (.mk v a1 a2 a3 a4 a5 a6 a7)) t
def sl1(v:AVal)(t:F8)(k:F8→R):R:=@F8.rec (fun _=>R) (fun a0 _ a2 a3 a4 a5 a6 a7=>k (.mk a0 v a2 a3 a4 a5 a6 a7)) t
def sl2(v:AVal)(t:F8)(k:F8→R):R:=@F8.rec (fun _=>R) (fun a0 a1 _ a3 a4 a5 a6 a7=>k (.mk a0 a1 v a3 a4 a5 a6 a7)) t
def sl3(v:AVal)(t:F8)(k:F8→R):R:=@F8.rec (fun _=>R) (fun a0 a1 a2 _ a4 a5 a6 a7=>k (.mk a0 a1 a2 v a4 a5 a6 a7)) t
def sl4(v:AVal)(t:F8)(k:F8→R):R:=@F8.rec (fun _=>R) (fun a0 a1 a2 a3 _ a5 a6 a7=>k (.mk a0 a1 a2 a3 v a5 a6 a7)) t
def sl5(v:AVal)(t:F8)(k:F8→R):R:=@F8.rec (fun _=>R) (fun a0 a1 a2 a3 a4 _ a6 a7=>k (.mk a0 a1 a2 a3 a4 v a6 a7)) t
def sl6(v:AVal)(t:F8)(k:F8→R):R:=@F8.rec (fun _=>R) (fun a0 a1 a2 a3 a4 a5 _ a7=>k (.mk a0 a1 a2 a3 a4 a5 v a7)) t
def sl7(v:AVal)(t:F8)(k:F8→R):R:=@F8.rec (fun _=>R) (fun a0 a1 a2 a3 a4 a5 a6 _=>k (.mk a0 a1 a2 a3 a4 a5 a6 v)) t
def sm0(s:AVal→F8→(F8→R)→R)(v:AVal)(t:F64)(k:F64→R):R:=@F64.rec (fun _=>R) (fun b0 b1 b2 b3 b4 b5 b6 b7=>s v b0 fun x=>k (.mk x b1 b2 b3 b4 b5 b6 b7)) t
def sm1(s:AVal→F8→(F8→R)→R)(v:AVal)(t:F64)(k:F64→R):R:=@F64.rec (fun _=>R) (fun b0 b1 b2 b3 b4 b5 b6 b7=>s v b1 fun x=>k (.mk b0 x b2 b3 b4 b5 b6 b7)) t
def sm2(s:AVal→F8→(F8→R)→R)(v:AVal)(t:F64)(k:F64→R):R:=@F64.rec (fun _=>R) (fun b0 b1 b2 b3 b4 b5 b6 b7=>s v b2 fun x=>k (.mk b0 b1 x b3 b4 b5 b6 b7)) t
def sm3(s:AVal→F8→(F8→R)→R)(v:AVal)(t:F64)(k:F64→R):R:=@F64.rec (fun _=>R) (fun b0 b1 b2 b3 b4 b5 b6 b7=>s v b3 fun x=>k (.mk b0 b1 b2 x b4 b5 b6 b7)) t
def sm4(s:AVal→F8→(F8→R)→R)(v:AVal)(t:F64)(k:F64→R):R:=@F64.rec (fun _=>R) (fun b0 b1 b2 b3 b4 b5 b6 b7=>s v b4 fun x=>k (.mk b0 b1 b2 b3 x b5 b6 b7)) t
def sm5(s:AVal→F8→(F8→R)→R)(v:AVal)(t:F64)(k:F64→R):R:=@F64.rec (fun _=>R) (fun b0 b1 b2 b3 b4 b5 b6 b7=>s v b5 fun x=>k (.mk b0 b1 b2 b3 b4 x b6 b7)) t
def sm6(s:AVal→F8→(F8→R)→R)(v:AVal)(t:F64)(k:F64→R):R:=@F64.rec (fun _=>R) (fun b0 b1 b2 b3 b4 b5 b6 b7=>s v b6 fun x=>k (.mk b0 b1 b2 b3 b4 b5 x b7)) t
def sm7(s:AVal→F8→(F8→R)→R)(v:AVal)(t:F64)(k:F64→R):R:=@F64.rec (fun _=>R) (fun b0 b1 b2 b3 b4 b5 b6 b7=>s v b7 fun x=>k (.mk b0 b1 b2 b3 b4 b5 b6 x)) t
def st0(s:AVal→F64→(F64→R)→R)(v:AVal)(t:Fr)(k:Fr→R):R:=@Fr.rec (fun _=>R) (fun c0 c1 c2 c3=>s v c0 fun x=>k (.mk x c1 c2 c3)) t
def st1(s:AVal→F64→(F64→R)→R)(v:AVal)(t:Fr)(k:Fr→R):R:=@Fr.rec (fun _=>R) (fun c0 c1 c2 c3=>s v c1 fun x=>k (.mk c0 x c2 c3)) t
def st2(s:AVal→F64→(F64→R)→R)(v:AVal)(t:Fr)(k:Fr→R):R:=@Fr.rec (fun _=>R) (fun c0 c1 c2 c3=>s v c2 fun x=>k (.mk c0 c1 x c3)) t
def st3(s:AVal→F64→(F64→R)→R)(v:AVal)(t:Fr)(k:Fr→R):R:=@Fr.rec (fun _=>R) (fun c0 c1 c2 c3=>s v c3 fun x=>k (.mk c0 c1 c2 x)) t
def lo(i:Nat):F8→(AVal→R)→R:=match i with | 0=>l0 | 1=>l1 | 2=>l2 | 3=>l3 | 4=>l4 | 5=>l5 | 6=>l6 | _=>l7
def mi(i:Nat):(F8→(AVal→R)→R)→F64→(AVal→R)→R:=match i with | 0=>m0 | 1=>m1 | 2=>m2 | 3=>m3 | 4=>m4 | 5=>m5 | 6=>m6 | _=>m7
def to(i:Nat):(F64→(AVal→R)→R)→GV:=match i with | 0=>t0 | 1=>t1 | 2=>t2 | _=>t3
def slo(i:Nat):AVal→F8→(F8→R)→R:=match i with | 0=>sl0 | 1=>sl1 | 2=>sl2 | 3=>sl3 | 4=>sl4 | 5=>sl5 | 6=>sl6 | _=>sl7
def smi(i:Nat):(AVal→F8→(F8→R)→R)→AVal→F64→(F64→R)→R:=match i with | 0=>sm0 | 1=>sm1 | 2=>sm2 | 3=>sm3 | 4=>sm4 | 5=>sm5 | 6=>sm6 | _=>sm7
def sto(i:Nat):(AVal→F64→(F64→R)→R)→SV:=match i with | 0=>st0 | 1=>st1 | 2=>st2 | _=>st3
def F8.at(x:F8)(i:Nat):AVal:=match i with | 0=>x.a0 | 1=>x.a1 | 2=>x.a2 | 3=>x.a3 | 4=>x.a4 | 5=>x.a5 | 6=>x.a6 | _=>x.a7
def F8.put(x:F8)(i:Nat)(v:AVal):F8:=match i with | 0=>{ x with a0:=v } | 1=>{ x with a1:=v } | 2=>{ x with a2:=v } | 3=>{ x with a3:=v } | 4=>{ x with a4:=v } | 5=>{ x with a5:=v } | 6=>{ x with a6:=v } | _=>{ x with a7:=v }
def F64.at(x:F64)(i:Nat):F8:=match i with | 0=>x.b0 | 1=>x.b1 | 2=>x.b2 | 3=>x.b3 | 4=>x.b4 | 5=>x.b5 | 6=>x.b6 | _=>x.b7
def F64.put(x:F64)(i:Nat)(v:F8):F64:=match i with | 0=>{ x with b0:=v } | 1=>{ x with b1:=v } | 2=>{ x with b2:=v } | 3=>{ x with b3:=v } | 4=>{ x with b4:=v } | 5=>{ x with b5:=v } | 6=>{ x with b6:=v } | _=>{ x with b7:=v }
def Fr.at(x:Fr)(i:Nat):F64:=match i with | 0=>x.c0 | 1=>x.c1 | 2=>x.c2 | _=>x.c3
def Fr.put(x:Fr)(i:Nat)(v:F64):Fr:=match i with | 0=>{ x with c0:=v } | 1=>{ x with c1:=v } | 2=>{ x with c2:=v } | _=>{ x with c3:=v }
theorem lo_eq(i:Nat)(x:F8)(k:AVal→R):lo i x k=k (x.at i):=by cases x; exact match i with | 0=>rfl | 1=>rfl | 2=>rfl | 3=>rfl | 4=>rfl | 5=>rfl | 6=>rfl | _+7=>rfl
theorem mi_eq(i:Nat)(g:F8→(AVal→R)→R)(x:F64)(k:AVal→R):mi i g x k=g (x.at i) k:=by cases x; exact match i with | 0=>rfl | 1=>rfl | 2=>rfl | 3=>rfl | 4=>rfl | 5=>rfl | 6=>rfl | _+7=>rfl
theorem to_eq(i:Nat)(g:F64→(AVal→R)→R)(x:Fr)(k:AVal→R):to i g x k=g (x.at i) k:=by cases x; exact match i with | 0=>rfl | 1=>rfl | 2=>rfl | _+3=>rfl
theorem slo_eq(i:Nat)(v:AVal)(x:F8)(k:F8→R):slo i v x k=k (x.put i v):=by cases x; exact match i with | 0=>rfl | 1=>rfl | 2=>rfl | 3=>rfl | 4=>rfl | 5=>rfl | 6=>rfl | _+7=>rfl
theorem smi_eq(i:Nat)(s:AVal→F8→(F8→R)→R)(v:AVal)(x:F64)(k:F64→R):smi i s v x k=s v (x.at i) fun y=>k (x.put i y):=by cases x; exact match i with | 0=>rfl | 1=>rfl | 2=>rfl | 3=>rfl | 4=>rfl | 5=>rfl | 6=>rfl | _+7=>rfl
theorem sto_eq(i:Nat)(s:AVal→F64→(F64→R)→R)(v:AVal)(x:Fr)(k:Fr→R):sto i s v x k=s v (x.at i) fun y=>k (x.put i y):=by cases x; exact match i with | 0=>rfl | 1=>rfl | 2=>rfl | _+3=>rfl
theorem F8.at_put(x:F8)(v:AVal)(i j:Nat)(hi:i<8)(hj:j<8):(x.put i v).at j=if j=i then v else x.at j:=by
 obtain rfl | rfl | rfl | rfl | rfl | rfl | rfl | rfl:i=0∨i=1∨i=2∨i=3∨i=4∨i=5∨i=6∨i=7:=om
 all_goals
  obtain rfl | rfl | rfl | rfl | rfl | rfl | rfl | rfl:j=0∨j=1∨j=2∨j=3∨j=4∨j=5∨j=6∨j=7:=om
  all_goals rfl
theorem F64.at_put(x:F64)(v:F8)(i j:Nat)(hi:i<8)(hj:j<8):(x.put i v).at j=if j=i then v else x.at j:=by
 obtain rfl | rfl | rfl | rfl | rfl | rfl | rfl | rfl:i=0∨i=1∨i=2∨i=3∨i=4∨i=5∨i=6∨i=7:=om
 all_goals
  obtain rfl | rfl | rfl | rfl | rfl | rfl | rfl | rfl:j=0∨j=1∨j=2∨j=3∨j=4∨j=5∨j=6∨j=7:=om
  all_goals rfl
theorem Fr.at_put(x:Fr)(v:F64)(i j:Nat)(hi:i<4)(hj:j<4):(x.put i v).at j=if j=i then v else x.at j:=by
 obtain rfl | rfl | rfl | rfl:i=0∨i=1∨i=2∨i=3:=om
 all_goals
  obtain rfl | rfl | rfl | rfl:j=0∨j=1∨j=2∨j=3:=om
  all_goals rfl
def Fr.get(F:Fr)(i:Nat):AVal:=((F.at (i / 64)).at (i / 8 % 8)).at (i % 8)
def Fr.set(F:Fr)(i:Nat)(v:AVal):Fr:=F.put (i / 64) ((F.at (i / 64)).put (i / 8 % 8) (((F.at (i / 64)).at (i / 8 % 8)).put (i % 8) v))
def gt(i:Nat):GV:=to (i / 64) (mi (i / 8 % 8) (lo (i % 8)))
def st(i:Nat):SV:=sto (i / 64) (smi (i / 8 % 8) (slo (i % 8)))
theorem gt_eq(i:Nat)(F:Fr)(k:AVal→R):gt i F k=k (F.get i):=by
 simp only[gt,to_eq,mi_eq,lo_eq,Fr.get]
theorem st_eq(i:Nat)(v:AVal)(F:Fr)(k:Fr→R):st i v F k=k (F.set i v):=by
 simp only[st,sto_eq,smi_eq,slo_eq,Fr.set]
theorem Fr.get_set(F:Fr)(v:AVal)(i j:Nat)(hi:i<256)(hj:j<256):(F.set i v).get j=if j=i then v else F.get j:=by
 simp only[Fr.get,Fr.set]
 rw[Fr.at_put _ _ _ _ om om]
 by_cases h1:j / 64=i / 64
 ·rw[if_pos h1,F64.at_put _ _ _ _ om om]
  by_cases h2:j / 8 % 8=i / 8 % 8
  ·rw[if_pos h2,F8.at_put _ _ _ _ om om]
   by_cases h3:j % 8=i % 8
   ·rw[if_pos h3,if_pos om]
   ·rw[if_neg h3,if_neg om,h1,h2]
  ·rw[if_neg h2,if_neg (fun e=>h2 (by rw[e])),h1]
 ·rw[if_neg h1,if_neg (fun e=>h1 (by rw[e]))]
def g0:GV:=t0 (m0 l0)
def g1:GV:=t0 (m0 l1)
def g2:GV:=t0 (m0 l2)
def g3:GV:=t0 (m0 l3)
def g4:GV:=t0 (m0 l4)
def g5:GV:=t0 (m0 l5)
def g6:GV:=t0 (m0 l6)
def g7:GV:=t0 (m0 l7)
def g8:GV:=t0 (m1 l0)
def g9:GV:=t0 (m1 l1)
def g10:GV:=t0 (m1 l2)
def g11:GV:=t0 (m1 l3)
def g12:GV:=t0 (m1 l4)
def g13:GV:=t0 (m1 l5)
def g14:GV:=t0 (m1 l6)
def g15:GV:=t0 (m1 l7)
def g16:GV:=t0 (m2 l0)
def g17:GV:=t0 (m2 l1)
def g18:GV:=t0 (m2 l2)
def g19:GV:=t0 (m2 l3)
def g20:GV:=t0 (m2 l4)
def g21:GV:=t0 (m2 l5)
def g22:GV:=t0 (m2 l6)
def g23:GV:=t0 (m2 l7)
def g24:GV:=t0 (m3 l0)
def g25:GV:=t0 (m3 l1)
def g26:GV:=t0 (m3 l2)
def g27:GV:=t0 (m3 l3)
def g28:GV:=t0 (m3 l4)
def g29:GV:=t0 (m3 l5)
def g30:GV:=t0 (m3 l6)
def g31:GV:=t0 (m3 l7)
def g32:GV:=t0 (m4 l0)
def g33:GV:=t0 (m4 l1)
def g34:GV:=t0 (m4 l2)
def g35:GV:=t0 (m4 l3)
def g36:GV:=t0 (m4 l4)
def g37:GV:=t0 (m4 l5)
def g38:GV:=t0 (m4 l6)
def g39:GV:=t0 (m4 l7)
def g40:GV:=t0 (m5 l0)
def g41:GV:=t0 (m5 l1)
def g42:GV:=t0 (m5 l2)
def g43:GV:=t0 (m5 l3)
def g44:GV:=t0 (m5 l4)
def g45:GV:=t0 (m5 l5)
def g46:GV:=t0 (m5 l6)
def g47:GV:=t0 (m5 l7)
def g48:GV:=t0 (m6 l0)
def g49:GV:=t0 (m6 l1)
def g50:GV:=t0 (m6 l2)
def g51:GV:=t0 (m6 l3)
def g52:GV:=t0 (m6 l4)
def g53:GV:=t0 (m6 l5)
def g54:GV:=t0 (m6 l6)
def g55:GV:=t0 (m6 l7)
def g56:GV:=t0 (m7 l0)
def g57:GV:=t0 (m7 l1)
def g58:GV:=t0 (m7 l2)
def g59:GV:=t0 (m7 l3)
def g60:GV:=t0 (m7 l4)
def g61:GV:=t0 (m7 l5)
def g62:GV:=t0 (m7 l6)
def g63:GV:=t0 (m7 l7)
def g64:GV:=t1 (m0 l0)
def g65:GV:=t1 (m0 l1)
def g66:GV:=t1 (m0 l2)
def g67:GV:=t1 (m0 l3)
def g68:GV:=t1 (m0 l4)
def g69:GV:=t1 (m0 l5)
def g70:GV:=t1 (m0 l6)
def g71:GV:=t1 (m0 l7)
def g72:GV:=t1 (m1 l0)
def g73:GV:=t1 (m1 l1)
def g74:GV:=t1 (m1 l2)
def g75:GV:=t1 (m1 l3)
def g76:GV:=t1 (m1 l4)
def g77:GV:=t1 (m1 l5)
def g78:GV:=t1 (m1 l6)
def g79:GV:=t1 (m1 l7)
def g80:GV:=t1 (m2 l0)
def g81:GV:=t1 (m2 l1)
def g82:GV:=t1 (m2 l2)
def g83:GV:=t1 (m2 l3)
def g84:GV:=t1 (m2 l4)
def g85:GV:=t1 (m2 l5)
def g86:GV:=t1 (m2 l6)
def g87:GV:=t1 (m2 l7)
def g88:GV:=t1 (m3 l0)
def g89:GV:=t1 (m3 l1)
def g90:GV:=t1 (m3 l2)
def g91:GV:=t1 (m3 l3)
def g92:GV:=t1 (m3 l4)
def g93:GV:=t1 (m3 l5)
def g94:GV:=t1 (m3 l6)
def g95:GV:=t1 (m3 l7)
def g96:GV:=t1 (m4 l0)
def g97:GV:=t1 (m4 l1)
def g98:GV:=t1 (m4 l2)
def g99:GV:=t1 (m4 l3)
def g100:GV:=t1 (m4 l4)
def g101:GV:=t1 (m4 l5)
def g102:GV:=t1 (m4 l6)
def g103:GV:=t1 (m4 l7)
def g104:GV:=t1 (m5 l0)
def g105:GV:=t1 (m5 l1)
def g106:GV:=t1 (m5 l2)
def g107:GV:=t1 (m5 l3)
def g108:GV:=t1 (m5 l4)
def g109:GV:=t1 (m5 l5)
def g110:GV:=t1 (m5 l6)
def g111:GV:=t1 (m5 l7)
def g112:GV:=t1 (m6 l0)
def g113:GV:=t1 (m6 l1)
def g114:GV:=t1 (m6 l2)
def g115:GV:=t1 (m6 l3)
def g116:GV:=t1 (m6 l4)
def g117:GV:=t1 (m6 l5)
def g118:GV:=t1 (m6 l6)
def g119:GV:=t1 (m6 l7)
def g120:GV:=t1 (m7 l0)
def g121:GV:=t1 (m7 l1)
def g122:GV:=t1 (m7 l2)
def g123:GV:=t1 (m7 l3)
def g124:GV:=t1 (m7 l4)
def g125:GV:=t1 (m7 l5)
def g126:GV:=t1 (m7 l6)
def g127:GV:=t1 (m7 l7)
def g128:GV:=t2 (m0 l0)
def g129:GV:=t2 (m0 l1)
def g130:GV:=t2 (m0 l2)
def g131:GV:=t2 (m0 l3)
def g132:GV:=t2 (m0 l4)
def g133:GV:=t2 (m0 l5)
def g134:GV:=t2 (m0 l6)
def g135:GV:=t2 (m0 l7)
def g136:GV:=t2 (m1 l0)
def g137:GV:=t2 (m1 l1)
def g138:GV:=t2 (m1 l2)
def g139:GV:=t2 (m1 l3)
def g140:GV:=t2 (m1 l4)
def g141:GV:=t2 (m1 l5)
def g142:GV:=t2 (m1 l6)
def g143:GV:=t2 (m1 l7)
def g144:GV:=t2 (m2 l0)
def g145:GV:=t2 (m2 l1)
def g146:GV:=t2 (m2 l2)
def g147:GV:=t2 (m2 l3)
def g148:GV:=t2 (m2 l4)
def g149:GV:=t2 (m2 l5)
def g150:GV:=t2 (m2 l6)
def g151:GV:=t2 (m2 l7)
def g152:GV:=t2 (m3 l0)
def g153:GV:=t2 (m3 l1)
def g154:GV:=t2 (m3 l2)
def g155:GV:=t2 (m3 l3)
def g156:GV:=t2 (m3 l4)
def g157:GV:=t2 (m3 l5)
def g158:GV:=t2 (m3 l6)
def g159:GV:=t2 (m3 l7)
def g160:GV:=t2 (m4 l0)
def g161:GV:=t2 (m4 l1)
def g162:GV:=t2 (m4 l2)
def g163:GV:=t2 (m4 l3)
def g164:GV:=t2 (m4 l4)
def g165:GV:=t2 (m4 l5)
def g166:GV:=t2 (m4 l6)
def g167:GV:=t2 (m4 l7)
def g168:GV:=t2 (m5 l0)
def g169:GV:=t2 (m5 l1)
def g170:GV:=t2 (m5 l2)
def g171:GV:=t2 (m5 l3)
def g172:GV:=t2 (m5 l4)
def g173:GV:=t2 (m5 l5)
def g174:GV:=t2 (m5 l6)
def g175:GV:=t2 (m5 l7)
def g176:GV:=t2 (m6 l0)
def g177:GV:=t2 (m6 l1)
def g178:GV:=t2 (m6 l2)
def g179:GV:=t2 (m6 l3)
def g180:GV:=t2 (m6 l4)
def g181:GV:=t2 (m6 l5)
def g182:GV:=t2 (m6 l6)
def g183:GV:=t2 (m6 l7)
def g184:GV:=t2 (m7 l0)
def g185:GV:=t2 (m7 l1)
def g186:GV:=t2 (m7 l2)
def g187:GV:=t2 (m7 l3)
def g188:GV:=t2 (m7 l4)
def g189:GV:=t2 (m7 l5)
def g190:GV:=t2 (m7 l6)
def g191:GV:=t2 (m7 l7)
def g192:GV:=t3 (m0 l0)
def g193:GV:=t3 (m0 l1)
def g194:GV:=t3 (m0 l2)
def g195:GV:=t3 (m0 l3)
def g196:GV:=t3 (m0 l4)
def g197:GV:=t3 (m0 l5)
def g198:GV:=t3 (m0 l6)
def g199:GV:=t3 (m0 l7)
def g200:GV:=t3 (m1 l0)
def g201:GV:=t3 (m1 l1)
def g202:GV:=t3 (m1 l2)
def g203:GV:=t3 (m1 l3)
def g204:GV:=t3 (m1 l4)
def g205:GV:=t3 (m1 l5)
def g206:GV:=t3 (m1 l6)
def g207:GV:=t3 (m1 l7)
def g208:GV:=t3 (m2 l0)
def g209:GV:=t3 (m2 l1)
def g210:GV:=t3 (m2 l2)
def g211:GV:=t3 (m2 l3)
def g212:GV:=t3 (m2 l4)
def g213:GV:=t3 (m2 l5)
def g214:GV:=t3 (m2 l6)
def g215:GV:=t3 (m2 l7)
def g216:GV:=t3 (m3 l0)
def g217:GV:=t3 (m3 l1)
def g218:GV:=t3 (m3 l2)
def g219:GV:=t3 (m3 l3)
def g220:GV:=t3 (m3 l4)
def g221:GV:=t3 (m3 l5)
def g222:GV:=t3 (m3 l6)
def g223:GV:=t3 (m3 l7)
def g224:GV:=t3 (m4 l0)
def g225:GV:=t3 (m4 l1)
def g226:GV:=t3 (m4 l2)
def g227:GV:=t3 (m4 l3)
def g228:GV:=t3 (m4 l4)
def g229:GV:=t3 (m4 l5)
def g230:GV:=t3 (m4 l6)
def g231:GV:=t3 (m4 l7)
def g232:GV:=t3 (m5 l0)
def g233:GV:=t3 (m5 l1)
def g234:GV:=t3 (m5 l2)
def g235:GV:=t3 (m5 l3)
def g236:GV:=t3 (m5 l4)
def g237:GV:=t3 (m5 l5)
def g238:GV:=t3 (m5 l6)
def g239:GV:=t3 (m5 l7)
def g240:GV:=t3 (m6 l0)
def g241:GV:=t3 (m6 l1)
def g242:GV:=t3 (m6 l2)
def g243:GV:=t3 (m6 l3)
def g244:GV:=t3 (m6 l4)
def g245:GV:=t3 (m6 l5)
def g246:GV:=t3 (m6 l6)
def g247:GV:=t3 (m6 l7)
def g248:GV:=t3 (m7 l0)
def g249:GV:=t3 (m7 l1)
def g250:GV:=t3 (m7 l2)
def g251:GV:=t3 (m7 l3)
def g252:GV:=t3 (m7 l4)
def g253:GV:=t3 (m7 l5)
def g254:GV:=t3 (m7 l6)
def g255:GV:=t3 (m7 l7)
def s0:SV:=st0 (sm0 sl0)
def s1:SV:=st0 (sm0 sl1)
def s2:SV:=st0 (sm0 sl2)
def s3:SV:=st0 (sm0 sl3)
def s4:SV:=st0 (sm0 sl4)
def s5:SV:=st0 (sm0 sl5)
def s6:SV:=st0 (sm0 sl6)
def s7:SV:=st0 (sm0 sl7)
def s8:SV:=st0 (sm1 sl0)
def s9:SV:=st0 (sm1 sl1)
def s10:SV:=st0 (sm1 sl2)
def s11:SV:=st0 (sm1 sl3)
def s12:SV:=st0 (sm1 sl4)
def s13:SV:=st0 (sm1 sl5)
def s14:SV:=st0 (sm1 sl6)
def s15:SV:=st0 (sm1 sl7)
def s16:SV:=st0 (sm2 sl0)
def s17:SV:=st0 (sm2 sl1)
def s18:SV:=st0 (sm2 sl2)
def s19:SV:=st0 (sm2 sl3)
def s20:SV:=st0 (sm2 sl4)
def s21:SV:=st0 (sm2 sl5)
def s22:SV:=st0 (sm2 sl6)
def s23:SV:=st0 (sm2 sl7)
def s24:SV:=st0 (sm3 sl0)
def s25:SV:=st0 (sm3 sl1)
def s26:SV:=st0 (sm3 sl2)
def s27:SV:=st0 (sm3 sl3)
def s28:SV:=st0 (sm3 sl4)
def s29:SV:=st0 (sm3 sl5)
def s30:SV:=st0 (sm3 sl6)
def s31:SV:=st0 (sm3 sl7)
def s32:SV:=st0 (sm4 sl0)
def s33:SV:=st0 (sm4 sl1)
def s34:SV:=st0 (sm4 sl2)
def s35:SV:=st0 (sm4 sl3)
def s36:SV:=st0 (sm4 sl4)
def s37:SV:=st0 (sm4 sl5)
def s38:SV:=st0 (sm4 sl6)
def s39:SV:=st0 (sm4 sl7)
def s40:SV:=st0 (sm5 sl0)
def s41:SV:=st0 (sm5 sl1)
def s42:SV:=st0 (sm5 sl2)
def s43:SV:=st0 (sm5 sl3)
def s44:SV:=st0 (sm5 sl4)
def s45:SV:=st0 (sm5 sl5)
def s46:SV:=st0 (sm5 sl6)
def s47:SV:=st0 (sm5 sl7)
def s48:SV:=st0 (sm6 sl0)
def s49:SV:=st0 (sm6 sl1)
def s50:SV:=st0 (sm6 sl2)
def s51:SV:=st0 (sm6 sl3)
def s52:SV:=st0 (sm6 sl4)
def s53:SV:=st0 (sm6 sl5)
def s54:SV:=st0 (sm6 sl6)
def s55:SV:=st0 (sm6 sl7)
def s56:SV:=st0 (sm7 sl0)
def s57:SV:=st0 (sm7 sl1)
def s58:SV:=st0 (sm7 sl2)
def s59:SV:=st0 (sm7 sl3)
def s60:SV:=st0 (sm7 sl4)
def s61:SV:=st0 (sm7 sl5)
def s62:SV:=st0 (sm7 sl6)
def s63:SV:=st0 (sm7 sl7)
def s64:SV:=st1 (sm0 sl0)
def s65:SV:=st1 (sm0 sl1)
def s66:SV:=st1 (sm0 sl2)
def s67:SV:=st1 (sm0 sl3)
def s68:SV:=st1 (sm0 sl4)
def s69:SV:=st1 (sm0 sl5)
def s70:SV:=st1 (sm0 sl6)
def s71:SV:=st1 (sm0 sl7)
def s72:SV:=st1 (sm1 sl0)
def s73:SV:=st1 (sm1 sl1)
def s74:SV:=st1 (sm1 sl2)
def s75:SV:=st1 (sm1 sl3)
def s76:SV:=st1 (sm1 sl4)
def s77:SV:=st1 (sm1 sl5)
def s78:SV:=st1 (sm1 sl6)
def s79:SV:=st1 (sm1 sl7)
def s80:SV:=st1 (sm2 sl0)
def s81:SV:=st1 (sm2 sl1)
def s82:SV:=st1 (sm2 sl2)
def s83:SV:=st1 (sm2 sl3)
def s84:SV:=st1 (sm2 sl4)
def s85:SV:=st1 (sm2 sl5)
def s86:SV:=st1 (sm2 sl6)
def s87:SV:=st1 (sm2 sl7)
def s88:SV:=st1 (sm3 sl0)
def s89:SV:=st1 (sm3 sl1)
def s90:SV:=st1 (sm3 sl2)
def s91:SV:=st1 (sm3 sl3)
def s92:SV:=st1 (sm3 sl4)
def s93:SV:=st1 (sm3 sl5)
def s94:SV:=st1 (sm3 sl6)
def s95:SV:=st1 (sm3 sl7)
def s96:SV:=st1 (sm4 sl0)
def s97:SV:=st1 (sm4 sl1)
def s98:SV:=st1 (sm4 sl2)
def s99:SV:=st1 (sm4 sl3)
def s100:SV:=st1 (sm4 sl4)
def s101:SV:=st1 (sm4 sl5)
def s102:SV:=st1 (sm4 sl6)
def s103:SV:=st1 (sm4 sl7)
def s104:SV:=st1 (sm5 sl0)
def s105:SV:=st1 (sm5 sl1)
def s106:SV:=st1 (sm5 sl2)
def s107:SV:=st1 (sm5 sl3)
def s108:SV:=st1 (sm5 sl4)
def s109:SV:=st1 (sm5 sl5)
def s110:SV:=st1 (sm5 sl6)
def s111:SV:=st1 (sm5 sl7)
def s112:SV:=st1 (sm6 sl0)
def s113:SV:=st1 (sm6 sl1)
def s114:SV:=st1 (sm6 sl2)
def s115:SV:=st1 (sm6 sl3)
def s116:SV:=st1 (sm6 sl4)
def s117:SV:=st1 (sm6 sl5)
def s118:SV:=st1 (sm6 sl6)
def s119:SV:=st1 (sm6 sl7)
def s120:SV:=st1 (sm7 sl0)
def s121:SV:=st1 (sm7 sl1)
def s122:SV:=st1 (sm7 sl2)
def s123:SV:=st1 (sm7 sl3)
def s124:SV:=st1 (sm7 sl4)
def s125:SV:=st1 (sm7 sl5)
def s126:SV:=st1 (sm7 sl6)
def s127:SV:=st1 (sm7 sl7)
def s128:SV:=st2 (sm0 sl0)
def s129:SV:=st2 (sm0 sl1)
def s130:SV:=st2 (sm0 sl2)
def s131:SV:=st2 (sm0 sl3)
def s132:SV:=st2 (sm0 sl4)
def s133:SV:=st2 (sm0 sl5)
def s134:SV:=st2 (sm0 sl6)
def s135:SV:=st2 (sm0 sl7)
def s136:SV:=st2 (sm1 sl0)
def s137:SV:=st2 (sm1 sl1)
def s138:SV:=st2 (sm1 sl2)
def s139:SV:=st2 (sm1 sl3)
def s140:SV:=st2 (sm1 sl4)
def s141:SV:=st2 (sm1 sl5)
def s142:SV:=st2 (sm1 sl6)
def s143:SV:=st2 (sm1 sl7)
def s144:SV:=st2 (sm2 sl0)
def s145:SV:=st2 (sm2 sl1)
def s146:SV:=st2 (sm2 sl2)
def s147:SV:=st2 (sm2 sl3)
def s148:SV:=st2 (sm2 sl4)
def s149:SV:=st2 (sm2 sl5)
def s150:SV:=st2 (sm2 sl6)
def s151:SV:=st2 (sm2 sl7)
def s152:SV:=st2 (sm3 sl0)
def s153:SV:=st2 (sm3 sl1)
def s154:SV:=st2 (sm3 sl2)
def s155:SV:=st2 (sm3 sl3)
def s156:SV:=st2 (sm3 sl4)
def s157:SV:=st2 (sm3 sl5)
def s158:SV:=st2 (sm3 sl6)
def s159:SV:=st2 (sm3 sl7)
def s160:SV:=st2 (sm4 sl0)
def s161:SV:=st2 (sm4 sl1)
def s162:SV:=st2 (sm4 sl2)
def s163:SV:=st2 (sm4 sl3)
def s164:SV:=st2 (sm4 sl4)
def s165:SV:=st2 (sm4 sl5)
def s166:SV:=st2 (sm4 sl6)
def s167:SV:=st2 (sm4 sl7)
def s168:SV:=st2 (sm5 sl0)
def s169:SV:=st2 (sm5 sl1)
def s170:SV:=st2 (sm5 sl2)
def s171:SV:=st2 (sm5 sl3)
def s172:SV:=st2 (sm5 sl4)
def s173:SV:=st2 (sm5 sl5)
def s174:SV:=st2 (sm5 sl6)
def s175:SV:=st2 (sm5 sl7)
def s176:SV:=st2 (sm6 sl0)
def s177:SV:=st2 (sm6 sl1)
def s178:SV:=st2 (sm6 sl2)
def s179:SV:=st2 (sm6 sl3)
def s180:SV:=st2 (sm6 sl4)
def s181:SV:=st2 (sm6 sl5)
def s182:SV:=st2 (sm6 sl6)
def s183:SV:=st2 (sm6 sl7)
def s184:SV:=st2 (sm7 sl0)
def s185:SV:=st2 (sm7 sl1)
def s186:SV:=st2 (sm7 sl2)
def s187:SV:=st2 (sm7 sl3)
def s188:SV:=st2 (sm7 sl4)
def s189:SV:=st2 (sm7 sl5)
def s190:SV:=st2 (sm7 sl6)
def s191:SV:=st2 (sm7 sl7)
def s192:SV:=st3 (sm0 sl0)
def s193:SV:=st3 (sm0 sl1)
def s194:SV:=st3 (sm0 sl2)
def s195:SV:=st3 (sm0 sl3)
def s196:SV:=st3 (sm0 sl4)
def s197:SV:=st3 (sm0 sl5)
def s198:SV:=st3 (sm0 sl6)
def s199:SV:=st3 (sm0 sl7)
def s200:SV:=st3 (sm1 sl0)
def s201:SV:=st3 (sm1 sl1)
def s202:SV:=st3 (sm1 sl2)
def s203:SV:=st3 (sm1 sl3)
def s204:SV:=st3 (sm1 sl4)
def s205:SV:=st3 (sm1 sl5)
def s206:SV:=st3 (sm1 sl6)
def s207:SV:=st3 (sm1 sl7)
def s208:SV:=st3 (sm2 sl0)
def s209:SV:=st3 (sm2 sl1)
def s210:SV:=st3 (sm2 sl2)
def s211:SV:=st3 (sm2 sl3)
def s212:SV:=st3 (sm2 sl4)
def s213:SV:=st3 (sm2 sl5)
def s214:SV:=st3 (sm2 sl6)
def s215:SV:=st3 (sm2 sl7)
def s216:SV:=st3 (sm3 sl0)
def s217:SV:=st3 (sm3 sl1)
def s218:SV:=st3 (sm3 sl2)
def s219:SV:=st3 (sm3 sl3)
def s220:SV:=st3 (sm3 sl4)
def s221:SV:=st3 (sm3 sl5)
def s222:SV:=st3 (sm3 sl6)
def s223:SV:=st3 (sm3 sl7)
def s224:SV:=st3 (sm4 sl0)
def s225:SV:=st3 (sm4 sl1)
def s226:SV:=st3 (sm4 sl2)
def s227:SV:=st3 (sm4 sl3)
def s228:SV:=st3 (sm4 sl4)
def s229:SV:=st3 (sm4 sl5)
def s230:SV:=st3 (sm4 sl6)
def s231:SV:=st3 (sm4 sl7)
def s232:SV:=st3 (sm5 sl0)
def s233:SV:=st3 (sm5 sl1)
def s234:SV:=st3 (sm5 sl2)
def s235:SV:=st3 (sm5 sl3)
def s236:SV:=st3 (sm5 sl4)
def s237:SV:=st3 (sm5 sl5)
def s238:SV:=st3 (sm5 sl6)
def s239:SV:=st3 (sm5 sl7)
def s240:SV:=st3 (sm6 sl0)
def s241:SV:=st3 (sm6 sl1)
def s242:SV:=st3 (sm6 sl2)
def s243:SV:=st3 (sm6 sl3)
def s244:SV:=st3 (sm6 sl4)
def s245:SV:=st3 (sm6 sl5)
def s246:SV:=st3 (sm6 sl6)
def s247:SV:=st3 (sm6 sl7)
def s248:SV:=st3 (sm7 sl0)
def s249:SV:=st3 (sm7 sl1)
def s250:SV:=st3 (sm7 sl2)
def s251:SV:=st3 (sm7 sl3)
def s252:SV:=st3 (sm7 sl4)
def s253:SV:=st3 (sm7 sl5)
def s254:SV:=st3 (sm7 sl6)
def s255:SV:=st3 (sm7 sl7)
def gTree:N8 (N8 (N8 GV)):=⟨⟨⟨g0,g1,g2,g3,g4,g5,g6,g7⟩,⟨g8,g9,g10,g11,g12,g13,g14,g15⟩,⟨g16,g17,g18,g19,g20,g21,g22,g23⟩,⟨g24,g25,g26,g27,g28,g29,g30,g31⟩,⟨g32,g33,g34,g35,g36,g37,g38,g39⟩,⟨g40,g41,g42,g43,g44,g45,g46,g47⟩,⟨g48,g49,g50,g51,g52,g53,g54,g55⟩,⟨g56,g57,g58,g59,g60,g61,g62,g63⟩⟩,⟨⟨g64,g65,g66,g67,g68,g69,g70,g71⟩,⟨g72,g73,g74,g75,g76,g77,g78,g79⟩,⟨g80,g81,g82,g83,g84,g85,g86,g87⟩,⟨g88,g89,g90,g91,g92,g93,g94,g95⟩,⟨g96,g97,g98,g99,g100,g101,g102,g103⟩,⟨g104,g105,g106,g107,g108,g109,g110,g111⟩,⟨g112,g113,g114,g115,g116,g117,g118,g119⟩,⟨g120,g121,g122,g123,g124,g125,g126,g127⟩⟩,⟨⟨g128,g129,g130,g131,g132,g133,g134,g135⟩,⟨g136,g137,g138,g139,g140,g141,g142,g143⟩,⟨g144,g145,g146,g147,g148,g149,g150,g151⟩,⟨g152,g153,g154,g155,g156,g157,g158,g159⟩,⟨g160,g161,g162,g163,g164,g165,g166,g167⟩,⟨g168,g169,g170,g171,g172,g173,g174,g175⟩,⟨g176,g177,g178,g179,g180,g181,g182,g183⟩,⟨g184,g185,g186,g187,g188,g189,g190,g191⟩⟩,⟨⟨g192,g193,g194,g195,g196,g197,g198,g199⟩,⟨g200,g201,g202,g203,g204,g205,g206,g207⟩,⟨g208,g209,g210,g211,g212,g213,g214,g215⟩,⟨g216,g217,g218,g219,g220,g221,g222,g223⟩,⟨g224,g225,g226,g227,g228,g229,g230,g231⟩,⟨g232,g233,g234,g235,g236,g237,g238,g239⟩,⟨g240,g241,g242,g243,g244,g245,g246,g247⟩,⟨g248,g249,g250,g251,g252,g253,g254,g255⟩⟩,⟨⟨g255,g255,g255,g255,g255,g255,g255,g255⟩,⟨g255,g255,g255,g255,g255,g255,g255,g255⟩,⟨g255,g255,g255,g255,g255,g255,g255,g255⟩,⟨g255,g255,g255,g255,g255,g255,g255,g255⟩,⟨g255,g255,g255,g255,g255,g255,g255,g255⟩,⟨g255,g255,g255,g255,g255,g255,g255,g255⟩,⟨g255,g255,g255,g255,g255,g255,g255,g255⟩,⟨g255,g255,g255,g255,g255,g255,g255,g255⟩⟩,⟨⟨g255,g255,g255,g255,g255,g255,g255,g255⟩,⟨g255,g255,g255,g255,g255,g255,g255,g255⟩,⟨g255,g255,g255,g255,g255,g255,g255,g255⟩,⟨g255,g255,g255,g255,g255,g255,g255,g255⟩,⟨g255,g255,g255,g255,g255,g255,g255,g255⟩,⟨g255,g255,g255,g255,g255,g255,g255,g255⟩,⟨g255,g255,g255,g255,g255,g255,g255,g255⟩,⟨g255,g255,g255,g255,g255,g255,g255,g255⟩⟩,⟨⟨g255,g255,g255,g255,g255,g255,g255,g255⟩,⟨g255,g255,g255,g255,g255,g255,g255,g255⟩,⟨g255,g255,g255,g255,g255,g255,g255,g255⟩,⟨g255,g255,g255,g255,g255,g255,g255,g255⟩,⟨g255,g255,g255,g255,g255,g255,g255,g255⟩,⟨g255,g255,g255,g255,g255,g255,g255,g255⟩,⟨g255,g255,g255,g255,g255,g255,g255,g255⟩,⟨g255,g255,g255,g255,g255,g255,g255,g255⟩⟩,⟨⟨g255,g255,g255,g255,g255,g255,g255,g255⟩,⟨g255,g255,g255,g255,g255,g255,g255,g255⟩,⟨g255,g255,g255,g255,g255,g255,g255,g255⟩,⟨g255,g255,g255,g255,g255,g255,g255,g255⟩,⟨g255,g255,g255,g255,g255,g255,g255,g255⟩,⟨g255,g255,g255,g255,g255,g255,g255,g255⟩,⟨g255,g255,g255,g255,g255,g255,g255,g255⟩,⟨g255,g255,g255,g255,g255,g255,g255,g255⟩⟩⟩
def sTree:N8 (N8 (N8 SV)):=⟨⟨⟨s0,s1,s2,s3,s4,s5,s6,s7⟩,⟨s8,s9,s10,s11,s12,s13,s14,s15⟩,⟨s16,s17,s18,s19,s20,s21,s22,s23⟩,⟨s24,s25,s26,s27,s28,s29,s30,s31⟩,⟨s32,s33,s34,s35,s36,s37,s38,s39⟩,⟨s40,s41,s42,s43,s44,s45,s46,s47⟩,⟨s48,s49,s50,s51,s52,s53,s54,s55⟩,⟨s56,s57,s58,s59,s60,s61,s62,s63⟩⟩,⟨⟨s64,s65,s66,s67,s68,s69,s70,s71⟩,⟨s72,s73,s74,s75,s76,s77,s78,s79⟩,⟨s80,s81,s82,s83,s84,s85,s86,s87⟩,⟨s88,s89,s90,s91,s92,s93,s94,s95⟩,⟨s96,s97,s98,s99,s100,s101,s102,s103⟩,⟨s104,s105,s106,s107,s108,s109,s110,s111⟩,⟨s112,s113,s114,s115,s116,s117,s118,s119⟩,⟨s120,s121,s122,s123,s124,s125,s126,s127⟩⟩,⟨⟨s128,s129,s130,s131,s132,s133,s134,s135⟩,⟨s136,s137,s138,s139,s140,s141,s142,s143⟩,⟨s144,s145,s146,s147,s148,s149,s150,s151⟩,⟨s152,s153,s154,s155,s156,s157,s158,s159⟩,⟨s160,s161,s162,s163,s164,s165,s166,s167⟩,⟨s168,s169,s170,s171,s172,s173,s174,s175⟩,⟨s176,s177,s178,s179,s180,s181,s182,s183⟩,⟨s184,s185,s186,s187,s188,s189,s190,s191⟩⟩,⟨⟨s192,s193,s194,s195,s196,s197,s198,s199⟩,⟨s200,s201,s202,s203,s204,s205,s206,s207⟩,⟨s208,s209,s210,s211,s212,s213,s214,s215⟩,⟨s216,s217,s218,s219,s220,s221,s222,s223⟩,⟨s224,s225,s226,s227,s228,s229,s230,s231⟩,⟨s232,s233,s234,s235,s236,s237,s238,s239⟩,⟨s240,s241,s242,s243,s244,s245,s246,s247⟩,⟨s248,s249,s250,s251,s252,s253,s254,s255⟩⟩,⟨⟨s255,s255,s255,s255,s255,s255,s255,s255⟩,⟨s255,s255,s255,s255,s255,s255,s255,s255⟩,⟨s255,s255,s255,s255,s255,s255,s255,s255⟩,⟨s255,s255,s255,s255,s255,s255,s255,s255⟩,⟨s255,s255,s255,s255,s255,s255,s255,s255⟩,⟨s255,s255,s255,s255,s255,s255,s255,s255⟩,⟨s255,s255,s255,s255,s255,s255,s255,s255⟩,⟨s255,s255,s255,s255,s255,s255,s255,s255⟩⟩,⟨⟨s255,s255,s255,s255,s255,s255,s255,s255⟩,⟨s255,s255,s255,s255,s255,s255,s255,s255⟩,⟨s255,s255,s255,s255,s255,s255,s255,s255⟩,⟨s255,s255,s255,s255,s255,s255,s255,s255⟩,⟨s255,s255,s255,s255,s255,s255,s255,s255⟩,⟨s255,s255,s255,s255,s255,s255,s255,s255⟩,⟨s255,s255,s255,s255,s255,s255,s255,s255⟩,⟨s255,s255,s255,s255,s255,s255,s255,s255⟩⟩,⟨⟨s255,s255,s255,s255,s255,s255,s255,s255⟩,⟨s255,s255,s255,s255,s255,s255,s255,s255⟩,⟨s255,s255,s255,s255,s255,s255,s255,s255⟩,⟨s255,s255,s255,s255,s255,s255,s255,s255⟩,⟨s255,s255,s255,s255,s255,s255,s255,s255⟩,⟨s255,s255,s255,s255,s255,s255,s255,s255⟩,⟨s255,s255,s255,s255,s255,s255,s255,s255⟩,⟨s255,s255,s255,s255,s255,s255,s255,s255⟩⟩,⟨⟨s255,s255,s255,s255,s255,s255,s255,s255⟩,⟨s255,s255,s255,s255,s255,s255,s255,s255⟩,⟨s255,s255,s255,s255,s255,s255,s255,s255⟩,⟨s255,s255,s255,s255,s255,s255,s255,s255⟩,⟨s255,s255,s255,s255,s255,s255,s255,s255⟩,⟨s255,s255,s255,s255,s255,s255,s255,s255⟩,⟨s255,s255,s255,s255,s255,s255,s255,s255⟩,⟨s255,s255,s255,s255,s255,s255,s255,s255⟩⟩⟩
def N8.at{α:Type}(x:N8 α)(i:Nat):α:=match i with | 0=>x.a0 | 1=>x.a1 | 2=>x.a2 | 3=>x.a3 | 4=>x.a4 | 5=>x.a5 | 6=>x.a6 | _=>x.a7
def gN(i:Nat):GV:=((gTree.at (i / 64)).at (i / 8 % 8)).at (i % 8)
def sN(i:Nat):SV:=((sTree.at (i / 64)).at (i / 8 % 8)).at (i % 8)
theorem gN_eq(i:Nat)(h:i<256):gN i=gt i:=match i,h with
 | 0,_=>rfl
 | 1,_=>rfl
 | 2,_=>rfl
 | 3,_=>rfl
 | 4,_=>rfl
 | 5,_=>rfl
 | 6,_=>rfl
 | 7,_=>rfl
 | 8,_=>rfl
 | 9,_=>rfl
 | 10,_=>rfl
 | 11,_=>rfl
 | 12,_=>rfl
 | 13,_=>rfl
 | 14,_=>rfl
 | 15,_=>rfl
 | 16,_=>rfl
 | 17,_=>rfl
 | 18,_=>rfl
 | 19,_=>rfl
 | 20,_=>rfl
 | 21,_=>rfl
 | 22,_=>rfl
 | 23,_=>rfl
 | 24,_=>rfl
 | 25,_=>rfl
 | 26,_=>rfl
 | 27,_=>rfl
 | 28,_=>rfl
 | 29,_=>rfl
 | 30,_=>rfl
 | 31,_=>rfl
 | 32,_=>rfl
 | 33,_=>rfl
 | 34,_=>rfl
 | 35,_=>rfl
 | 36,_=>rfl
 | 37,_=>rfl
 | 38,_=>rfl
 | 39,_=>rfl
 | 40,_=>rfl
 | 41,_=>rfl
 | 42,_=>rfl
 | 43,_=>rfl
 | 44,_=>rfl
 | 45,_=>rfl
 | 46,_=>rfl
 | 47,_=>rfl
 | 48,_=>rfl
 | 49,_=>rfl
 | 50,_=>rfl
 | 51,_=>rfl
 | 52,_=>rfl
 | 53,_=>rfl
 | 54,_=>rfl
 | 55,_=>rfl
 | 56,_=>rfl
 | 57,_=>rfl
 | 58,_=>rfl
 | 59,_=>rfl
 | 60,_=>rfl
 | 61,_=>rfl
 | 62,_=>rfl
 | 63,_=>rfl
 | 64,_=>rfl
 | 65,_=>rfl
 | 66,_=>rfl
 | 67,_=>rfl
 | 68,_=>rfl
 | 69,_=>rfl
 | 70,_=>rfl
 | 71,_=>rfl
 | 72,_=>rfl
 | 73,_=>rfl
 | 74,_=>rfl
 | 75,_=>rfl
 | 76,_=>rfl
 | 77,_=>rfl
 | 78,_=>rfl
 | 79,_=>rfl
 | 80,_=>rfl
 | 81,_=>rfl
 | 82,_=>rfl
 | 83,_=>rfl
 | 84,_=>rfl
 | 85,_=>rfl
 | 86,_=>rfl
 | 87,_=>rfl
 | 88,_=>rfl
 | 89,_=>rfl
 | 90,_=>rfl
 | 91,_=>rfl
 | 92,_=>rfl
 | 93,_=>rfl
 | 94,_=>rfl
 | 95,_=>rfl
 | 96,_=>rfl
 | 97,_=>rfl
 | 98,_=>rfl
 | 99,_=>rfl
 | 100,_=>rfl
 | 101,_=>rfl
 | 102,_=>rfl
 | 103,_=>rfl
 | 104,_=>rfl
 | 105,_=>rfl
 | 106,_=>rfl
 | 107,_=>rfl
 | 108,_=>rfl
 | 109,_=>rfl
 | 110,_=>rfl
 | 111,_=>rfl
 | 112,_=>rfl
 | 113,_=>rfl
 | 114,_=>rfl
 | 115,_=>rfl
 | 116,_=>rfl
 | 117,_=>rfl
 | 118,_=>rfl
 | 119,_=>rfl
 | 120,_=>rfl
 | 121,_=>rfl
 | 122,_=>rfl
 | 123,_=>rfl
 | 124,_=>rfl
 | 125,_=>rfl
 | 126,_=>rfl
 | 127,_=>rfl
 | 128,_=>rfl
 | 129,_=>rfl
 | 130,_=>rfl
 | 131,_=>rfl
 | 132,_=>rfl
 | 133,_=>rfl
 | 134,_=>rfl
 | 135,_=>rfl
 | 136,_=>rfl
 | 137,_=>rfl
 | 138,_=>rfl
 | 139,_=>rfl
 | 140,_=>rfl
 | 141,_=>rfl
 | 142,_=>rfl
 | 143,_=>rfl
 | 144,_=>rfl
 | 145,_=>rfl
 | 146,_=>rfl
 | 147,_=>rfl
 | 148,_=>rfl
 | 149,_=>rfl
 | 150,_=>rfl
 | 151,_=>rfl
 | 152,_=>rfl
 | 153,_=>rfl
 | 154,_=>rfl
 | 155,_=>rfl
 | 156,_=>rfl
 | 157,_=>rfl
 | 158,_=>rfl
 | 159,_=>rfl
 | 160,_=>rfl
 | 161,_=>rfl
 | 162,_=>rfl
 | 163,_=>rfl
 | 164,_=>rfl
 | 165,_=>rfl
 | 166,_=>rfl
 | 167,_=>rfl
 | 168,_=>rfl
 | 169,_=>rfl
 | 170,_=>rfl
 | 171,_=>rfl
 | 172,_=>rfl
 | 173,_=>rfl
 | 174,_=>rfl
 | 175,_=>rfl
 | 176,_=>rfl
 | 177,_=>rfl
 | 178,_=>rfl
 | 179,_=>rfl
 | 180,_=>rfl
 | 181,_=>rfl
 | 182,_=>rfl
 | 183,_=>rfl
 | 184,_=>rfl
 | 185,_=>rfl
 | 186,_=>rfl
 | 187,_=>rfl
 | 188,_=>rfl
 | 189,_=>rfl
 | 190,_=>rfl
 | 191,_=>rfl
 | 192,_=>rfl
 | 193,_=>rfl
 | 194,_=>rfl
 | 195,_=>rfl
 | 196,_=>rfl
 | 197,_=>rfl
 | 198,_=>rfl
 | 199,_=>rfl
 | 200,_=>rfl
 | 201,_=>rfl
 | 202,_=>rfl
 | 203,_=>rfl
 | 204,_=>rfl
 | 205,_=>rfl
 | 206,_=>rfl
 | 207,_=>rfl
 | 208,_=>rfl
 | 209,_=>rfl
 | 210,_=>rfl
 | 211,_=>rfl
 | 212,_=>rfl
 | 213,_=>rfl
 | 214,_=>rfl
 | 215,_=>rfl
 | 216,_=>rfl
 | 217,_=>rfl
 | 218,_=>rfl
 | 219,_=>rfl
 | 220,_=>rfl
 | 221,_=>rfl
 | 222,_=>rfl
 | 223,_=>rfl
 | 224,_=>rfl
 | 225,_=>rfl
 | 226,_=>rfl
 | 227,_=>rfl
 | 228,_=>rfl
 | 229,_=>rfl
 | 230,_=>rfl
 | 231,_=>rfl
 | 232,_=>rfl
 | 233,_=>rfl
 | 234,_=>rfl
 | 235,_=>rfl
 | 236,_=>rfl
 | 237,_=>rfl
 | 238,_=>rfl
 | 239,_=>rfl
 | 240,_=>rfl
 | 241,_=>rfl
 | 242,_=>rfl
 | 243,_=>rfl
 | 244,_=>rfl
 | 245,_=>rfl
 | 246,_=>rfl
 | 247,_=>rfl
 | 248,_=>rfl
 | 249,_=>rfl
 | 250,_=>rfl
 | 251,_=>rfl
 | 252,_=>rfl
 | 253,_=>rfl
 | 254,_=>rfl
 | 255,_=>rfl
 | n+256,h=>absurd h om
theorem sN_eq(i:Nat)(h:i<256):sN i=st i:=match i,h with
 | 0,_=>rfl
 | 1,_=>rfl
 | 2,_=>rfl
 | 3,_=>rfl
 | 4,_=>rfl
 | 5,_=>rfl
 | 6,_=>rfl
 | 7,_=>rfl
 | 8,_=>rfl
 | 9,_=>rfl
 | 10,_=>rfl
 | 11,_=>rfl
 | 12,_=>rfl
 | 13,_=>rfl
 | 14,_=>rfl
 | 15,_=>rfl
 | 16,_=>rfl
 | 17,_=>rfl
 | 18,_=>rfl
 | 19,_=>rfl
 | 20,_=>rfl
 | 21,_=>rfl
 | 22,_=>rfl
 | 23,_=>rfl
 | 24,_=>rfl
 | 25,_=>rfl
 | 26,_=>rfl
 | 27,_=>rfl
 | 28,_=>rfl
 | 29,_=>rfl
 | 30,_=>rfl
 | 31,_=>rfl
 | 32,_=>rfl
 | 33,_=>rfl
 | 34,_=>rfl
 | 35,_=>rfl
 | 36,_=>rfl
 | 37,_=>rfl
 | 38,_=>rfl
 | 39,_=>rfl
 | 40,_=>rfl
 | 41,_=>rfl
 | 42,_=>rfl
 | 43,_=>rfl
 | 44,_=>rfl
 | 45,_=>rfl
 | 46,_=>rfl
 | 47,_=>rfl
 | 48,_=>rfl
 | 49,_=>rfl
 | 50,_=>rfl
 | 51,_=>rfl
 | 52,_=>rfl
 | 53,_=>rfl
 | 54,_=>rfl
 | 55,_=>rfl
 | 56,_=>rfl
 | 57,_=>rfl
 | 58,_=>rfl
 | 59,_=>rfl
 | 60,_=>rfl
 | 61,_=>rfl
 | 62,_=>rfl
 | 63,_=>rfl
 | 64,_=>rfl
 | 65,_=>rfl
 | 66,_=>rfl
 | 67,_=>rfl
 | 68,_=>rfl
 | 69,_=>rfl
 | 70,_=>rfl
 | 71,_=>rfl
 | 72,_=>rfl
 | 73,_=>rfl
 | 74,_=>rfl
 | 75,_=>rfl
 | 76,_=>rfl
 | 77,_=>rfl
 | 78,_=>rfl
 | 79,_=>rfl
 | 80,_=>rfl
 | 81,_=>rfl
 | 82,_=>rfl
 | 83,_=>rfl
 | 84,_=>rfl
 | 85,_=>rfl
 | 86,_=>rfl
 | 87,_=>rfl
 | 88,_=>rfl
 | 89,_=>rfl
 | 90,_=>rfl
 | 91,_=>rfl
 | 92,_=>rfl
 | 93,_=>rfl
 | 94,_=>rfl
 | 95,_=>rfl
 | 96,_=>rfl
 | 97,_=>rfl
 | 98,_=>rfl
 | 99,_=>rfl
 | 100,_=>rfl
 | 101,_=>rfl
 | 102,_=>rfl
 | 103,_=>rfl
 | 104,_=>rfl
 | 105,_=>rfl
 | 106,_=>rfl
 | 107,_=>rfl
 | 108,_=>rfl
 | 109,_=>rfl
 | 110,_=>rfl
 | 111,_=>rfl
 | 112,_=>rfl
 | 113,_=>rfl
 | 114,_=>rfl
 | 115,_=>rfl
 | 116,_=>rfl
 | 117,_=>rfl
 | 118,_=>rfl
 | 119,_=>rfl
 | 120,_=>rfl
 | 121,_=>rfl
 | 122,_=>rfl
 | 123,_=>rfl
 | 124,_=>rfl
 | 125,_=>rfl
 | 126,_=>rfl
 | 127,_=>rfl
 | 128,_=>rfl
 | 129,_=>rfl
 | 130,_=>rfl
 | 131,_=>rfl
 | 132,_=>rfl
 | 133,_=>rfl
 | 134,_=>rfl
 | 135,_=>rfl
 | 136,_=>rfl
 | 137,_=>rfl
 | 138,_=>rfl
 | 139,_=>rfl
 | 140,_=>rfl
 | 141,_=>rfl
 | 142,_=>rfl
 | 143,_=>rfl
 | 144,_=>rfl
 | 145,_=>rfl
 | 146,_=>rfl
 | 147,_=>rfl
 | 148,_=>rfl
 | 149,_=>rfl
 | 150,_=>rfl
 | 151,_=>rfl
 | 152,_=>rfl
 | 153,_=>rfl
 | 154,_=>rfl
 | 155,_=>rfl
 | 156,_=>rfl
 | 157,_=>rfl
 | 158,_=>rfl
 | 159,_=>rfl
 | 160,_=>rfl
 | 161,_=>rfl
 | 162,_=>rfl
 | 163,_=>rfl
 | 164,_=>rfl
 | 165,_=>rfl
 | 166,_=>rfl
 | 167,_=>rfl
 | 168,_=>rfl
 | 169,_=>rfl
 | 170,_=>rfl
 | 171,_=>rfl
 | 172,_=>rfl
 | 173,_=>rfl
 | 174,_=>rfl
 | 175,_=>rfl
 | 176,_=>rfl
 | 177,_=>rfl
 | 178,_=>rfl
 | 179,_=>rfl
 | 180,_=>rfl
 | 181,_=>rfl
 | 182,_=>rfl
 | 183,_=>rfl
 | 184,_=>rfl
 | 185,_=>rfl
 | 186,_=>rfl
 | 187,_=>rfl
 | 188,_=>rfl
 | 189,_=>rfl
 | 190,_=>rfl
 | 191,_=>rfl
 | 192,_=>rfl
 | 193,_=>rfl
 | 194,_=>rfl
 | 195,_=>rfl
 | 196,_=>rfl
 | 197,_=>rfl
 | 198,_=>rfl
 | 199,_=>rfl
 | 200,_=>rfl
 | 201,_=>rfl
 | 202,_=>rfl
 | 203,_=>rfl
 | 204,_=>rfl
 | 205,_=>rfl
 | 206,_=>rfl
 | 207,_=>rfl
 | 208,_=>rfl
 | 209,_=>rfl
 | 210,_=>rfl
 | 211,_=>rfl
 | 212,_=>rfl
 | 213,_=>rfl
 | 214,_=>rfl
 | 215,_=>rfl
 | 216,_=>rfl
 | 217,_=>rfl
 | 218,_=>rfl
 | 219,_=>rfl
 | 220,_=>rfl
 | 221,_=>rfl
 | 222,_=>rfl
 | 223,_=>rfl
 | 224,_=>rfl
 | 225,_=>rfl
 | 226,_=>rfl
 | 227,_=>rfl
 | 228,_=>rfl
 | 229,_=>rfl
 | 230,_=>rfl
 | 231,_=>rfl
 | 232,_=>rfl
 | 233,_=>rfl
 | 234,_=>rfl
 | 235,_=>rfl
 | 236,_=>rfl
 | 237,_=>rfl
 | 238,_=>rfl
 | 239,_=>rfl
 | 240,_=>rfl
 | 241,_=>rfl
 | 242,_=>rfl
 | 243,_=>rfl
 | 244,_=>rfl
 | 245,_=>rfl
 | 246,_=>rfl
 | 247,_=>rfl
 | 248,_=>rfl
 | 249,_=>rfl
 | 250,_=>rfl
 | 251,_=>rfl
 | 252,_=>rfl
 | 253,_=>rfl
 | 254,_=>rfl
 | 255,_=>rfl
 | n+256,h=>absurd h om
def u8:F8:=⟨undefA,undefA,undefA,undefA,undefA,undefA,undefA,undefA⟩
def u64:F64:=⟨u8,u8,u8,u8,u8,u8,u8,u8⟩
def u0:Fr:=⟨u64,u64,u64,u64⟩
theorem u0_get(i:Nat):u0.get i=undefA:=by
 have h:∀n,u8.at n=undefA:=fun i=>match i with | 0=>rfl | 1=>rfl | 2=>rfl | 3=>rfl | 4=>rfl | 5=>rfl | 6=>rfl | _+7=>rfl
 have h2:∀n,u64.at n=u8:=fun i=>match i with | 0=>rfl | 1=>rfl | 2=>rfl | 3=>rfl | 4=>rfl | 5=>rfl | 6=>rfl | _+7=>rfl
 have h3:∀n,u0.at n=u64:=fun i=>match i with | 0=>rfl | 1=>rfl | 2=>rfl | _+3=>rfl
 simp only[Fr.get,h,h2,h3]
end
end Go.Abs.F
namespace Go.Abs.F
open Go.Abs
noncomputable section
def ifb(b:Bool)(x y:R):R:=@Bool.rec (fun _=>R) y x b
theorem ifb_eq(b:Bool)(x y:R):ifb b x y=bif b then x else y:=by cases b <;> rfl
def fN(m:Nat)(k:Nat→R):R:=@Nat.rec (fun _=>R) (k (nat_lit 0)) (fun n _=>k (Nat.succ n)) m
theorem fN_eq(m:Nat)(k:Nat→R):fN m k=k m:=by cases m <;> rfl
def fI(n:Int)(k:Int→R):R:=@Int.rec (fun _=>R) (fun m=>fN m fun m=>k (.ofNat m)) (fun m=>fN m fun m=>k (.negSucc m)) n
theorem fI_eq(n:Int)(k:Int→R):fI n k=k n:=by cases n <;> simp only[fI,fN_eq]
def fB(b:Bool)(k:Bool→R):R:=@Bool.rec (fun _=>R) (k false) (k true) b
theorem fB_eq(b:Bool)(k:Bool→R):fB b k=k b:=by cases b <;> rfl
def fBy:List UInt8→(List UInt8→R)→R:=@List.rec UInt8 (fun _=>(List UInt8→R)→R) (fun k=>k []) (fun b _ ih k=>ih fun l=>k (b::l))
theorem fBy_eq:∀(l:List UInt8) (k:List UInt8→R),fBy l k=k l
 | [],_=>rfl
 | b::l,k=>fBy_eq l fun l=>k (b::l)
def fA(a:Ad)(k:Ad→R):R:=@Ad.rec (fun _=>R) (fun b l o=>fN b fun b=>fN l fun l=>fN o fun o=>k ⟨b,l,o⟩) a
theorem fA_eq(a:Ad)(k:Ad→R):fA a k=k a:=by cases a; simp only[fA,fN_eq]
def fAO(a:Option Ad)(k:Option Ad→R):R:=@Option.rec Ad (fun _=>R) (k none) (fun a=>fA a fun a=>k (some a)) a
theorem fAO_eq(a:Option Ad)(k:Option Ad→R):fAO a k=k a:=by cases a <;> simp only[fAO,fA_eq]
def fNO(a:Option Nat)(k:Option Nat→R):R:=@Option.rec Nat (fun _=>R) (k none) (fun a=>fN a fun a=>k (some a)) a
theorem fNO_eq(a:Option Nat)(k:Option Nat→R):fNO a k=k a:=by cases a <;> simp only[fNO,fN_eq]
def fRm(r:Room)(k:Room→R):R:=@Room.rec (fun _=>R) (fun c=>fN c fun c=>k (.known c)) (fun c=>fN c fun c=>k (.open_ c)) r
theorem fRm_eq(r:Room)(k:Room→R):fRm r k=k r:=by cases r <;> simp only[fRm,fN_eq]
def fV:AVal→(AVal→R)→R:=@AVal.rec (fun _=>(AVal→R)→R) (fun _=>(List AVal→R)→R)
 (fun b k=>fB b fun b=>k (.bool b)) (fun kd n k=>fI n fun n=>k (.int kd n)) (fun s k=>fBy s fun s=>k (.str s)) (fun a k=>fAO a fun a=>k (.ptr a))
 (fun a n r k=>fAO a fun a=>fN n fun n=>fRm r fun r=>k (.slice a n r)) (fun a k=>fNO a fun a=>k (.map a)) (fun fn _ _ ia ib k=>ia fun a=>ib fun b=>k (.func fn a b))
 (fun k=>k .nilFunc) (fun t _ ih k=>ih fun v=>k (.iface t v)) (fun k=>k .nilIface) (fun _ ih k=>ih fun l=>k (.agg l)) (fun _ ih k=>ih fun l=>k (.tuple l)) (fun v k=>k (.val v))
 (fun k=>k []) (fun _ _ ix il k=>ix fun x=>il fun l=>k (x::l))
theorem fV_eq(x:AVal):∀k,fV x k=k x:=by
 refine @AVal.rec (fun x=>∀k,fV x k=k x) (fun l=>∀k,@AVal.rec_1 (fun _=>(AVal→R)→R) (fun _=>(List AVal→R)→R)
  (fun b k=>fB b fun b=>k (.bool b)) (fun kd n k=>fI n fun n=>k (.int kd n)) (fun s k=>fBy s fun s=>k (.str s)) (fun a k=>fAO a fun a=>k (.ptr a))
  (fun a n r k=>fAO a fun a=>fN n fun n=>fRm r fun r=>k (.slice a n r)) (fun a k=>fNO a fun a=>k (.map a)) (fun fn _ _ ia ib k=>ia fun a=>ib fun b=>k (.func fn a b))
  (fun k=>k .nilFunc) (fun t _ ih k=>ih fun v=>k (.iface t v)) (fun k=>k .nilIface) (fun _ ih k=>ih fun l=>k (.agg l)) (fun _ ih k=>ih fun l=>k (.tuple l)) (fun v k=>k (.val v))
  (fun k=>k []) (fun _ _ ix il k=>ix fun x=>il fun l=>k (x::l)) l k=k l) ?_ ?_ ?_ ?_ ?_ ?_ ?_ ?_ ?_ ?_ ?_ ?_ ?_ ?_ ?_ x
 ·intro b k; exact fB_eq b fun b=>k (.bool b)
 ·intro kd n k; exact fI_eq n fun n=>k (.int kd n)
 ·intro s k; exact fBy_eq s fun s=>k (.str s)
 ·intro a k; exact fAO_eq a fun a=>k (.ptr a)
 ·intro a n r k
  show (fAO a fun a=>fN n fun n=>fRm r fun r=>k (.slice a n r))=_
  simp only[fAO_eq,fN_eq,fRm_eq]
 ·intro a k; exact fNO_eq a fun a=>k (.map a)
 ·intro fn a b ha hb k; exact (ha _).trans (hb _)
 ·intro k; rfl
 ·intro t v ih k; exact ih _
 ·intro k; rfl
 ·intro l ih k; exact ih _
 ·intro l ih k; exact ih _
 ·intro v k; rfl
 ·intro k; rfl
 ·intro v l hv hl k; exact (hv _).trans (hl _)
def vInt(x:AVal)(k:IntKind→Int→R):R:=@AVal.rec (fun _=>R) (fun _=>Unit) (fun _=>.no) (k) (fun _=>.no) (fun _=>.no) (fun _ _ _=>.no) (fun _=>.no) (fun _ _ _ _ _=>.no) .no (fun _ _ _=>.no) .no (fun _ _=>.no) (fun _ _=>.no) (fun _=>.no) () (fun _ _ _ _=>()) x
def vIS(x:AVal)(k:IntKind→Int→R)(s:List UInt8→R):R:=@AVal.rec (fun _=>R) (fun _=>Unit) (fun _=>.no) (k) (s) (fun _=>.no) (fun _ _ _=>.no) (fun _=>.no) (fun _ _ _ _ _=>.no) .no (fun _ _ _=>.no) .no (fun _ _=>.no) (fun _ _=>.no) (fun _=>.no) () (fun _ _ _ _=>()) x
def vStr(x:AVal)(k:List UInt8→R):R:=@AVal.rec (fun _=>R) (fun _=>Unit) (fun _=>.no) (fun _ _=>.no) (k) (fun _=>.no) (fun _ _ _=>.no) (fun _=>.no) (fun _ _ _ _ _=>.no) .no (fun _ _ _=>.no) .no (fun _ _=>.no) (fun _ _=>.no) (fun _=>.no) () (fun _ _ _ _=>()) x
def vBool(x:AVal)(k:Bool→R):R:=@AVal.rec (fun _=>R) (fun _=>Unit) (k) (fun _ _=>.no) (fun _=>.no) (fun _=>.no) (fun _ _ _=>.no) (fun _=>.no) (fun _ _ _ _ _=>.no) .no (fun _ _ _=>.no) .no (fun _ _=>.no) (fun _ _=>.no) (fun _=>.no) () (fun _ _ _ _=>()) x
def vPtr(x:AVal)(k:Ad→R):R:=@AVal.rec (fun _=>R) (fun _=>Unit) (fun _=>.no) (fun _ _=>.no) (fun _=>.no) (fun a=>@Option.rec Ad (fun _=>R) .no k a) (fun _ _ _=>.no) (fun _=>.no) (fun _ _ _ _ _=>.no) .no (fun _ _ _=>.no) .no (fun _ _=>.no) (fun _ _=>.no) (fun _=>.no) () (fun _ _ _ _=>()) x
def vSl(x:AVal)(k:Option Ad→Nat→Room→R):R:=@AVal.rec (fun _=>R) (fun _=>Unit) (fun _=>.no) (fun _ _=>.no) (fun _=>.no) (fun _=>.no) (k) (fun _=>.no) (fun _ _ _ _ _=>.no) .no (fun _ _ _=>.no) .no (fun _ _=>.no) (fun _ _=>.no) (fun _=>.no) () (fun _ _ _ _=>()) x
def vSS(x:AVal)(k:Option Ad→Nat→Room→R)(s:List UInt8→R):R:=@AVal.rec (fun _=>R) (fun _=>Unit) (fun _=>.no) (fun _ _=>.no) (s) (fun _=>.no) (k) (fun _=>.no) (fun _ _ _ _ _=>.no) .no (fun _ _ _=>.no) .no (fun _ _=>.no) (fun _ _=>.no) (fun _=>.no) () (fun _ _ _ _=>()) x
def vAgg(x:AVal)(k:List AVal→R):R:=@AVal.rec (fun _=>R) (fun _=>Unit) (fun _=>.no) (fun _ _=>.no) (fun _=>.no) (fun _=>.no) (fun _ _ _=>.no) (fun _=>.no) (fun _ _ _ _ _=>.no) .no (fun _ _ _=>.no) .no (fun l _=>k l) (fun _ _=>.no) (fun _=>.no) () (fun _ _ _ _=>()) x
def vTup(x:AVal)(k:List AVal→R):R:=@AVal.rec (fun _=>R) (fun _=>Unit) (fun _=>.no) (fun _ _=>.no) (fun _=>.no) (fun _=>.no) (fun _ _ _=>.no) (fun _=>.no) (fun _ _ _ _ _=>.no) .no (fun _ _ _=>.no) .no (fun _ _=>.no) (fun l _=>k l) (fun _=>.no) () (fun _ _ _ _=>()) x
def vFn(x:AVal)(k:Fn→List AVal→List AVal→R):R:=@AVal.rec (fun _=>R) (fun _=>Unit) (fun _=>.no) (fun _ _=>.no) (fun _=>.no) (fun _=>.no) (fun _ _ _=>.no) (fun _=>.no) (fun f a b _ _=>k f a b) .no (fun _ _ _=>.no) .no (fun _ _=>.no) (fun _ _=>.no) (fun _=>.no) () (fun _ _ _ _=>()) x
def vOne(x:AVal)(y n:R):R:=@AVal.rec (fun _=>R) (fun _=>Unit) (fun _=>y) (fun _ _=>y) (fun _=>y) (fun _=>y) (fun _ _ _=>y) (fun _=>y) (fun _ _ _ _ _=>y) (y) (fun _ _ _=>y) (y) (fun _ _=>n) (fun _ _=>n) (fun _=>y) () (fun _ _ _ _=>()) x
theorem vOne_eq(x:AVal)(y n:R):vOne x y n=bif x.one then y else n:=by cases x <;> rfl
def mx(k:IntKind):Nat:=@IntKind.rec (fun _=>Nat) (nat_lit 127) (nat_lit 32767) (nat_lit 2147483647) (nat_lit 9223372036854775807) (nat_lit 255) (nat_lit 65535) (nat_lit 4294967295) (nat_lit 18446744073709551615) k
theorem wrF_small{k:IntKind}{m:Nat}(h:m≤mx k):wrF k (.ofNat m)=.ofNat m:=by
 cases k <;> simp only[mx,wrF,uwr,swr,ble_dec,Bool.cond_decide]at h ⊢ <;> (try split) <;> (try congr 1) <;> omega
def fW(kd:IntKind)(m:Nat)(k:AVal→R):R:=ifb (Nat.ble m (mx kd)) (fN m fun m=>k (.int kd (.ofNat m))) (fI (wrF kd (.ofNat m)) fun n=>k (.int kd n))
theorem fW_eq(kd:IntKind)(m:Nat)(k:AVal→R):fW kd m k=k (.int kd (wrF kd (.ofNat m))):=by
 simp only[fW,ifb_eq,fN_eq,fI_eq]
 cases h:Nat.ble m (mx kd) with
 | true=>rw[wrF_small (Nat.le_of_ble_eq_true h)]; rfl
 | false=>rfl
def fWI(kd:IntKind)(n:Int)(k:AVal→R):R:=fI (wrF kd n) fun n=>k (.int kd n)
theorem fWI_eq(kd:IntKind)(n:Int)(k:AVal→R):fWI kd n k=k (.int kd (wrF kd n)):=fI_eq _ _
def iNN(a b:Int)(f:Nat→Nat→R)(z:R):R:=@Int.rec (fun _=>R) (fun m=>@Int.rec (fun _=>R) (fun n=>f m n) (fun _=>z) b) (fun _=>z) a
def kn(k:IntKind):Nat:=@IntKind.rec (fun _=>Nat) (nat_lit 0) (nat_lit 1) (nat_lit 2) (nat_lit 3) (nat_lit 4) (nat_lit 5) (nat_lit 6) (nat_lit 7) k
def fK(a b:IntKind)(y:R):R:=ifb (Nat.beq (kn a) (kn b)) y .no
theorem fK_eq(a b:IntKind)(y:R):fK a b y=if a=b then y else .no:=by
 simp only[fK,ifb_eq,beq_dec]
 cases a <;> cases b <;> rfl
def on(r:Option AVal)(k:AVal→R):R:=match r with | some v=>k v | none=>.no
def onF(r:Option AVal)(k:AVal→R):R:=@Option.rec AVal (fun _=>R) .no (fun v=>fV v k) r
theorem onF_eq(r:Option AVal)(k:AVal→R):onF r k=on r k:=by cases r with | none=>rfl | some v=>exact fV_eq v k
def sApp:List UInt8→List UInt8→(List UInt8→R)→R:=@List.rec UInt8 (fun _=>List UInt8→(List UInt8→R)→R) (fun y k=>k y) (fun b _ ih y k=>ih y fun l=>k (b::l))
theorem sApp_eq:∀(x y:List UInt8) (k:List UInt8→R),sApp x y k=k (x++y)
 | [],_,_=>rfl
 | b::x,y,k=>sApp_eq x y fun l=>k (b::l)
def sLen:List UInt8→Nat→(Nat→R)→R:=@List.rec UInt8 (fun _=>Nat→(Nat→R)→R) (fun n k=>k n) (fun _ _ ih n k=>fN (Nat.succ n) fun n=>ih n k)
theorem sLen_eq:∀(x:List UInt8) (n:Nat) (k:Nat→R),sLen x n k=k (x.length+n)
 | [],n,k=>by show k n=_; simp
 | b::x,n,k=>by
  show fN (Nat.succ n) (fun n=>sLen x n k)=_
  rw[fN_eq,sLen_eq x]; congr 1; simp only[List.length_cons]; omega
def sEq:List UInt8→List UInt8→Bool:=@List.rec UInt8 (fun _=>List UInt8→Bool) (@List.rec UInt8 (fun _=>Bool) true (fun _ _ _=>false))
 (fun b _ ih y=>@List.rec UInt8 (fun _=>Bool) false (fun c t _=>@Bool.rec (fun _=>Bool) false (ih t) (Nat.beq b.toNat c.toNat)) y)
theorem sEq_eq:∀x y:List UInt8,sEq x y=(x==y)
 | [],[]=>rfl
 | [],_::_=>rfl
 | _::_,[]=>rfl
 | b::x,c::y=>by
  show @Bool.rec (fun _=>Bool) false (sEq x y) (Nat.beq b.toNat c.toNat)=_
  rw[sEq_eq x y,beq_dec]
  by_cases h:b=c
  ·subst h; simp
  ·have:¬b.toNat=c.toNat:=fun e=>h (UInt8.toNat_inj.1 e)
   simp[h,this]
def fAdd(x y:AVal)(k:AVal→R):R:=vIS x (fun kd a=>vInt y fun kd' b=>fK kd kd' (iNN a b (fun m n=>fW kd (Nat.add m n) k) (fWI kd (Int.add a b) k)))
 (fun s=>vStr y fun t=>sLen s (nat_lit 0) fun n=>sLen t n fun n=>ifb (Nat.ble n (nat_lit 9223372036854775807)) (sApp s t fun l=>k (.str l)) .no)
theorem fAdd_eq(x y:AVal)(k:AVal→R):fAdd x y k=on (aBin .add x y) k:=by
 cases x <;> (try (cases y <;> rfl))
 case int kd a=>
  cases y <;> (try rfl)
  case int kd' b=>
   show fK kd kd' _=on (if kd=kd' then aIntF .add kd a b else none) k
   rw[fK_eq]
   split
   ·cases a <;> cases b <;> simp only[iNN,fW_eq,fWI_eq,on,aIntF] <;> rfl
   ·rfl
 case str s=>
  cases y <;> (try rfl)
  case str t=>
   show (sLen s 0 fun n=>sLen t n fun n=>ifb _ _ _)=on (aStr .add s t) k
   simp only[sLen_eq,sApp_eq,ifb_eq,aStr,Nat.add_zero,Nat.add_comm t.length]
   cases Nat.ble (s.length+t.length) 9223372036854775807 <;> rfl
def fArith(op:BinOp)(f:IntKind→Nat→Nat→(AVal→R)→R)(x y:AVal)(k:AVal→R):R:=
 vInt x fun kd a=>vInt y fun kd' b=>fK kd kd' (iNN a b (fun m n=>f kd m n k) (onF (aIntF op kd a b) k))
theorem fArith_eq{op:BinOp}(hs:isShift op=false){f:IntKind→Nat→Nat→(AVal→R)→R}(hf:∀kd m n k,f kd m n k=on (aIntF op kd (.ofNat m) (.ofNat n)) k){x y:AVal}(hx:∃kd a,x=.int kd a)(k:AVal→R) :
  fArith op f x y k=on (aBin op x y) k:=by
 obtain⟨kd,a,rfl⟩:=hx
 cases y <;> (try rfl)
 case int kd' b=>
  show fK kd kd' _=on (bif isShift op then aShiftF op kd a b else if kd=kd' then aIntF op kd a b else none) k
  rw[fK_eq,hs]
  simp only[cond_false]
  split
  ·cases a <;> cases b <;> simp only[iNN,onF_eq,hf]
  ·rfl
theorem fArith_no{op:BinOp}{f:IntKind→Nat→Nat→(AVal→R)→R}{x y:AVal}(hx:∀kd a,x≠.int kd a)(k:AVal→R):fArith op f x y k=.no:=by
 cases x <;> (try rfl)
 exact absurd rfl (hx _ _)
def fSub:=fArith .sub fun kd m n k=>ifb (Nat.ble n m) (fW kd (Nat.sub m n) k) (fWI kd (Int.sub (.ofNat m) (.ofNat n)) k)
def fMul:=fArith .mul fun kd m n k=>fW kd (Nat.mul m n) k
def fQuo:=fArith .quo fun kd m n k=>ifb (Nat.beq n (nat_lit 0)) .no (fW kd (Nat.div m n) k)
def fRem:=fArith .rem fun kd m n k=>ifb (Nat.beq n (nat_lit 0)) .no (fN (Nat.mod m n) fun r=>k (.int kd (.ofNat r)))
def fBit(op:BinOp)(g:Nat→Nat→Nat):=fArith op fun kd m n k=>ifb (Nat.ble m (mx kd)) (ifb (Nat.ble n (mx kd)) (fW kd (g m n) k) .no) .no
def OneWay(f:(AVal→R)→R)(r:Option AVal):Prop:=(∀k,f k=.no)∨∃v,r=some v∧∀k,f k=k v
theorem oneWay_on{f:(AVal→R)→R}{r:Option AVal}(h:∀k,f k=on r k):OneWay f r:=by
 cases r with
 | none=>exact .inl h
 | some v=>exact .inr ⟨v,rfl,h⟩
theorem oneWay_no{f:(AVal→R)→R}{r:Option AVal}(h:∀k,f k=.no):OneWay f r:=.inl h
theorem fArith_way{op:BinOp}(hs:isShift op=false){f:IntKind→Nat→Nat→(AVal→R)→R}(hf:∀kd m n k,f kd m n k=on (aIntF op kd (.ofNat m) (.ofNat n)) k)(x y:AVal):OneWay (fArith op f x y) (aBin op x y):=by
 by_cases h:∃kd a,x=.int kd a
 ·exact oneWay_on (fArith_eq hs hf h)
 ·exact oneWay_no (fArith_no fun kd a e=>h ⟨kd,a,e⟩)
theorem fAdd_way(x y:AVal):OneWay (fAdd x y) (aBin .add x y):=oneWay_on (fAdd_eq x y)
theorem fSub_way(x y:AVal):OneWay (fSub x y) (aBin .sub x y):=fArith_way rfl (fun kd m n k=>by
 simp only[ifb_eq,fW_eq,fWI_eq,aIntF,on]
 cases h:Nat.ble n m with
 | true=>
  have:=Nat.le_of_ble_eq_true h
  have e:(Int.ofNat m-Int.ofNat n)=Int.ofNat (Nat.sub m n):=by simp only[Int.ofNat_eq_natCast]; have:Nat.sub m n=m-n:=rfl; omega
  rw[e]; rfl
 | false=>rfl) x y
theorem fMul_way(x y:AVal):OneWay (fMul x y) (aBin .mul x y):=fArith_way rfl (fun kd m n k=>by simp only[fW_eq,aIntF,on]; rfl) x y
theorem fQuo_way(x y:AVal):OneWay (fQuo x y) (aBin .quo x y):=fArith_way rfl (fun kd m n k=>by
 simp only[ifb_eq,fW_eq,aIntF]
 have e:eqF (.ofNat n) 0=Nat.beq n 0:=rfl
 rw[e]
 cases h:Nat.beq n 0 <;> rfl) x y
theorem fRem_way(x y:AVal):OneWay (fRem x y) (aBin .rem x y):=fArith_way rfl (fun kd m n k=>by
 simp only[ifb_eq,fN_eq,aIntF]
 have e:eqF (.ofNat n) 0=Nat.beq n 0:=rfl
 rw[e]
 cases h:Nat.beq n 0 <;> rfl) x y
theorem mx_lt(k:IntKind):mx k<2 ^ k.bits:=by cases k <;> simp[mx,IntKind.bits]
theorem fBit_way{op:BinOp}{g:Nat→Nat→Nat}{z:IntKind→Int→Int→Int}(hs:isShift op=false)(hg:∀k a b,aIntF op k a b=some (.int k (bitsF k g (z k a b) a b)))(x y:AVal):OneWay (fBit op g x y) (aBin op x y):=by
 by_cases h:∃kd a,x=.int kd a
 ·obtain⟨kd,a,rfl⟩:=h
  cases y
  case int kd' b=>
   by_cases hk:kd=kd'
   ·subst hk
    have hb:aBin op (.int kd a) (.int kd b)=aIntF op kd a b:=by simp only[aBin,hs,cond_false,if_true]
    have hu:∀k,fBit op g (.int kd a) (.int kd b) k=iNN a b (fun m n=>ifb (Nat.ble m (mx kd)) (ifb (Nat.ble n (mx kd)) (fW kd (g m n) k) .no) .no) (onF (aIntF op kd a b) k):=fun k=>by
     show fK kd kd _=_
     rw[fK_eq,if_pos rfl]
    rw[hb]
    cases a with
    | negSucc a=>exact oneWay_on fun k=>by rw[hu]; exact onF_eq _ _
    | ofNat m=>cases b with
     | negSucc b=>exact oneWay_on fun k=>by rw[hu]; exact onF_eq _ _
     | ofNat n=>
      cases h1:Nat.ble m (mx kd) with
      | false=>exact oneWay_no fun k=>by rw[hu]; simp only[iNN,ifb_eq,h1]; rfl
      | true=>
       cases h2:Nat.ble n (mx kd) with
       | false=>exact oneWay_no fun k=>by rw[hu]; simp only[iNN,ifb_eq,h1,h2]; rfl
       | true=>
        refine oneWay_on fun k=>?_
        rw[hu]
        have q1:=Nat.lt_of_le_of_lt (Nat.le_of_ble_eq_true h1) (mx_lt kd)
        have q2:=Nat.lt_of_le_of_lt (Nat.le_of_ble_eq_true h2) (mx_lt kd)
        simp only[iNN,ifb_eq,h1,h2,fW_eq,hg,bitsF,on,Nat.mod_eq_of_lt q1,Nat.mod_eq_of_lt q2,cond_true]
   ·exact oneWay_no fun k=>by
     show fK kd kd' _=_
     rw[fK_eq,if_neg hk]
  all_goals exact oneWay_no fun k=>rfl
 ·exact oneWay_no (fArith_no fun kd a e=>h ⟨kd,a,e⟩)
theorem fAnd_way(x y:AVal):OneWay (fBit .and Nat.land x y) (aBin .and x y):=fBit_way rfl (fun _ _ _=>rfl) x y
theorem fOr_way(x y:AVal):OneWay (fBit .or Nat.lor x y) (aBin .or x y):=fBit_way rfl (fun _ _ _=>rfl) x y
theorem fXor_way(x y:AVal):OneWay (fBit .xor Nat.xor x y) (aBin .xor x y):=fBit_way rfl (fun _ _ _=>rfl) x y
def fGenB(op:BinOp)(x y:AVal)(k:AVal→R):R:=onF (aBin op x y) k
theorem fGenB_way(op:BinOp)(x y:AVal):OneWay (fGenB op x y) (aBin op x y):=oneWay_on fun k=>onF_eq _ k
def shN(kd:IntKind)(n:Nat):Nat:=@Bool.rec (fun _=>Nat) kd.bits n (Nat.ble n kd.bits)
def fShl(x y:AVal)(k:AVal→R):R:=vInt x fun kd a=>vInt y fun _ b=>iNN a b (fun m n=>fW kd (Nat.mul m (Nat.pow (nat_lit 2) (shN kd n))) k) (onF (aShiftF .shl kd a b) k)
def fShr(x y:AVal)(k:AVal→R):R:=vInt x fun kd a=>vInt y fun _ b=>iNN a b (fun m n=>fN (Nat.div m (Nat.pow (nat_lit 2) (shN kd n))) fun r=>k (.int kd (.ofNat r))) (onF (aShiftF .shr kd a b) k)
theorem shN_eq(kd:IntKind)(n:Nat):shN kd n=bif Nat.ble n kd.bits then n else kd.bits:=by unfold shN; cases Nat.ble n kd.bits <;> rfl
theorem fShl_way(x y:AVal):OneWay (fShl x y) (aBin .shl x y):=by
 refine oneWay_on fun k=>?_
 cases x <;> (try (cases y <;> rfl))
 case int kd a=>
  cases y <;> (try rfl)
  case int kd' b=>
   show iNN a b _ _=on (aShiftF .shl kd a b) k
   cases a <;> cases b <;> simp only[iNN,onF_eq,fW_eq,aShiftF,on,mulP,shN_eq] <;> rfl
theorem fShr_way(x y:AVal):OneWay (fShr x y) (aBin .shr x y):=by
 refine oneWay_on fun k=>?_
 cases x <;> (try (cases y <;> rfl))
 case int kd a=>
  cases y <;> (try rfl)
  case int kd' b=>
   show iNN a b _ _=on (aShiftF .shr kd a b) k
   cases a <;> cases b <;> simp only[iNN,onF_eq,fN_eq,aShiftF,on,divP,shN_eq] <;> rfl
def fCmp(q:Nat→Nat→Bool)(qi:Int→Int→Bool)(qs:List UInt8→List UInt8→Bool)(x y:AVal)(k:AVal→R):R:=
 vIS x (fun kd a=>vInt y fun kd' b=>fK kd kd' (iNN a b (fun m n=>fB (q m n) fun r=>k (.bool r)) (fB (qi a b) fun r=>k (.bool r)))) (fun s=>vStr y fun t=>fB (qs s t) fun r=>k (.bool r))
theorem fCmp_way{op:BinOp}{q:Nat→Nat→Bool}{qi:Int→Int→Bool}{qs:List UInt8→List UInt8→Bool}(hs:isShift op=false)(h1:∀k a b,aIntF op k a b=some (.bool (qi a b)))(h2:∀m n,qi (.ofNat m) (.ofNat n)=q m n)
  (h3:∀s t,aStr op s t=some (.bool (qs s t))) (x y:AVal):OneWay (fCmp q qi qs x y) (aBin op x y):=by
 refine oneWay_on fun k=>?_
 cases x <;> (try (cases y <;> rfl))
 case int kd a=>
  cases y <;> (try rfl)
  case int kd' b=>
   show fK kd kd' _=on (bif isShift op then aShiftF op kd a b else if kd=kd' then aIntF op kd a b else none) k
   rw[fK_eq,hs]
   simp only[cond_false]
   split
   ·cases a <;> cases b <;> simp only[iNN,fB_eq,h1,on,h2]
   ·rfl
 case str s=>
  cases y <;> (try rfl)
  case str t=>
   show fB (qs s t) (fun r=>k (.bool r))=on (aStr op s t) k
   rw[fB_eq,h3]; rfl
def nt(b:Bool):Bool:=@Bool.rec (fun _=>Bool) true false b
theorem nt_eq(b:Bool):nt b=!b:=by cases b <;> rfl
def fEql:=fCmp Nat.beq eqF sEq
def fNeq:=fCmp (fun m n=>nt (Nat.beq m n)) (fun a b=>nt (eqF a b)) (fun s t=>nt (sEq s t))
def fLss:=fCmp (fun m n=>Nat.ble (Nat.succ m) n) ltF bless
def fLeq:=fCmp (fun m n=>nt (Nat.ble (Nat.succ n) m)) (fun a b=>nt (ltF b a)) (fun s t=>bless s t||s==t)
def fGtr:=fCmp (fun m n=>Nat.ble (Nat.succ n) m) (fun a b=>ltF b a) (fun s t=>!(bless s t||s==t))
def fGeq:=fCmp (fun m n=>nt (Nat.ble (Nat.succ m) n)) (fun a b=>nt (ltF a b)) (fun s t=>!(bless s t))
theorem fEql_way(x y:AVal):OneWay (fEql x y) (aBin .eql x y):=fCmp_way (op:=.eql) (q:=Nat.beq) (qi:=eqF) (qs:=sEq) rfl (fun _ _ _=>rfl) (fun _ _=>rfl) (fun s t=>by rw[sEq_eq]; rfl) x y
theorem fNeq_way(x y:AVal):OneWay (fNeq x y) (aBin .neq x y):=fCmp_way (op:=.neq) (q:=(fun m n=>nt (Nat.beq m n))) (qi:=(fun a b=>nt (eqF a b))) (qs:=(fun s t=>nt (sEq s t))) rfl (fun _ _ _=>by simp only[nt_eq]; rfl) (fun _ _=>rfl) (fun s t=>by rw[sEq_eq,nt_eq]; rfl) x y
theorem fLss_way(x y:AVal):OneWay (fLss x y) (aBin .lss x y):=fCmp_way (op:=.lss) (q:=(fun m n=>Nat.ble (Nat.succ m) n)) (qi:=ltF) (qs:=bless) rfl (fun _ _ _=>rfl) (fun _ _=>rfl) (fun _ _=>rfl) x y
theorem fLeq_way(x y:AVal):OneWay (fLeq x y) (aBin .leq x y):=fCmp_way (op:=.leq) (q:=(fun m n=>nt (Nat.ble (Nat.succ n) m))) (qi:=(fun a b=>nt (ltF b a))) (qs:=(fun s t=>bless s t||s==t)) rfl (fun _ _ _=>by simp only[nt_eq]; rfl) (fun _ _=>rfl) (fun _ _=>rfl) x y
theorem fGtr_way(x y:AVal):OneWay (fGtr x y) (aBin .gtr x y):=fCmp_way (op:=.gtr) (q:=(fun m n=>Nat.ble (Nat.succ n) m)) (qi:=(fun a b=>ltF b a)) (qs:=(fun s t=>!(bless s t||s==t))) rfl (fun _ _ _=>rfl) (fun _ _=>rfl) (fun _ _=>rfl) x y
theorem fGeq_way(x y:AVal):OneWay (fGeq x y) (aBin .geq x y):=fCmp_way (op:=.geq) (q:=(fun m n=>nt (Nat.ble (Nat.succ m) n))) (qi:=(fun a b=>nt (ltF a b))) (qs:=(fun s t=>!(bless s t))) rfl (fun _ _ _=>by simp only[nt_eq]; rfl) (fun _ _=>rfl) (fun _ _=>rfl) x y
def fBinOp:BinOp→AVal→AVal→(AVal→R)→R
 | .add=>fAdd | .sub=>fSub | .mul=>fMul | .quo=>fQuo | .rem=>fRem | .and=>fBit .and Nat.land | .or=>fBit .or Nat.lor | .xor=>fBit .xor Nat.xor
 | .shl=>fShl | .shr=>fShr | .eql=>fEql | .neq=>fNeq | .lss=>fLss | .leq=>fLeq | .gtr=>fGtr | .geq=>fGeq | op=>fGenB op
theorem fBinOp_way(op:BinOp)(x y:AVal):OneWay (fBinOp op x y) (aBin op x y):=by
 cases op
 case add=>exact fAdd_way x y
 case sub=>exact fSub_way x y
 case mul=>exact fMul_way x y
 case quo=>exact fQuo_way x y
 case rem=>exact fRem_way x y
 case and=>exact fAnd_way x y
 case or=>exact fOr_way x y
 case xor=>exact fXor_way x y
 case shl=>exact fShl_way x y
 case shr=>exact fShr_way x y
 case eql=>exact fEql_way x y
 case neq=>exact fNeq_way x y
 case lss=>exact fLss_way x y
 case leq=>exact fLeq_way x y
 case gtr=>exact fGtr_way x y
 case geq=>exact fGeq_way x y
 all_goals exact fGenB_way _ x y
def fConv(kd:IntKind)(x:AVal)(k:AVal→R):R:=vInt x fun _ n=>@Int.rec (fun _=>R) (fun m=>fW kd m k) (fun m=>fWI kd (.negSucc m) k) n
theorem fConv_way(kd:IntKind)(x:AVal):OneWay (fConv kd x) (aConv kd x):=by
 refine oneWay_on fun k=>?_
 cases x <;> (try rfl)
 case int k' n=>cases n <;> simp only[fConv,aConv,on,vInt,fW_eq,fWI_eq]
end
end Go.Abs.F
namespace Go.Abs.F
open Go.Abs
noncomputable section
def Way{X:Type}(f:(X→R)→R)(r:Option X):Prop:=(∀k,f k=.no)∨∃v,r=some v∧∀k,f k=k v
def GW.on{T β:Type}(w:GW T β)(t:T)(k:β→R):R:=@GW.rec T β (fun _=>R) (fun g=>g t k) w
def SW.on{T β:Type}(w:SW T β)(v:β)(t:T)(k:T→R):R:=@SW.rec T β (fun _=>R) (fun s=>s v t k) w
section
variable {α β X:Type}
def pk0(g:α→(β→R)→R)(t:N8 α)(k:β→R):R:=@N8.rec α (fun _=>R) (fun x _ _ _ _ _ _ _=>g x k) t
def pk1(g:α→(β→R)→R)(t:N8 α)(k:β→R):R:=@N8.rec α (fun _=>R) (fun _ x _ _ _ _ _ _=>g x k) t
def pk2(g:α→(β→R)→R)(t:N8 α)(k:β→R):R:=@N8.rec α (fun _=>R) (fun _ _ x _ _ _ _ _=>g x k) t
def pk3(g:α→(β→R)→R)(t:N8 α)(k:β→R):R:=@N8.rec α (fun _=>R) (fun _ _ _ x _ _ _ _=>g x k) t
def pk4(g:α→(β→R)→R)(t:N8 α)(k:β→R):R:=@N8.rec α (fun _=>R) (fun _ _ _ _ x _ _ _=>g x k) t
def pk5(g:α→(β→R)→R)(t:N8 α)(k:β→R):R:=@N8.rec α (fun _=>R) (fun _ _ _ _ _ x _ _=>g x k) t
def pk6(g:α→(β→R)→R)(t:N8 α)(k:β→R):R:=@N8.rec α (fun _=>R) (fun _ _ _ _ _ _ x _=>g x k) t
def pk7(g:α→(β→R)→R)(t:N8 α)(k:β→R):R:=@N8.rec α (fun _=>R) (fun _ _ _ _ _ _ _ x=>g x k) t
def ps0(s:β→α→(α→R)→R)(v:β)(t:N8 α)(k:N8 α→R):R:=@N8.rec α (fun _=>R) (fun a0 a1 a2 a3 a4 a5 a6 a7=>s v a0 fun x=>k (.mk x a1 a2 a3 a4 a5 a6 a7)) t
def ps1(s:β→α→(α→R)→R)(v:β)(t:N8 α)(k:N8 α→R):R:=@N8.rec α (fun _=>R) (fun a0 a1 a2 a3 a4 a5 a6 a7=>s v a1 fun x=>k (.mk a0 x a2 a3 a4 a5 a6 a7)) t
def ps2(s:β→α→(α→R)→R)(v:β)(t:N8 α)(k:N8 α→R):R:=@N8.rec α (fun _=>R) (fun a0 a1 a2 a3 a4 a5 a6 a7=>s v a2 fun x=>k (.mk a0 a1 x a3 a4 a5 a6 a7)) t
def ps3(s:β→α→(α→R)→R)(v:β)(t:N8 α)(k:N8 α→R):R:=@N8.rec α (fun _=>R) (fun a0 a1 a2 a3 a4 a5 a6 a7=>s v a3 fun x=>k (.mk a0 a1 a2 x a4 a5 a6 a7)) t
def ps4(s:β→α→(α→R)→R)(v:β)(t:N8 α)(k:N8 α→R):R:=@N8.rec α (fun _=>R) (fun a0 a1 a2 a3 a4 a5 a6 a7=>s v a4 fun x=>k (.mk a0 a1 a2 a3 x a5 a6 a7)) t
def ps5(s:β→α→(α→R)→R)(v:β)(t:N8 α)(k:N8 α→R):R:=@N8.rec α (fun _=>R) (fun a0 a1 a2 a3 a4 a5 a6 a7=>s v a5 fun x=>k (.mk a0 a1 a2 a3 a4 x a6 a7)) t
def ps6(s:β→α→(α→R)→R)(v:β)(t:N8 α)(k:N8 α→R):R:=@N8.rec α (fun _=>R) (fun a0 a1 a2 a3 a4 a5 a6 a7=>s v a6 fun x=>k (.mk a0 a1 a2 a3 a4 a5 x a7)) t
def ps7(s:β→α→(α→R)→R)(v:β)(t:N8 α)(k:N8 α→R):R:=@N8.rec α (fun _=>R) (fun a0 a1 a2 a3 a4 a5 a6 a7=>s v a7 fun x=>k (.mk a0 a1 a2 a3 a4 a5 a6 x)) t
def dsG(d:Nat)(z:X)(k:((α→(β→R)→R)→N8 α→(β→R)→R)→X):X:=@Nat.rec (fun _=>X) (k pk0) (fun d _=>@Nat.rec (fun _=>X) (k pk1) (fun d _=>@Nat.rec (fun _=>X) (k pk2) (fun d _=>@Nat.rec (fun _=>X) (k pk3) (fun d _=>@Nat.rec (fun _=>X) (k pk4) (fun d _=>@Nat.rec (fun _=>X) (k pk5) (fun d _=>@Nat.rec (fun _=>X) (k pk6) (fun d _=>@Nat.rec (fun _=>X) (k pk7) (fun d _=>z) d) d) d) d) d) d) d) d
def dsS(d:Nat)(z:X)(k:((β→α→(α→R)→R)→β→N8 α→(N8 α→R)→R)→X):X:=@Nat.rec (fun _=>X) (k ps0) (fun d _=>@Nat.rec (fun _=>X) (k ps1) (fun d _=>@Nat.rec (fun _=>X) (k ps2) (fun d _=>@Nat.rec (fun _=>X) (k ps3) (fun d _=>@Nat.rec (fun _=>X) (k ps4) (fun d _=>@Nat.rec (fun _=>X) (k ps5) (fun d _=>@Nat.rec (fun _=>X) (k ps6) (fun d _=>@Nat.rec (fun _=>X) (k ps7) (fun d _=>z) d) d) d) d) d) d) d) d
def N8.put(x:N8 α)(i:Nat)(v:α):N8 α:=match i with | 0=>{ x with a0:=v } | 1=>{ x with a1:=v } | 2=>{ x with a2:=v } | 3=>{ x with a3:=v } | 4=>{ x with a4:=v } | 5=>{ x with a5:=v } | 6=>{ x with a6:=v } | _=>{ x with a7:=v }
theorem N8.at_put(x:N8 α)(v:α)(i j:Nat)(hi:i<8)(hj:j<8):(x.put i v).at j=if j=i then v else x.at j:=by
 obtain rfl | rfl | rfl | rfl | rfl | rfl | rfl | rfl:i=0∨i=1∨i=2∨i=3∨i=4∨i=5∨i=6∨i=7:=om
 all_goals
  obtain rfl | rfl | rfl | rfl | rfl | rfl | rfl | rfl:j=0∨j=1∨j=2∨j=3∨j=4∨j=5∨j=6∨j=7:=om
  all_goals rfl
theorem dsG_way(d:Nat)(z:X):(8≤d∧∀k,dsG (α:=α) (β:=β) d z k=z)∨(d<8∧∃p,(∀k,dsG (α:=α) (β:=β) d z k=k p)∧∀g (t:N8 α) k,p g t k=g (t.at d) k):=by
 by_cases h:d<8
 ·refine .inr ⟨h,?_⟩
  obtain rfl | rfl | rfl | rfl | rfl | rfl | rfl | rfl:d=0∨d=1∨d=2∨d=3∨d=4∨d=5∨d=6∨d=7:=om
  ·exact⟨pk0,fun k=>rfl,fun g t k=>by cases t; rfl⟩
  ·exact⟨pk1,fun k=>rfl,fun g t k=>by cases t; rfl⟩
  ·exact⟨pk2,fun k=>rfl,fun g t k=>by cases t; rfl⟩
  ·exact⟨pk3,fun k=>rfl,fun g t k=>by cases t; rfl⟩
  ·exact⟨pk4,fun k=>rfl,fun g t k=>by cases t; rfl⟩
  ·exact⟨pk5,fun k=>rfl,fun g t k=>by cases t; rfl⟩
  ·exact⟨pk6,fun k=>rfl,fun g t k=>by cases t; rfl⟩
  ·exact⟨pk7,fun k=>rfl,fun g t k=>by cases t; rfl⟩
 ·obtain⟨e,rfl⟩:∃e,d=e+8:=⟨d-8,om⟩
  exact .inl ⟨om,fun k=>rfl⟩
theorem dsS_way(d:Nat)(z:X):(8≤d∧∀k,dsS (α:=α) (β:=β) d z k=z)∨(d<8∧∃p,(∀k,dsS (α:=α) (β:=β) d z k=k p)∧∀s v (t:N8 α) k,p s v t k=s v (t.at d) fun x=>k (t.put d x)):=by
 by_cases h:d<8
 ·refine .inr ⟨h,?_⟩
  obtain rfl | rfl | rfl | rfl | rfl | rfl | rfl | rfl:d=0∨d=1∨d=2∨d=3∨d=4∨d=5∨d=6∨d=7:=om
  ·exact⟨ps0,fun k=>rfl,fun s v t k=>by cases t; rfl⟩
  ·exact⟨ps1,fun k=>rfl,fun s v t k=>by cases t; rfl⟩
  ·exact⟨ps2,fun k=>rfl,fun s v t k=>by cases t; rfl⟩
  ·exact⟨ps3,fun k=>rfl,fun s v t k=>by cases t; rfl⟩
  ·exact⟨ps4,fun k=>rfl,fun s v t k=>by cases t; rfl⟩
  ·exact⟨ps5,fun k=>rfl,fun s v t k=>by cases t; rfl⟩
  ·exact⟨ps6,fun k=>rfl,fun s v t k=>by cases t; rfl⟩
  ·exact⟨ps7,fun k=>rfl,fun s v t k=>by cases t; rfl⟩
 ·obtain⟨e,rfl⟩:∃e,d=e+8:=⟨d-8,om⟩
  exact .inl ⟨om,fun k=>rfl⟩
def gsel(α:Type):(d:Nat)→Nat→GW (Nd α d) α:=@Nat.rec (fun d=>Nat→GW (Nd α d) α) (fun i=>@Nat.rec (fun _=>GW α α) ⟨fun x k=>k x⟩ (fun _ _=>⟨fun _ _=>.no⟩) i)
 (fun d ih i=>dsG (α:=Nd α d) (β:=α) (Nat.div i (Nat.pow (nat_lit 8) d)) ⟨fun _ _=>.no⟩ fun p=>@GW.rec (Nd α d) α (fun _=>GW (N8 (Nd α d)) α) (fun g=>⟨p g⟩) (ih (Nat.mod i (Nat.pow (nat_lit 8) d))))
def ssel(α:Type):(d:Nat)→Nat→SW (Nd α d) α:=@Nat.rec (fun d=>Nat→SW (Nd α d) α) (fun i=>@Nat.rec (fun _=>SW α α) ⟨fun v _ k=>k v⟩ (fun _ _=>⟨fun _ _ _=>.no⟩) i)
 (fun d ih i=>dsS (α:=Nd α d) (β:=α) (Nat.div i (Nat.pow (nat_lit 8) d)) ⟨fun _ _ _=>.no⟩ fun p=>@SW.rec (Nd α d) α (fun _=>SW (N8 (Nd α d)) α) (fun g=>⟨p g⟩) (ih (Nat.mod i (Nat.pow (nat_lit 8) d))))
def ndGet:(d:Nat)→Nd α d→Nat→α
 | 0,t,_=>t
 | d+1,t,i=>ndGet d (N8.at (α:=Nd α d) t (i / 8 ^ d)) (i % 8 ^ d)
def ndPut:(d:Nat)→Nd α d→Nat→α→Nd α d
 | 0,_,_,v=>v
 | d+1,t,i,v=>N8.put (α:=Nd α d) t (i / 8 ^ d) (ndPut d (N8.at (α:=Nd α d) t (i / 8 ^ d)) (i % 8 ^ d) v)
theorem nd_get_put:∀(d:Nat) (t:Nd α d) (i j:Nat) (v:α),i<8 ^ d→j<8 ^ d→ndGet d (ndPut d t i v) j=if j=i then v else ndGet d t j
 | 0,t,i,j,v,hi,hj=>by
  have:j=i:=by simp at hi hj; omega
  rw[if_pos this]; rfl
 | d+1,t,i,j,v,hi,hj=>by
  have hp:0<8 ^ d:=Nat.pow_pos om
  rw[Nat.pow_succ]at hi hj
  have hi8:i / 8 ^ d<8:=(Nat.div_lt_iff_lt_mul hp).2 om
  have hj8:j / 8 ^ d<8:=(Nat.div_lt_iff_lt_mul hp).2 om
  simp only[ndGet,ndPut]
  have hap:=N8.at_put (α:=Nd α d) t (ndPut d (N8.at (α:=Nd α d) t (i / 8 ^ d)) (i % 8 ^ d) v) (i / 8 ^ d) (j / 8 ^ d) hi8 hj8
  rw[hap]
  by_cases h1:j / 8 ^ d=i / 8 ^ d
  ·rw[if_pos h1,nd_get_put d _ _ _ _ (Nat.mod_lt _ hp) (Nat.mod_lt _ hp)]
   by_cases h2:j % 8 ^ d=i % 8 ^ d
   ·have:j=i:=by rw[← Nat.div_add_mod j (8 ^ d),← Nat.div_add_mod i (8 ^ d),h1,h2]
    rw[if_pos h2,if_pos this]
   ·rw[if_neg h2,if_neg (fun e=>h2 (by rw[e])),h1]
  ·rw[if_neg h1,if_neg (fun e=>h1 (by rw[e]))]
theorem gsel_way:∀(d i:Nat),(∀t k,(gsel α d i).on t k=.no)∨(i<8 ^ d∧∀t k,(gsel α d i).on t k=k (ndGet d t i))
 | 0,0=>.inr ⟨by simp,fun t k=>rfl⟩
 | 0,i+1=>.inl fun t k=>rfl
 | d+1,i=>by
  have hp:0<8 ^ d:=Nat.pow_pos om
  have hu:gsel α (d+1) i=dsG (α:=Nd α d) (β:=α) (i / 8 ^ d) ⟨fun _ _=>.no⟩ fun p=>@GW.rec (Nd α d) α (fun _=>GW (N8 (Nd α d)) α) (fun g=>⟨p g⟩) (gsel α d (i % 8 ^ d)):=rfl
  rw[hu]
  rcases dsG_way (α:=Nd α d) (β:=α) (i / 8 ^ d) (⟨fun _ _=>.no⟩:GW (N8 (Nd α d)) α) with⟨_,h2⟩ | ⟨h1,p,h2,h3⟩
  ·exact .inl fun t k=>by rw[h2]; rfl
  ·rw[h2]
   have hg:∀t k,(@GW.rec (Nd α d) α (fun _=>GW (N8 (Nd α d)) α) (fun g=>⟨p g⟩) (gsel α d (i % 8 ^ d))).on t k=(gsel α d (i % 8 ^ d)).on (N8.at (α:=Nd α d) t (i / 8 ^ d)) k:=fun t k=>by
    cases gsel α d (i % 8 ^ d) with
    | mk g=>exact h3 g t k
   have hlt:i<8 ^ (d+1):=by rw[Nat.pow_succ]; have:=(Nat.div_lt_iff_lt_mul hp).1 h1; omega
   rcases gsel_way d (i % 8 ^ d) with q | ⟨_,q⟩
   ·exact .inl fun t k=>(hg t k).trans (q _ _)
   ·exact .inr ⟨hlt,fun t k=>(hg t k).trans (q _ _)⟩
theorem ssel_way:∀(d i:Nat),(∀v t k,(ssel α d i).on v t k=.no)∨(i<8 ^ d∧∀v t k,(ssel α d i).on v t k=k (ndPut d t i v))
 | 0,0=>.inr ⟨by simp,fun v t k=>rfl⟩
 | 0,i+1=>.inl fun v t k=>rfl
 | d+1,i=>by
  have hp:0<8 ^ d:=Nat.pow_pos om
  have hu:ssel α (d+1) i=dsS (α:=Nd α d) (β:=α) (i / 8 ^ d) ⟨fun _ _ _=>.no⟩ fun p=>@SW.rec (Nd α d) α (fun _=>SW (N8 (Nd α d)) α) (fun g=>⟨p g⟩) (ssel α d (i % 8 ^ d)):=rfl
  rw[hu]
  rcases dsS_way (α:=Nd α d) (β:=α) (i / 8 ^ d) (⟨fun _ _ _=>.no⟩:SW (N8 (Nd α d)) α) with⟨_,h2⟩ | ⟨h1,p,h2,h3⟩
  ·exact .inl fun v t k=>by rw[h2]; rfl
  ·rw[h2]
   have hg:∀v t k,(@SW.rec (Nd α d) α (fun _=>SW (N8 (Nd α d)) α) (fun g=>⟨p g⟩) (ssel α d (i % 8 ^ d))).on v t k=(ssel α d (i % 8 ^ d)).on v (N8.at (α:=Nd α d) t (i / 8 ^ d)) fun x=>k (N8.put (α:=Nd α d) t (i / 8 ^ d) x):=fun v t k=>by
    cases ssel α d (i % 8 ^ d) with
    | mk g=>exact h3 g v t k
   have hlt:i<8 ^ (d+1):=by rw[Nat.pow_succ]; have:=(Nat.div_lt_iff_lt_mul hp).1 h1; omega
   rcases ssel_way d (i % 8 ^ d) with q | ⟨_,q⟩
   ·exact .inl fun v t k=>(hg v t k).trans (q _ _ _)
   ·exact .inr ⟨hlt,fun v t k=>(hg v t k).trans (q _ _ _)⟩
def emp(x:α):(d:Nat)→Nd α d:=@Nat.rec (fun d=>Nd α d) x (fun _ ih=>⟨ih,ih,ih,ih,ih,ih,ih,ih⟩)
theorem emp_get(x:α):∀(d i:Nat),ndGet d (emp x d) i=x
 | 0,_=>rfl
 | d+1,i=>by
  have:∀j,N8.at (α:=Nd α d) (emp x (d+1)) j=emp x d:=fun j=>match j with | 0=>rfl | 1=>rfl | 2=>rfl | 3=>rfl | 4=>rfl | 5=>rfl | 6=>rfl | _+7=>rfl
  simp only[ndGet,this,emp_get x d]
def up(x:α)(d:Nat)(t:Nd α d):Nd α (Nat.succ d):=⟨t,emp x d,emp x d,emp x d,emp x d,emp x d,emp x d,emp x d⟩
theorem up_get(x:α)(d:Nat)(t:Nd α d)(i:Nat)(hi:i<8 ^ d):ndGet (d+1) (up x d t) i=ndGet d t i:=by
 have e1:i / 8 ^ d=0:=Nat.div_eq_of_lt hi
 simp only[ndGet,e1,Nat.mod_eq_of_lt hi]
 rfl
theorem up_rest(x:α)(d:Nat)(t:Nd α d)(i:Nat)(hi:¬i<8 ^ d):ndGet (d+1) (up x d t) i=x:=by
 have hp:0<8 ^ d:=Nat.pow_pos om
 obtain⟨e,he⟩:∃e,i / 8 ^ d=e+1:=⟨i / 8 ^ d-1,by have:=Nat.div_pos (Nat.le_of_not_lt hi) hp; omega⟩
 have:∀e,N8.at (α:=Nd α d) (up x d t) (e+1)=emp x d:=fun e=>match e with | 0=>rfl | 1=>rfl | 2=>rfl | 3=>rfl | 4=>rfl | 5=>rfl | _+6=>rfl
 simp only[ndGet,he,this,emp_get x d]
end
def csG(t:Cs)(i:Nat)(k:AVal→R):R:=@Cs.rec (fun _=>R) (fun d t=>(gsel AVal d i).on t k) t
def csS(v:AVal)(t:Cs)(i:Nat)(k:Cs→R):R:=@Cs.rec (fun _=>R) (fun d t=>(ssel AVal d i).on v t fun t=>k ⟨d,t⟩) t
def Cs.get(t:Cs)(i:Nat):AVal:=bif Nat.ble (i+1) (8 ^ t.d) then ndGet t.d t.t i else undefA
theorem Cs.get_lt{t:Cs}{i:Nat}(h:i<8 ^ t.d):t.get i=ndGet t.d t.t i:=by unfold Cs.get; rw[Nat.ble_eq_true_of_le h]; rfl
theorem Cs.get_ge{t:Cs}{i:Nat}(h:¬i<8 ^ t.d):t.get i=undefA:=by
 unfold Cs.get
 have:Nat.ble (i+1) (8 ^ t.d)=false:=by rw[ble_dec]; simp; omega
 rw[this]; rfl
def csFit(n:Nat):Nat→Cs→(Cs→R)→R:=@Nat.rec (fun _=>Cs→(Cs→R)→R) (fun _ _=>.no) (fun _ ih t k=>@Cs.rec (fun _=>R) (fun d t=>ifb (Nat.ble n (Nat.pow (nat_lit 8) d)) (k ⟨d,t⟩) (ih ⟨Nat.succ d,up undefA d t⟩ k)) t)
theorem csG_way(t:Cs)(i:Nat):(∀k,csG t i k=.no)∨∀k,csG t i k=k (t.get i):=by
 obtain⟨d,t⟩:=t
 rcases gsel_way (α:=AVal) d i with q | ⟨h,q⟩
 ·exact .inl fun k=>q _ _
 ·exact .inr fun k=>(q _ _).trans (by rw[Cs.get_lt (t:=⟨d,t⟩) h])
theorem csS_way(v:AVal)(t:Cs)(i:Nat):(∀k,csS v t i k=.no)∨∃t',(∀k,csS v t i k=k t')∧∀j,t'.get j=if j=i then v else t.get j:=by
 obtain⟨d,t⟩:=t
 rcases ssel_way (α:=AVal) d i with q | ⟨h,q⟩
 ·exact .inl fun k=>q _ _ _
 ·refine .inr ⟨⟨d,ndPut d t i v⟩,fun k=>q _ _ _,fun j=>?_⟩
  by_cases hj:j<8 ^ d
  ·rw[Cs.get_lt (t:=⟨d,ndPut d t i v⟩) hj,Cs.get_lt (t:=⟨d,t⟩) hj]
   exact nd_get_put d t i j v h hj
  ·rw[Cs.get_ge (t:=⟨d,ndPut d t i v⟩) hj,Cs.get_ge (t:=⟨d,t⟩) hj,if_neg om]
theorem csFit_way(n:Nat):∀(f:Nat) (t:Cs),(∀k,csFit n f t k=.no)∨∃t',(∀k,csFit n f t k=k t')∧∀j,t'.get j=t.get j
 | 0,t=>.inl fun k=>rfl
 | f+1,⟨d,t⟩=>by
  have hu:∀k,csFit n (f+1) ⟨d,t⟩ k=bif Nat.ble n (8 ^ d) then k ⟨d,t⟩ else csFit n f ⟨d+1,up undefA d t⟩ k:=fun k=>by rw[← ifb_eq]; rfl
  cases hb:Nat.ble n (8 ^ d) with
  | true=>exact .inr ⟨⟨d,t⟩,fun k=>by rw[hu,hb]; rfl,fun j=>rfl⟩
  | false=>
   rcases csFit_way n f ⟨d+1,up undefA d t⟩ with q | ⟨t',q1,q4⟩
   ·exact .inl fun k=>by rw[hu,hb]; exact q k
   ·refine .inr ⟨t',fun k=>by rw[hu,hb]; exact q1 k,fun j=>?_⟩
    rw[q4 j]
    by_cases hj:j<8 ^ d
    ·have hj':j<8 ^ (d+1):=by rw[Nat.pow_succ]; omega
     rw[Cs.get_lt (t:=⟨d+1,up undefA d t⟩) hj',Cs.get_lt (t:=⟨d,t⟩) hj]
     exact up_get undefA d t j hj
    ·rw[Cs.get_ge (t:=⟨d,t⟩) hj]
     by_cases hj':j<8 ^ (d+1)
     ·rw[Cs.get_lt (t:=⟨d+1,up undefA d t⟩) hj']
      exact up_rest undefA d t j hj
     ·exact Cs.get_ge hj'
def cellsOf(t:Cs)(n:Nat):List AVal:=(List.range n).map fun i=>t.get i
theorem cellsOf_len(t:Cs)(n:Nat):(cellsOf t n).length=n:=by simp[cellsOf]
theorem cellsOf_get(t:Cs)(n i:Nat):(cellsOf t n)[i]?=if i<n then some (t.get i) else none:=by
 unfold cellsOf
 by_cases h:i<n
 ·simp[h]
 ·simp[h]
def FObj.abs:FObj→AObj
 | .cells t n low ro mk=>.cells (cellsOf t n) low ro mk
 | .map es c=>.map es c
 | .iter s p=>.iter s p
def absO:Option FObj→Option AObj
 | some o=>some o.abs
 | none=>none
def FHeap.get(h:FHeap)(b:Nat):Option FObj:=bif Nat.ble (b+1) 32768 then ndGet 5 h.tr b else none
structure HRel(h:FHeap)(H:AHeap):Prop where
 next:h.next=H.next
 lt:h.next≤32768
 at_:∀b,b<32768→absO (h.get b)=H.get b
theorem fget_lt{h:FHeap}{b:Nat}(hb:b<32768):h.get b=ndGet 5 h.tr b:=by
 unfold FHeap.get; rw[Nat.ble_eq_true_of_le hb]; rfl
theorem HRel.set{h:FHeap}{H:AHeap}(Q:HRel h H){b:Nat}(hb:b<32768){o:FObj}{A:AObj}(ho:o.abs=A):HRel ⟨h.next,ndPut 5 h.tr b (some o)⟩ (H.set b A):=by
 refine⟨Q.next,Q.lt,fun c hc=>?_⟩
 rw[AHeap.get_set,fget_lt hc]
 simp only
 rw[nd_get_put 5 _ _ _ _ hb hc]
 split
 ·simp[absO,ho]
 ·rw[← fget_lt hc]; exact Q.at_ c hc
theorem HRel.push{h:FHeap}{H:AHeap}(Q:HRel h H)(hn:h.next<32768){o:FObj}{A:AObj}(ho:o.abs=A):HRel ⟨h.next+1,ndPut 5 h.tr h.next (some o)⟩ (H.push A):=by
 refine⟨by simp only[AHeap.push,Q.next],by simp only; omega,fun c hc=>?_⟩
 rw[AHeap.get_push,fget_lt hc]
 simp only
 rw[nd_get_put 5 _ _ _ _ hn hc,Q.next]
 split
 ·simp[absO,ho]
 ·rw[← fget_lt hc]; exact Q.at_ c hc
def oSome(o:Option FObj)(k:FObj→R):R:=@Option.rec FObj (fun _=>R) .no k o
def hG(h:FHeap)(b:Nat)(k:FObj→R):R:=@FHeap.rec (fun _=>R) (fun _ tr=>(gsel (Option FObj) (nat_lit 5) b).on tr fun o=>oSome o k) h
def hS(h:FHeap)(b:Nat)(o:FObj)(k:FHeap→R):R:=@FHeap.rec (fun _=>R) (fun nx tr=>(ssel (Option FObj) (nat_lit 5) b).on (some o) tr fun tr=>k ⟨nx,tr⟩) h
def hP(h:FHeap)(o:FObj)(k:Nat→FHeap→R):R:=@FHeap.rec (fun _=>R) (fun nx tr=>(ssel (Option FObj) (nat_lit 5) nx).on (some o) tr fun tr=>fN (Nat.succ nx) fun n=>k nx ⟨n,tr⟩) h
theorem hG_way(h:FHeap)(b:Nat):(∀k,hG h b k=.no)∨∃o,b<32768∧h.get b=some o∧∀k,hG h b k=k o:=by
 obtain⟨nx,tr⟩:=h
 rcases gsel_way (α:=Option FObj) 5 b with q | ⟨hb,q⟩
 ·exact .inl fun k=>q _ _
 ·have hb':b<32768:=hb
  have hg:FHeap.get ⟨nx,tr⟩ b=ndGet 5 tr b:=fget_lt hb'
  cases ho:ndGet 5 tr b with
  | none=>exact .inl fun k=>(q _ _).trans (by rw[ho]; rfl)
  | some o=>exact .inr ⟨o,hb',by rw[hg,ho],fun k=>(q _ _).trans (by rw[ho]; rfl)⟩
theorem hS_way{h:FHeap}{H:AHeap}(Q:HRel h H)(b:Nat)(o:FObj){A:AObj}(ho:o.abs=A):(∀k,hS h b o k=.no)∨∃h',(∀k,hS h b o k=k h')∧HRel h' (H.set b A):=by
 rcases ssel_way (α:=Option FObj) 5 b with q | ⟨hb,q⟩
 ·exact .inl fun k=>by cases h; exact q _ _ _
 ·exact .inr ⟨_,fun k=>by cases h; exact q _ _ _,Q.set hb ho⟩
theorem hP_way{h:FHeap}{H:AHeap}(Q:HRel h H)(o:FObj){A:AObj}(ho:o.abs=A):(∀k,hP h o k=.no)∨∃h',(∀k,hP h o k=k H.next h')∧HRel h' (H.push A):=by
 rcases ssel_way (α:=Option FObj) 5 h.next with q | ⟨hb,q⟩
 ·exact .inl fun k=>by cases h; exact q _ _ _
 ·refine .inr ⟨⟨h.next+1,ndPut 5 h.tr h.next (some o)⟩,fun k=>?_,Q.push hb ho⟩
  have e:=Q.next
  rw[← e]
  cases h
  exact (q _ _ _).trans (fN_eq _ _)
def oCells(o:FObj)(k:Cs→Nat→Nat→Bool→Bool→R):R:=@FObj.rec (fun _=>R) k (fun _ _=>.no) (fun _ _=>.no) o
theorem hG_cells{h:FHeap}{H:AHeap}(Q:HRel h H)(b:Nat):(∀k,hG h b (fun o=>oCells o k)=.no)∨∃t n low ro mk,H.get b=some (.cells (cellsOf t n) low ro mk)∧∀k,hG h b (fun o=>oCells o k)=k t n low ro mk:=by
 rcases hG_way h b with q | ⟨o,hb,ho,q⟩
 ·exact .inl fun k=>q _
 ·have e:=Q.at_ b hb
  rw[ho]at e
  cases o with
  | cells t n low ro mk=>exact .inr ⟨t,n,low,ro,mk,e.symm,fun k=>q _⟩
  | map es c=>exact .inl fun k=>q _
  | iter s p=>exact .inl fun k=>q _
def rdL(t:Cs)(o:Nat):Nat→List AVal→(List AVal→R)→R:=@Nat.rec (fun _=>List AVal→(List AVal→R)→R) (fun l k=>k l) (fun j ih l k=>fN (Nat.add o j) fun i=>csG t i fun v=>ih (v::l) k)
theorem rdL_way(t:Cs)(o:Nat):∀(n:Nat) (l:List AVal),(∀k,rdL t o n l k=.no)∨∀k,rdL t o n l k=k ((List.range n).map (fun i=>t.get (o+i))++l)
 | 0,l=>.inr fun k=>rfl
 | n+1,l=>by
  have hu:∀k,rdL t o (n+1) l k=csG t (o+n) fun v=>rdL t o n (v::l) k:=fun k=>by
   have:rdL t o (n+1) l k=fN (Nat.add o n) fun i=>csG t i fun v=>rdL t o n (v::l) k:=rfl
   rw[this,fN_eq]; rfl
  rcases csG_way t (o+n) with q | q
  ·exact .inl fun k=>(hu k).trans (q _)
  ·rcases rdL_way t o n (t.get (o+n)::l) with h | h
   ·exact .inl fun k=>(hu k).trans ((q _).trans (h k))
   ·refine .inr fun k=>(hu k).trans ((q _).trans ?_)
    simp only[h,List.range_succ,List.map_append,List.map_cons,List.map_nil,List.append_assoc,List.singleton_append]
def fRd1(h:FHeap)(a:Ad)(k:AVal→R):R:=@Ad.rec (fun _=>R) (fun b lim o=>hG h b fun ob=>oCells ob fun t n low _ _=>ifb (Nat.ble low lim) (ifb (Nat.ble lim n) (ifb (Nat.ble (Nat.succ o) lim) (csG t o k) .no) .no) .no) a
def fRdN(h:FHeap)(a:Ad)(m:Nat)(k:List AVal→R):R:=@Ad.rec (fun _=>R) (fun b lim o=>hG h b fun ob=>oCells ob fun t n low _ _=>ifb (Nat.ble low lim) (ifb (Nat.ble lim n) (ifb (Nat.ble (Nat.add o m) lim) (rdL t o m [] k) .no) .no) .no) a
theorem take_drop_cells(t:Cs)(n o m:Nat)(h:o+m≤n):((cellsOf t n).drop o).take m=(List.range m).map fun i=>t.get (o+i):=by
 apply List.ext_getElem?
 intro i
 rw[List.getElem?_take]
 by_cases hi:i<m
 ·rw[if_pos hi,List.getElem?_drop,cellsOf_get,if_pos om]
  simp[hi]
 ·rw[if_neg hi]
  simp only[List.getElem?_map,List.getElem?_eq_none (l:=List.range m) (i:=i) (by simp; omega),Option.map_none]
theorem and3{a b c:Bool}{x:R}:ifb a (ifb b (ifb c x .no) .no) .no=bif a&&(b&&c) then x else .no:=by cases a <;> cases b <;> cases c <;> rfl
theorem fRdN_way{h:FHeap}{H:AHeap}(Q:HRel h H)(a:Ad)(m:Nat):Way (fRdN h a m) (rdCells H a m):=by
 obtain⟨b,lim,o⟩:=a
 rcases hG_cells Q b with hk | ⟨t,n,low,ro,mk,hg,hk⟩
 ·exact .inl fun k=>hk _
 ·have hu:∀k,fRdN h ⟨b,lim,o⟩ m k=bif Nat.ble low lim&&(Nat.ble lim n&&Nat.ble (o+m) lim) then rdL t o m [] k else .no:=fun k=>(hk _).trans and3
  have ha:rdCells H ⟨b,lim,o⟩ m=bif Nat.ble low lim&&(Nat.ble lim n&&Nat.ble (o+m) lim) then some (((cellsOf t n).drop o).take m) else none:=by
   simp only[rdCells,hg,cellsOf_len]
  rw[ha]
  cases hb:Nat.ble low lim&&(Nat.ble lim n&&Nat.ble (o+m) lim) with
  | false=>exact .inl fun k=>by rw[hu,hb]; rfl
  | true=>
   rcases rdL_way t o m [] with q | q
   ·exact .inl fun k=>by rw[hu,q,hb]; rfl
   ·refine .inr ⟨_,rfl,fun k=>?_⟩
    simp only[Bool.and_eq_true,Nat.ble_eq]at hb
    rw[hu,q,take_drop_cells _ _ _ _ om,List.append_nil]
    have:(Nat.ble low lim&&(Nat.ble lim n&&Nat.ble (o+m) lim))=true:=by simp only[Bool.and_eq_true,Nat.ble_eq]; omega
    rw[this]; rfl
theorem fRd1_way{h:FHeap}{H:AHeap}(Q:HRel h H)(a:Ad):(∀k,fRd1 h a k=.no)∨∃x,rdCells H a 1=some [x]∧∀k,fRd1 h a k=k x:=by
 obtain⟨b,lim,o⟩:=a
 rcases hG_cells Q b with hk | ⟨t,n,low,ro,mk,hg,hk⟩
 ·exact .inl fun k=>hk _
 ·have hu:∀k,fRd1 h ⟨b,lim,o⟩ k=bif Nat.ble low lim&&(Nat.ble lim n&&Nat.ble (o+1) lim) then csG t o k else .no:=fun k=>(hk _).trans and3
  have ha:rdCells H ⟨b,lim,o⟩ 1=bif Nat.ble low lim&&(Nat.ble lim n&&Nat.ble (o+1) lim) then some (((cellsOf t n).drop o).take 1) else none:=by
   simp only[rdCells,hg,cellsOf_len]
  rw[ha]
  cases hb:Nat.ble low lim&&(Nat.ble lim n&&Nat.ble (o+1) lim) with
  | false=>exact .inl fun k=>by rw[hu,hb]; rfl
  | true=>
   rcases csG_way t o with q | q
   ·exact .inl fun k=>by rw[hu,hb]; exact q k
   ·refine .inr ⟨t.get o,?_,fun k=>by rw[hu,hb]; exact q k⟩
    simp only[Bool.and_eq_true,Nat.ble_eq]at hb
    rw[take_drop_cells _ _ _ _ om]
    simp
def stL:List AVal→Cs→Nat→(Cs→Nat→R)→R:=@List.rec AVal (fun _=>Cs→Nat→(Cs→Nat→R)→R) (fun t i k=>k t i)
 (fun x _ ih t i k=>csS x t i fun t=>fN (Nat.succ i) fun i=>ih t i k)
def sq1:List AVal→Cs→Nat→(Cs→Nat→R)→R:=@List.rec AVal (fun _=>Cs→Nat→(Cs→Nat→R)→R) (fun t i k=>k t i)
 (fun x _ ih t i k=>vOne x (csS x t i fun t=>fN (Nat.succ i) fun i=>ih t i k) .no)
theorem stL_way:∀(xs:List AVal) (t:Cs) (i:Nat),(∀k,stL xs t i k=.no)∨∃t',(∀k,stL xs t i k=k t' (i+xs.length))∧∀j,t'.get j=if i≤j∧j<i+xs.length then (xs[j-i]?).getD undefA else t.get j
 | [],t,i=>.inr ⟨t,fun k=>rfl,fun j=>by rw[if_neg (by simp only[List.length_nil]; omega)]⟩
 | x::xs,t,i=>by
  have hu:∀k,stL (x::xs) t i k=csS x t i fun t=>fN (Nat.succ i) fun i=>stL xs t i k:=fun k=>rfl
  rcases csS_way x t i with q | ⟨t1,h1,h2⟩
  ·exact .inl fun k=>(hu k).trans (q _)
  ·have hu1:∀k,stL (x::xs) t i k=stL xs t1 (i+1) k:=fun k=>by rw[hu,h1,fN_eq]
   rcases stL_way xs t1 (i+1) with q | ⟨t2,h3,h4⟩
   ·exact .inl fun k=>(hu1 k).trans (q k)
   ·refine .inr ⟨t2,fun k=>?_,fun j=>?_⟩
    ·rw[hu1,h3]; congr 1; simp only[List.length_cons]; omega
    ·rw[h4 j,h2 j]
     simp only[List.length_cons]
     by_cases c1:i+1≤j∧j<i+1+xs.length
     ·rw[if_pos c1,if_pos om,show j-i=(j-(i+1))+1 by omega]
      simp
     ·rw[if_neg c1]
      by_cases c2:j=i
      ·subst c2; rw[if_pos rfl,if_pos om]; simp
      ·rw[if_neg c2,if_neg om]
theorem sq1_way:∀(xs:List AVal) (t:Cs) (i:Nat),(∀k,sq1 xs t i k=.no)∨(xs.all AVal.one=true∧∀k,sq1 xs t i k=stL xs t i k)
 | [],t,i=>.inr ⟨rfl,fun k=>rfl⟩
 | x::xs,t,i=>by
  have hu:∀k,sq1 (x::xs) t i k=bif x.one then (csS x t i fun t=>fN (Nat.succ i) fun i=>sq1 xs t i k) else .no:=fun k=>vOne_eq x _ _
  have hs:∀k,stL (x::xs) t i k=csS x t i fun t=>fN (Nat.succ i) fun i=>stL xs t i k:=fun k=>rfl
  cases hx:x.one with
  | false=>exact .inl fun k=>by rw[hu,hx]; rfl
  | true=>
   rw[hx]at hu
   simp only[cond_true]at hu
   rcases csS_way x t i with q | ⟨t1,h1,h2⟩
   ·exact .inl fun k=>(hu k).trans (q _)
   ·rcases sq1_way xs t1 (i+1) with q | ⟨q0,q⟩
    ·exact .inl fun k=>by rw[hu,h1,fN_eq]; exact q k
    ·exact .inr ⟨by simp[hx,q0],fun k=>by rw[hu,hs,h1,h1,fN_eq,fN_eq]; exact q k⟩
def fWrN(h:FHeap)(a:Ad)(xs:List AVal)(k:FHeap→R):R:=
 @Ad.rec (fun _=>R) (fun b lim o=>hG h b fun ob=>oCells ob fun t n low ro mk=>@Bool.rec (fun _=>R) (ifb (Nat.ble low lim) (ifb (Nat.beq lim n) (sq1 xs t o fun t i=>ifb (Nat.ble i lim) (hS h b (.cells t n lim false mk) k) .no) .no) .no) .no ro) a
def fWr1(h:FHeap)(a:Ad)(x:AVal)(k:FHeap→R):R:=
 @Ad.rec (fun _=>R) (fun b lim o=>hG h b fun ob=>oCells ob fun t n low ro mk=>@Bool.rec (fun _=>R) (ifb (Nat.ble low lim) (ifb (Nat.beq lim n) (vOne x (csS x t o fun t=>ifb (Nat.ble (Nat.succ o) lim) (hS h b (.cells t n lim false mk) k) .no) .no) .no) .no) .no ro) a
def WayH(f:(FHeap→R)→R)(r:Option AHeap):Prop:=(∀k,f k=.no)∨∃h' H',r=some H'∧HRel h' H'∧∀k,f k=k h'
theorem splice_cells{t t':Cs}{n o:Nat}{xs:List AVal}(hb:o+xs.length≤n)(ht:∀j,t'.get j=if o≤j∧j<o+xs.length then (xs[j-o]?).getD undefA else t.get j) :
  cellsOf t' n=(cellsOf t n).take o++(xs++(cellsOf t n).drop (o+xs.length)):=by
 apply List.ext_getElem?
 intro i
 rw[cellsOf_get,ht]
 by_cases c1:i<o
 ·rw[List.getElem?_append_left (by simp[cellsOf_len]; omega),List.getElem?_take,if_pos c1,cellsOf_get,if_neg (show ¬(o≤i∧i<o+xs.length) by omega)]
 ·rw[List.getElem?_append_right (by simp[cellsOf_len]; omega)]
  have e:((cellsOf t n).take o).length=o:=by simp[cellsOf_len]; omega
  rw[e]
  by_cases c2:i<o+xs.length
  ·rw[List.getElem?_append_left om,if_pos (show i<n by omega),if_pos (show o≤i∧i<o+xs.length by omega)]
   rw[List.getElem?_eq_getElem om]; rfl
  ·rw[List.getElem?_append_right om,List.getElem?_drop,cellsOf_get,if_neg (show ¬(o≤i∧i<o+xs.length) by omega)]
   rw[show o+xs.length+(i-o-xs.length)=i by omega]
theorem fWrN_way{h:FHeap}{H:AHeap}(Q:HRel h H)(a:Ad)(xs:List AVal):WayH (fWrN h a xs) (wrCells H a xs):=by
 obtain⟨b,lim,o⟩:=a
 rcases hG_cells Q b with hk | ⟨t,n,low,ro,mk,hg,hk⟩
 ·exact .inl fun k=>hk _
 ·cases ro with
  | true=>exact .inl fun k=>hk _
  | false=>
   have hu:∀k,fWrN h ⟨b,lim,o⟩ xs k=bif Nat.ble low lim then (bif Nat.beq lim n then sq1 xs t o (fun t i=>ifb (Nat.ble i lim) (hS h b (.cells t n lim false mk) k) .no) else .no) else .no:=fun k=>by
    refine (hk _).trans ?_
    rw[← ifb_eq,← ifb_eq]
   rcases sq1_way xs t o with q | ⟨hone,q⟩
   ·refine .inl fun k=>?_
    rw[hu,q]
    cases Nat.ble low lim <;> cases Nat.beq lim n <;> rfl
   ·rcases stL_way xs t o with s | ⟨t',s1,s4⟩
    ·refine .inl fun k=>?_
     rw[hu,q,s]
     cases Nat.ble low lim <;> cases Nat.beq lim n <;> rfl
    ·have hv:∀k,fWrN h ⟨b,lim,o⟩ xs k=bif Nat.ble low lim&&(Nat.beq lim n&&(Nat.ble (o+xs.length) lim&&xs.all AVal.one)) then hS h b (.cells t' n lim false mk) k else .no:=fun k=>by
      rw[hu,q,s1,ifb_eq,hone]
      cases Nat.ble low lim <;> cases Nat.beq lim n <;> cases Nat.ble (o+xs.length) lim <;> rfl
     have ha:wrCells H ⟨b,lim,o⟩ xs=bif Nat.ble low lim&&(Nat.beq lim n&&(Nat.ble (o+xs.length) lim&&xs.all AVal.one)) then
       some (H.set b (.cells ((cellsOf t n).take o++(xs++(cellsOf t n).drop (o+xs.length))) lim false mk)) else none:=by
      simp only[wrCells,hg,cellsOf_len]
     rw[ha]
     cases hb:Nat.ble low lim&&(Nat.beq lim n&&(Nat.ble (o+xs.length) lim&&xs.all AVal.one)) with
     | false=>exact .inl fun k=>by rw[hv,hb]; rfl
     | true=>
      have hb':=hb
      simp only[Bool.and_eq_true,Nat.ble_eq,beq_dec,decide_eq_true_eq]at hb'
      rcases hS_way Q b (.cells t' n lim false mk) (A:=.cells ((cellsOf t n).take o++(xs++(cellsOf t n).drop (o+xs.length))) lim false mk) (by
        simp only[FObj.abs]
        rw[splice_cells om s4]) with r | ⟨h',q1,q2⟩
      ·exact .inl fun k=>by rw[hv,hb]; exact r k
      ·exact .inr ⟨h',_,rfl,q2,fun k=>by rw[hv,hb]; exact q1 k⟩
theorem fWr1_way{h:FHeap}{H:AHeap}(Q:HRel h H)(a:Ad)(x:AVal):WayH (fWr1 h a x) (wrCells H a [x]):=by
 have e:∀k,fWr1 h a x k=fWrN h a [x] k:=fun k=>by
  obtain⟨b,lim,o⟩:=a
  rcases hG_cells Q b with hk | ⟨t,n,low,ro,mk,hg,hk⟩
  ·exact (hk _).trans (hk _).symm
  ·refine (hk _).trans (Eq.trans ?_ (hk _).symm)
   cases ro with
   | true=>rfl
   | false=>
    show ifb (Nat.ble low lim) (ifb (Nat.beq lim n) (vOne x (csS x t o fun t=>ifb (Nat.ble (Nat.succ o) lim) (hS h b (.cells t n lim false mk) k) .no) .no) .no) .no =
     ifb (Nat.ble low lim) (ifb (Nat.beq lim n) (vOne x (csS x t o fun t=>fN (Nat.succ o) fun i=>ifb (Nat.ble i lim) (hS h b (.cells t n lim false mk) k) .no) .no) .no) .no
    congr 3
 rcases fWrN_way Q a [x] with q | ⟨h',H',q1,q2,q3⟩
 ·exact .inl fun k=>(e k).trans (q k)
 ·exact .inr ⟨h',H',q1,q2,fun k=>(e k).trans (q3 k)⟩
def cs0:Cs:=⟨nat_lit 0,undefA⟩
def len1:List AVal→Nat→(Nat→R)→R:=@List.rec AVal (fun _=>Nat→(Nat→R)→R) (fun n k=>k n) (fun _ _ ih n k=>fN (Nat.succ n) fun n=>ih n k)
theorem len1_eq:∀(x:List AVal) (n:Nat) (k:Nat→R),len1 x n k=k (x.length+n)
 | [],n,k=>by show k n=_; simp
 | b::x,n,k=>by
  show fN (Nat.succ n) (fun n=>len1 x n k)=_
  rw[fN_eq,len1_eq x]; congr 1; simp only[List.length_cons]; omega
def fNew(h:FHeap)(xs:List AVal)(k:Nat→Nat→FHeap→R):R:=len1 xs (nat_lit 0) fun n=>csFit n (nat_lit 8) cs0 fun t=>stL xs t (nat_lit 0) fun t n=>hP h (.cells t n (nat_lit 0) false) fun b h=>k b n h
def WayN(f:(Nat→Nat→FHeap→R)→R)(H:AHeap)(xs:List AVal):Prop:=(∀k,f k=.no)∨∃h',(∀k,f k=k H.next xs.length h')∧HRel h' (H.push (.cells xs 0 false))
theorem cellsOf_new{t t':Cs}{xs:List AVal}(ht:∀j,t'.get j=if 0≤j∧j<0+xs.length then (xs[j-0]?).getD undefA else t.get j):cellsOf t' xs.length=xs:=by
 apply List.ext_getElem?
 intro i
 rw[cellsOf_get,ht]
 by_cases c:i<xs.length
 ·rw[if_pos c,if_pos om,Nat.sub_zero,List.getElem?_eq_getElem c]; rfl
 ·rw[if_neg c,List.getElem?_eq_none om]
theorem fNew_way{h:FHeap}{H:AHeap}(Q:HRel h H)(xs:List AVal):WayN (fNew h xs) H xs:=by
 have hu:∀k,fNew h xs k=csFit xs.length 8 cs0 fun t=>stL xs t 0 fun t n=>hP h (.cells t n 0 false) fun b h=>k b n h:=fun k=>len1_eq _ _ _
 rcases csFit_way xs.length 8 cs0 with q | ⟨t0,q,_⟩
 ·exact .inl fun k=>(hu k).trans (q _)
 ·rcases stL_way xs t0 0 with s | ⟨t',s1,s2⟩
  ·exact .inl fun k=>(hu k).trans ((q _).trans (s _))
  ·rw[Nat.zero_add]at s1
   rcases hP_way Q (.cells t' xs.length 0 false) (A:=.cells xs 0 false) (by simp only[FObj.abs,cellsOf_new s2]) with r | ⟨h',q1,q2⟩
   ·exact .inl fun k=>(hu k).trans ((q _).trans ((s1 _).trans (r _)))
   ·exact .inr ⟨h',fun k=>(hu k).trans ((q _).trans ((s1 _).trans (q1 _))),q2⟩
def fNewM(h:FHeap)(xs:List AVal)(k:Nat→Nat→FHeap→R):R:=len1 xs (nat_lit 0) fun n=>csFit n (nat_lit 8) cs0 fun t=>stL xs t (nat_lit 0) fun t n=>hP h (.cells t n (nat_lit 0) false true) fun b h=>k b n h
theorem fNewM_way{h:FHeap}{H:AHeap}(Q:HRel h H)(xs:List AVal):(∀k,fNewM h xs k=.no)∨∃h',(∀k,fNewM h xs k=k H.next xs.length h')∧HRel h' (H.push (.cells xs 0 false true)):=by
 have hu:∀k,fNewM h xs k=csFit xs.length 8 cs0 fun t=>stL xs t 0 fun t n=>hP h (.cells t n 0 false true) fun b h=>k b n h:=fun k=>len1_eq _ _ _
 rcases csFit_way xs.length 8 cs0 with q | ⟨t0,q,_⟩
 ·exact .inl fun k=>(hu k).trans (q _)
 ·rcases stL_way xs t0 0 with s | ⟨t',s1,s2⟩
  ·exact .inl fun k=>(hu k).trans ((q _).trans (s _))
  ·rw[Nat.zero_add]at s1
   rcases hP_way Q (.cells t' xs.length 0 false true) (A:=.cells xs 0 false true) (by simp only[FObj.abs,cellsOf_new s2]) with r | ⟨h',q1,q2⟩
   ·exact .inl fun k=>(hu k).trans ((q _).trans ((s1 _).trans (r _)))
   ·exact .inr ⟨h',fun k=>(hu k).trans ((q _).trans ((s1 _).trans (q1 _))),q2⟩
def dFit(n:Nat):Nat→Nat→Nat:=@Nat.rec (fun _=>Nat→Nat) (fun d=>d) (fun _ ih d=>@Bool.rec (fun _=>Nat) (ih (Nat.succ d)) d (Nat.ble n (Nat.pow (nat_lit 8) d)))
def fRep(h:FHeap)(x:AVal)(n:Nat)(k:Nat→FHeap→R):R:=fN (dFit n (nat_lit 8) (nat_lit 0)) fun d=>ifb (Nat.ble n (Nat.pow (nat_lit 8) d)) (hP h (.cells ⟨d,emp x d⟩ n (nat_lit 0) false) k) .no
theorem rep_one(x:AVal):∀n:Nat,(rep [x] n)=List.replicate n x
 | 0=>rfl
 | n+1=>by simp only[rep,rep_one x n,List.replicate_succ,List.singleton_append]
theorem fRep_way{h:FHeap}{H:AHeap}(Q:HRel h H)(x:AVal)(n:Nat):(∀k,fRep h x n k=.no)∨∃h',(∀k,fRep h x n k=k H.next h')∧HRel h' (H.push (.cells (rep [x] n) 0 false)):=by
 have hu:∀k,fRep h x n k=bif Nat.ble n (8 ^ dFit n 8 0) then hP h (.cells ⟨dFit n 8 0,emp x (dFit n 8 0)⟩ n 0 false) k else .no:=fun k=>(fN_eq _ _).trans (by rw[ifb_eq]; rfl)
 generalize dFit n 8 0=d at hu
 cases hb:Nat.ble n (8 ^ d) with
 | false=>exact .inl fun k=>by rw[hu,hb]; rfl
 | true=>
  have hn:=Nat.le_of_ble_eq_true hb
  rcases hP_way Q (.cells ⟨d,emp x d⟩ n 0 false) (A:=.cells (rep [x] n) 0 false) (by
   simp only[FObj.abs]
   congr 1
   apply List.ext_getElem?
   intro i
   rw[cellsOf_get,rep_one,List.getElem?_replicate]
   by_cases c:i<n
   ·rw[if_pos c,if_pos c,Cs.get_lt (t:=⟨d,emp x d⟩) (show i<8 ^ d by omega)]
    simp only[emp_get]
   ·rw[if_neg c,if_neg c]) with r | ⟨h',q1,q2⟩
  ·exact .inl fun k=>by rw[hu,hb]; exact r k
  ·exact .inr ⟨h',fun k=>by rw[hu,hb]; exact q1 k,q2⟩
def fGrow(h:FHeap)(a:Ad)(p:Nat)(xs:List AVal)(k:FHeap→R):R:=
 @Ad.rec (fun _=>R) (fun b lim o=>hG h b fun ob=>oCells ob fun t n low ro mk=>@Bool.rec (fun _=>R) (ifb (Nat.ble low lim) (ifb (Nat.beq lim n) (ifb (Nat.ble p lim) (ifb (Nat.ble o p)
  (len1 xs p fun m=>csFit m (nat_lit 8) t fun t=>sq1 xs t p fun t i=>ifb (Nat.ble (Nat.succ lim) i) (hS h b (.cells t i (@Bool.rec (fun _=>Nat) i low (Nat.beq p lim)) false mk) k) .no) .no) .no) .no) .no) .no ro) a
theorem grow_cells{t t':Cs}{n p:Nat}{xs:List AVal}(hp:p≤n)(ht:∀j,t'.get j=if p≤j∧j<p+xs.length then (xs[j-p]?).getD undefA else t.get j) :
  cellsOf t' (p+xs.length)=(cellsOf t n).take p++xs:=by
 apply List.ext_getElem?
 intro i
 rw[cellsOf_get,ht]
 by_cases c1:i<p
 ·rw[List.getElem?_append_left (by simp[cellsOf_len]; omega),List.getElem?_take,if_pos c1,cellsOf_get,if_neg (show ¬(p≤i∧i<p+xs.length) by omega),if_pos (show i<p+xs.length by omega),if_pos (show i<n by omega)]
 ·rw[List.getElem?_append_right (by simp[cellsOf_len]; omega)]
  have e:((cellsOf t n).take p).length=p:=by simp[cellsOf_len]; omega
  rw[e]
  by_cases c2:i<p+xs.length
  ·rw[if_pos c2,if_pos om,List.getElem?_eq_getElem om]; rfl
  ·rw[if_neg c2,List.getElem?_eq_none om]
theorem fGrow_way{h:FHeap}{H:AHeap}(Q:HRel h H)(a:Ad)(p:Nat)(xs:List AVal):WayH (fGrow h a p xs) (growCells H a p xs):=by
 obtain⟨b,lim,o⟩:=a
 rcases hG_cells Q b with hk | ⟨t,n,low,ro,mk,hg,hk⟩
 ·exact .inl fun k=>hk _
 ·cases ro with
  | true=>exact .inl fun k=>hk _
  | false=>
   have hu:∀k,fGrow h ⟨b,lim,o⟩ p xs k=bif Nat.ble low lim then (bif Nat.beq lim n then (bif Nat.ble p lim then (bif Nat.ble o p then (csFit (xs.length+p) 8 t fun t=>sq1 xs t p fun t i=>ifb (Nat.ble (Nat.succ lim) i) (hS h b (.cells t i (@Bool.rec (fun _=>Nat) i low (Nat.beq p lim)) false mk) k) .no) else .no) else .no) else .no) else .no:=fun k=>by
    refine (hk _).trans ?_
    rw[← ifb_eq,← ifb_eq,← ifb_eq,← ifb_eq,← len1_eq xs p fun m=>csFit m 8 t fun t=>sq1 xs t p fun t i=>ifb (Nat.ble (Nat.succ lim) i) (hS h b (.cells t i (@Bool.rec (fun _=>Nat) i low (Nat.beq p lim)) false mk) k) .no]
   rcases csFit_way (xs.length+p) 8 t with q | ⟨t0,q0,q0'⟩
   ·refine .inl fun k=>?_
    rw[hu,q]
    cases Nat.ble low lim <;> cases Nat.beq lim n <;> cases Nat.ble p lim <;> cases Nat.ble o p <;> rfl
   ·rcases sq1_way xs t0 p with q | ⟨hone,q⟩
    ·refine .inl fun k=>?_
     rw[hu,q0,q]
     cases Nat.ble low lim <;> cases Nat.beq lim n <;> cases Nat.ble p lim <;> cases Nat.ble o p <;> rfl
    ·rcases stL_way xs t0 p with s | ⟨t',s1,s2⟩
     ·refine .inl fun k=>?_
      rw[hu,q0,q,s]
      cases Nat.ble low lim <;> cases Nat.beq lim n <;> cases Nat.ble p lim <;> cases Nat.ble o p <;> rfl
     ·have hl:(@Bool.rec (fun _=>Nat) (p+xs.length) low (Nat.beq p lim))=bif Nat.beq p lim then low else p+xs.length:=by cases Nat.beq p lim <;> rfl
      have hv:∀k,fGrow h ⟨b,lim,o⟩ p xs k=bif Nat.ble low lim&&(Nat.beq lim n&&(Nat.ble p lim&&(Nat.ble o p&&(Nat.ble (lim+1) (p+xs.length)&&xs.all AVal.one)))) then
        hS h b (.cells t' (p+xs.length) (bif Nat.beq p lim then low else p+xs.length) false mk) k else .no:=fun k=>by
       rw[hu,q0,q,s1,hl,ifb_eq,hone]
       cases Nat.ble low lim <;> cases Nat.beq lim n <;> cases Nat.ble p lim <;> cases Nat.ble o p <;> cases Nat.ble (Nat.succ lim) (p+xs.length) <;> rfl
      have ha:growCells H ⟨b,lim,o⟩ p xs=bif Nat.ble low lim&&(Nat.beq lim n&&(Nat.ble p lim&&(Nat.ble o p&&(Nat.ble (lim+1) (p+xs.length)&&xs.all AVal.one)))) then
        some (H.set b (.cells ((cellsOf t n).take p++xs) (bif Nat.beq p lim then low else p+xs.length) false mk)) else none:=by
       simp only[growCells,hg,cellsOf_len]
      rw[ha]
      cases hb:Nat.ble low lim&&(Nat.beq lim n&&(Nat.ble p lim&&(Nat.ble o p&&(Nat.ble (lim+1) (p+xs.length)&&xs.all AVal.one)))) with
      | false=>exact .inl fun k=>by rw[hv,hb]; rfl
      | true=>
       have hb':=hb
       simp only[Bool.and_eq_true,Nat.ble_eq,beq_dec,decide_eq_true_eq]at hb'
       rcases hS_way Q b (.cells t' (p+xs.length) (bif Nat.beq p lim then low else p+xs.length) false mk) (A:=.cells ((cellsOf t n).take p++xs) (bif Nat.beq p lim then low else p+xs.length) false mk) (by
        simp only[FObj.abs]
        rw[grow_cells (t:=t) (n:=n) om (fun j=>by rw[s2,q0'])]) with r | ⟨h',q1,q2⟩
       ·exact .inl fun k=>by rw[hv,hb]; exact r k
       ·exact .inr ⟨h',_,rfl,q2,fun k=>by rw[hv,hb]; exact q1 k⟩
end
end Go.Abs.F
