/- Part of a proof (A8 A8b A8c A8d A8e A8f A8h A9); no condition. -/
import Derived.Laws.BytesString
import Derived.Lib.ConvBytes
import Derived.Lib.Bytealg
import Derived.Laws.Externs
import Derived.Laws.Small
import Derived.Laws.StructEq
import Derived.Lib.OthersKept
import Derived.ChangeKeysEq
import Derived.Laws.Sem
import Derived.MapKept
import Derived.Carry
import Derived.Test.YteabnpheoiakdaaGreatDoorP1
set_option linter.unusedSimpArgs false
set_option linter.unusedVariables false
set_option linter.defProp false
set_option linter.unnecessarySimpa false
namespace Go.Abs
section
variable {P:Program} {Prot:Gh} {w0:World} {ρ:Pl} {H H':aa} {w:World}
def uj(k:IntKind):ae->Option ae
 | .int _ n=>some (.int k (Nh k n))
 |_=>none
def OS{src dst:TypeId}{k:IntKind}{d:TypeDesc}(hs:P.underlying src=some d)(hu:P.underlying dst=some (.int k)){x y:ae}{v:Value}(hx:ar ρ x v)(h:uj k x=some y)(w:World) :
  ∃u,(convert src dst v).run P w=.ok u w/\ar ρ y u:=by
 unfold uj at h;simp only[mX]at h;split at h
 ·rename_i k' n;simp only[sJ]at h;subst h;simp only[ar]at hx;subst hx;exact⟨.int k (k.wrap n),by cases d<;>simp[convert,run_underlying hs,run_underlying hu,Conv.intToInt],rfl⟩
 ·simp at h
def RZ(H:aa):ae->Option (ae×aa)
 | .str s=>some (.slice (some ⟨H.next,s.length,0⟩) s.length (.open_ 1),H.push (.cells (s.map λb=>.int .u8 b.toNat) 0 false true))
 |_=>none
def Ua(R:cX Prot w0 ρ H w){src dst e:TypeId}{d:TypeDesc}(hs:P.underlying src=some d)(hd:P.underlying dst=some (.slice e))(he:P.underlying e=some (.int .u8))
  {x y:ae} {v:Value} (hx:ar ρ x v) (h:RZ H x=some (y,H')):jl P Prot w0 ρ w (convert src dst v) y H':=by
 unfold RZ at h;split at h
 ·rename_i s;simp only[sJ,pJ]at h;obtain⟨rfl,rfl⟩:=h;simp only[ar]at hx;subst hx;have hrun:=Lib.run_convert_string_bytes (P:=P) w src dst e (bV s) hs hd he;have e2:(bV s).size=s.length:=by simp[bV,ByteArray.size]
  rw[e2]at hrun;have hcap:s.length<=grownCap w s.length 0 e:=by simp only[grownCap,Question.cut];omega
  have hsz:(Lib.bytesCells w e (bV s)).size=grownCap w s.length 0 e:=by have:(bV s).data.size=s.length:=e2;simp only[Lib.bytesCells,Array.size_append,Array.size_map,this,e2,Array.size_replicate];omega
  have hlen:(s.map λb=>(ae.int .u8 b.toNat)).length=s.length:=by simp
  obtain⟨h1,h2⟩:=R.push' (w':=Lib.bytesWorld w e (bV s)) rfl rfl rfl (Lib.bytesWorld_size _ _ _) (λi hi=>Lib.bytesWorld_at_old _ _ _ _ hi)
   (x:=.cells (s.map λb=>.int .u8 b.toNat) 0 false true) (o:=.cells (Lib.bytesCells w e (bV s)) e ((Lib.bytesCells w e (bV s)).size,(Lib.bytesCells w e (bV s)).size+1))
   (lim:=s.length) (n:=grownCap w s.length 0 e) (cl:=false) (Lib.bytesWorld_at_new _ _ _) (by simp only[gM];refine⟨_,_,_,_,rfl,hsz,λ_=>⟨λi hi=>om,by simp,by simp⟩,by simp,λ_ i i1 i2=>?_⟩;simp only at i1;have hb:s[i]?=some s[i]:=Xx i2;refine⟨.int .u8 (s[i]).toNat,.int .u8 (s[i]).toNat,by simp[hb],?_,rfl⟩;simp only[Lib.bytesCells];rw[Array.getElem?_append_left (by simp[bV];omega)];simp[bV,hb]) rfl
  refine⟨_,_,_,h1,hrun,h2,?_⟩;simp only[ar];refine⟨_,iW _ _ _ _,Nat.zero_le _,?_⟩;exact⟨grownCap w s.length 0 e,0,rfl,hcap,om,.inl ⟨by simp,by simp only;omega,by simp only;omega⟩⟩
 ·simp at h
def bytesOf:List ae->Option (List UInt8)
 | []=>some []
 | .int .u8 n::r=>match bytesOf r with
  |some l=>some (UInt8.ofNat n.toNat::l)
  |none=>none
 |_::_=>none
def FI:∀{xs:List ae} {vs:List Value} {l:List UInt8},aE ρ xs vs->bytesOf xs=some l->∃ns:List Int,vs=ns.map (Value.int .u8)/\l=ns.map λn=>UInt8.ofNat n.toNat:=by
 intro xs;induction xs with
 |nil=>intro vs l h1 h2;simp only[aE]at h1;subst h1;simp only[bytesOf,sJ]at h2;subst h2;exact⟨[],rfl,rfl⟩
 |cons x xs ih=>
  intro vs l h1 h2;simp only[aE]at h1;obtain⟨v,r,rfl,hv,hr⟩:=h1;unfold bytesOf at h2;split at h2
  ·rename_i heq;simp at heq
  ·rename_i n r' heq;simp only[List.cons.injEq]at heq;obtain⟨rfl,rfl⟩:=heq;split at h2
   ·rename_i l' hl';simp only[sJ]at h2;subst h2;obtain⟨ns,rfl,rfl⟩:=ih hr hl';simp only[ar]at hv;subst hv;exact⟨n::ns,rfl,rfl⟩
   ·simp at h2
  ·simp at h2
def EX(ns:List Int):∀s:ByteArray,(ns.foldl (λr n=>r.push (UInt8.ofNat n.toNat)) s).data.toList=s.data.toList++ns.map λn=>UInt8.ofNat n.toNat:=by
 induction ns with
 |nil=>intro s;simp
 |cons n ns ih=>intro s;simp only[List.foldl_cons,ih,List.map_cons];simp[ByteArray.push]
def FX(H:aa):ae->Option ae
 | .slice none _ _=>some (.str [])
 | .val (.slice (some _) 0 0)=>some (.str [])
 | .slice (some a) n _=>match bH H a n with
  |some xs=>match bytesOf xs with
   |some l=>some (.str l)
   |none=>none
  |none=>none
 |_=>none
def Vl(R:cX Prot w0 ρ H w){src dst e:TypeId}(hs:P.underlying src=some (.slice e))(he:P.underlying e=some (.int .u8))(hd:P.underlying dst=some .string)
  {x y:ae} {v:Value} (hx:ar ρ x v) (h:FX H x=some y):∃u,(convert src dst v).run P w=.ok u w/\ar ρ y u:=by
 unfold FX at h;split at h
 ·simp only[sJ]at h;subst h;simp only[ar]at hx;obtain⟨_,_,rfl⟩:=hx;refine⟨.string ByteArray.empty,?_,by simp only[ar];rfl⟩;rw[run_convert_bytes_string w src dst e none 0 0 hs he hd];rfl
 ·simp only[sJ]at h;subst h;simp only[ar]at hx;obtain⟨rfl,_⟩:=hx;refine⟨.string ByteArray.empty,?_,by simp only[ar];rfl⟩;rw[run_convert_bytes_string w src dst e _ 0 0 hs he hd];exact run_bytesToString w _ 0 0 [] rfl
 ·rename_i a n r;split at h
  ·rename_i xs hxs;split at h
   ·rename_i l hl;simp only[sJ]at h;subst h;obtain⟨L,off,c,h1,h2,rfl,h3,h4⟩:=iD hx;obtain⟨vs,q1,q2,q3⟩:=sI (P:=P) R hxs h1 h2;obtain⟨ns,e1,rfl⟩:=FI q2 hl;have hvs:vs=(ns.map (Value.int .u8)).toArray:=by rw[<- e1]
    refine⟨.string (ns.foldl (λr n=>r.push (UInt8.ofNat n.toNat)) ByteArray.empty),?_,?_⟩
    ·rw[run_convert_bytes_string w src dst e _ _ _ hs he hd];refine run_bytesToString w _ n c ns ?_;by_cases hn:n=0
     ·subst hn;have:vs=#[]:=by simpa using q3
      rw[<- hvs,this];rfl
     ·have:=h4 om;subst this;rw[<- hvs];exact q1
    ·simp only[ar];congr 1;have:=EX ns ByteArray.empty;unfold bV;cases hx:ns.foldl (λr n=>r.push (UInt8.ofNat n.toNat)) ByteArray.empty with|mk d=>rw[hx]at this;congr 1;exact Array.toList_inj.1 (by simpa using this)
   ·simp at h
  ·simp at h
 ·simp at h
def MQ(op:UnOp):ae->Option ae
 | .int k n=>match op with
  | .neg=>some (.int k (Nh k (0-n)))
  | .xor=>some (.int k (k.wrap (BitVec.ofInt k.bits (if k.signed then -1 else k.max) ^^^ BitVec.ofInt k.bits n).toNat))
  |_=>none
 | .bool b=>match op with
  | .not=>some (.bool (!b))
  |_=>none
 |_=>none
def T7{op:UnOp}{x y:ae}{v:Value}(hx:ar ρ x v)(h:MQ op x=some y)(w:World):∃u,(Op.unary op v).run P w=.ok u w/\ar ρ y u:=by
 unfold MQ at h;simp only[mX]at h;split at h
 ·simp only[ar]at hx;subst hx;split at h<;>simp only[sJ,reduceCtorEq]at h
  all_goals
   subst h;exact⟨_,by simp[Op.unary,Op.intArith,Op.intBits],rfl⟩
 ·simp only[ar]at hx;subst hx;split at h<;>simp only[sJ,reduceCtorEq]at h;subst h;exact⟨_,rfl,rfl⟩
 ·simp at h
end
end Go.Abs
namespace Go.Abs
section
variable {P:Program} {ρ:Pl} {w:World}
inductive Ps where
 |bool|ptr|slice|map|func|iface (const:Bool)
def ge:Ps->ae->ae->Option Bool
 | .bool,.bool a,.bool b=>some (a==b)
 | .ptr,.ptr none,.ptr none=>some true
 | .ptr,.ptr none,.ptr (some _)=>some false
 | .ptr,.ptr (some _),.ptr none=>some false
 | .ptr,.ptr (some a),.ptr (some b)=>bif Nat.beq a.b b.b&&Nat.beq a.lim b.lim then some (Nat.beq a.o b.o)else none
 | .slice,.slice none _ _,.slice none _ _=>some true
 | .slice,.slice none _ _,.slice (some _) _ _=>some false
 | .slice,.slice (some _) _ _,.slice none _ _=>some false
 | .map,.map none,.map none=>some true
 | .map,.map none,.map (some _)=>some false
 | .map,.map (some _),.map none=>some false
 | .func,.nilFunc,.nilFunc=>some true
 | .func,.nilFunc,.func _ _ _=>some false
 | .func,.func _ _ _,.nilFunc=>some false
 | .iface _,.nilIface,.iface _ _=>some false
 | .iface _,.iface _ _,.nilIface=>some false
 | .iface c,.nilIface,.nilIface=>bif c then some true else none
 |_,_,_=>none
def Q8:Operand->Bool
 | .const _=>true
 |_=>false
def ue(P:Program)(t:TypeId)(x y:Operand):Option Ps:=
 match P.underlying t with
 |some .bool=>some .bool
 |some (.pointer e)=>match ef P e with
  |some (_,n)=>bif Nat.beq n 0 then none else some .ptr
  |none=>none
 |some (.slice _)=>some .slice
 |some (.map _ _)=>some .map
 |some (.func _ _ _)=>some .func
 |some (.interface _)=>some (.iface (Q8 x||Q8 y))
 |_=>none
def kA{a:Option Ad}{n:Nat}{r:xj}{v:Value}(h:ar ρ (.slice a n r) v):∃b m c,v=.slice b m c/\b.isNone=a.isNone:=by
 cases a with
 |none=>simp only[ar]at h;exact⟨none,0,0,h.2.2,rfl⟩
 |some a=>obtain⟨_,_,_,_,_,h3,_⟩:=iD h;exact⟨_,_,_,h3,rfl⟩
def Fh{t:TypeId}{x y:Operand}{k:Ps}(hk:ue P t x y=some k){p q:ae}{u v:Value}(hp:ar ρ p u)(hq:ar ρ q v){b:Bool}(h:ge k p q=some b)(d:Nat):(Op.equalIn (d+1) t u v).run P w=.ok b w:=by
 unfold ue at hk;split at hk
 ·rename_i hu;simp only[sJ]at hk;subst hk;cases p<;>cases q<;>simp only[ge,sJ,reduceCtorEq]at h;simp only[ar]at hp hq;subst hp hq h;simp[Op.equalIn,run_underlying hu]
 ·rename_i e hu;split at hk
  ·rename_i g n hn;cases hb:Nat.beq n 0 with
   |true=>rw[hb]at hk;simp at hk
   |false=>
    rw[hb]at hk;simp only[cond_false,sJ]at hk;subst hk;have hn0:n≠0:=λe=>by rw[e]at hb;simp at hb
    have hs:=(eB hn).size;cases p<;>cases q<;>simp only[ge,sJ,reduceCtorEq]at h;rename_i a c;cases a with
    |none=>
     simp only[ar]at hp;subst hp;cases c with
     |none=>simp only[ar]at hq;subst hq;simp only[ge,sJ]at h;subst h;simp[Op.equalIn,run_underlying hu]
     |some c=>simp only[ar]at hq;obtain⟨L,_,_,rfl⟩:=hq;simp only[ge,sJ]at h;subst h;simp[Op.equalIn,run_underlying hu]
    |some a=>
     simp only[ar]at hp;obtain⟨L,l1,l2,rfl⟩:=hp;cases c with
     |none=>simp only[ar]at hq;subst hq;simp only[ge,sJ]at h;subst h;simp[Op.equalIn,run_underlying hu]
     |some c=>
      simp only[ar]at hq;obtain⟨M,m1,m2,rfl⟩:=hq;simp only[ge]at h;cases hg:(Nat.beq a.b c.b&&Nat.beq a.lim c.lim)with
      |false=>rw[hg]at h;simp at h
      |true=>
       rw[hg]at h;simp only[XA]at hg;simp only[cond_true,sJ]at h;subst h;rw[XF hg.1,XF hg.2,m1]at l1;obtain rfl:=(sJ _ _).mp l1;have e:((⟨M.c,a.o-M.sh,none⟩:Addr)==⟨M.c,c.o-M.sh,none⟩)=Nat.beq a.o c.o:=by
        rw[ch];have:((⟨M.c,a.o-M.sh,none⟩:Addr)==⟨M.c,c.o-M.sh,none⟩)=decide ((⟨M.c,a.o-M.sh,none⟩:Addr)=⟨M.c,c.o-M.sh,none⟩):=by by_cases h:(⟨M.c,a.o-M.sh,none⟩:Addr)=⟨M.c,c.o-M.sh,none⟩<;>simp[h]
        rw[this];congr 1;simp only[Addr.mk.injEq,true_and,and_true,eq_iff_iff];omega
       simp[Op.equalIn,run_underlying hu,hs,hn0,sameAddr,e]
  ·simp at hk
 ·rename_i e hu;simp only[sJ]at hk;subst hk;cases p<;>cases q<;>simp only[ge,sJ,reduceCtorEq]at h;rename_i a n r c m s;obtain⟨b1,m1,c1,rfl,e1⟩:=kA hp;obtain⟨b2,m2,c2,rfl,e2⟩:=kA hq;cases a<;>cases c<;>cases b1<;>cases b2<;>simp only[Option.isNone_none,Option.isNone_some,reduceCtorEq,XJ,Bool.true_eq_false]at e1 e2<;>
   simp only[ge,sJ,reduceCtorEq]at h<;>subst h<;>simp[Op.equalIn,run_underlying hu]
 ·rename_i e1 e2 hu;simp only[sJ]at hk;subst hk;cases p<;>cases q<;>simp only[ge,sJ,reduceCtorEq]at h;rename_i a c;cases a<;>cases c<;>simp only[ar]at hp hq<;>simp only[ge,sJ,reduceCtorEq]at h
  ·subst hp hq h;simp[Op.equalIn,run_underlying hu]
  ·obtain⟨_,_,rfl⟩:=hq;subst hp h;simp[Op.equalIn,run_underlying hu]
  ·obtain⟨_,_,rfl⟩:=hp;subst hq h;simp[Op.equalIn,run_underlying hu]
 ·rename_i e1 e2 e3 hu;simp only[sJ]at hk;subst hk;cases p<;>cases q<;>simp only[ge,sJ,reduceCtorEq]at h<;>simp only[ar]at hp hq
  ·obtain⟨_,_,rfl,_⟩:=hp;subst hq h;simp[Op.equalIn,run_underlying hu]
  ·obtain⟨_,_,rfl,_⟩:=hq;subst hp h;simp[Op.equalIn,run_underlying hu]
  ·subst hp hq h;simp[Op.equalIn,run_underlying hu]
 ·rename_i e hu;simp only[sJ]at hk;subst hk;cases p<;>cases q<;>simp only[ge,sJ,reduceCtorEq]at h<;>simp only[ar]at hp hq
  ·obtain⟨_,rfl,_⟩:=hp;subst hq h;simp[Op.equalIn,run_underlying hu]
  ·obtain⟨_,rfl,_⟩:=hq;subst hp h;simp[Op.equalIn,run_underlying hu]
  ·subst hp hq;cases hc:(Q8 x||Q8 y)with
   |false=>rw[hc]at h;simp[ge]at h
   |true=>rw[hc]at h;simp only[ge,cond_true,sJ]at h;subst h;simp[Op.equalIn,run_underlying hu]
 ·simp at hk
def LO{t:TypeId}{x y:Operand}{k:Ps}(hk:ue P t x y=some k){p q:ae}{u v:Value}(hp:ar ρ p u)(hq:ar ρ q v){b:Bool}(h:ge k p q=some b):(Op.equal t u v).run P w=.ok b w:=Fh hk hp hq h 9999
def ON{k:Ps}{p q:ae}{u v:Value}(hp:ar ρ p u)(hq:ar ρ q v){b:Bool}(h:ge k p q=some b)(t:TypeId) :
  binOp .eql t u v=(do pure (.bool (<- Op.equal t u v)))/\binOp .neq t u v=(do pure (.bool (!(<- Op.equal t u v)))):=by
 cases p with
 |bool a=>simp only[ar]at hp;subst hp;cases v<;>exact⟨rfl,rfl⟩
 |int=>cases k<;>simp[ge]at h
 |str=>cases k<;>simp[ge]at h
 |agg=>cases k<;>simp[ge]at h
 |tuple=>cases k<;>simp[ge]at h
 |val=>cases k<;>simp[ge]at h
 |ptr a=>cases a<;>simp only[ar]at hp<;>first|(subst hp;cases v<;>exact⟨rfl,rfl⟩)|(obtain⟨_,_,_,rfl⟩:=hp;cases v<;>exact⟨rfl,rfl⟩)
 |slice a n r=>obtain⟨_,_,_,rfl,_⟩:=kA hp;cases v<;>exact⟨rfl,rfl⟩
 |map a=>cases a<;>simp only[ar]at hp<;>first|(subst hp;cases v<;>exact⟨rfl,rfl⟩)|(obtain⟨_,_,rfl⟩:=hp;cases v<;>exact⟨rfl,rfl⟩)
 |func=>simp only[ar]at hp;obtain⟨_,_,rfl,_⟩:=hp;cases v<;>exact⟨rfl,rfl⟩
 |nilFunc=>simp only[ar]at hp;subst hp;cases v<;>exact⟨rfl,rfl⟩
 |iface=>simp only[ar]at hp;obtain⟨_,rfl,_⟩:=hp;cases v<;>exact⟨rfl,rfl⟩
 |nilIface=>simp only[ar]at hp;subst hp;cases v<;>exact⟨rfl,rfl⟩
def yU{k:Ps}{p q:ae}{u v:Value}{x y:Operand}{t:TypeId}(hk:ue P t x y=some k)(hp:ar ρ p u)(hq:ar ρ q v){b:Bool}(h:ge k p q=some b)(op:BinOp) :
  (eqGuard op t x y u v).run P w=.ok () w:=by
 cases p with
 |bool a=>simp only[ar]at hp;subst hp;cases op<;>rfl
 |int=>cases k<;>simp[ge]at h
 |str=>cases k<;>simp[ge]at h
 |agg=>cases k<;>simp[ge]at h
 |tuple=>cases k<;>simp[ge]at h
 |val=>cases k<;>simp[ge]at h
 |ptr a=>cases a<;>simp only[ar]at hp<;>first|(subst hp;cases op<;>rfl)|(obtain⟨_,_,_,rfl⟩:=hp;cases op<;>rfl)
 |slice a n r=>obtain⟨_,_,_,rfl,_⟩:=kA hp;cases op<;>rfl
 |map a=>cases a<;>simp only[ar]at hp<;>first|(subst hp;cases op<;>rfl)|(obtain⟨_,_,rfl⟩:=hp;cases op<;>rfl)
 |func=>simp only[ar]at hp;obtain⟨_,_,rfl,_⟩:=hp;cases op<;>rfl
 |nilFunc=>simp only[ar]at hp;subst hp;cases op<;>rfl
 |iface=>simp only[ar]at hp;obtain⟨_,rfl,_⟩:=hp;cases op<;>rfl
 |nilIface=>
  simp only[ar]at hp;subst hp;cases q with
  |nilIface=>
   simp only[ar]at hq;subst hq;cases k with
   |iface c=>
    cases c with
    |false=>simp[ge]at h
    |true=>
     have hc:(Q8 x||Q8 y)=true:=by
      unfold ue at hk;split at hk<;>first|(simp at hk;done)|skip
      ·split at hk<;>first|(simp at hk;done)|skip
       rename_i n _;cases hb:Nat.beq n 0<;>rw[hb]at hk<;>simp at hk
      ·simpa using hk
     clear hk;cases op<;>first|rfl|(cases x<;>cases y<;>first|rfl|(simp[Q8]at hc))
   |_=>simp[ge]at h
  |iface=>simp only[ar]at hq;obtain⟨_,rfl,_⟩:=hq;cases op<;>rfl
  |_=>cases k<;>simp[ge]at h
def LN{op:BinOp}(ho:op=.eql∨op=.neq){t:TypeId}{x y:Operand}{k:Ps}(hk:ue P t x y=some k){p q:ae}{u v:Value}(hp:ar ρ p u)(hq:ar ρ q v){b:Bool}(h:ge k p q=some b) :
  (do eqGuard op t x y u v;binOp op t u v:Sem Value).run P w=.ok (.bool (match op with | .eql=>b|_=>!b)) w:=by
 have he:=LO (w:=w) hk hp hq h;obtain⟨e1,e2⟩:=ON hp hq h t;rcases ho with rfl|rfl
 ·simp only[Sem.run_bind,yU hk hp hq h,Result.andThen_ok,e1,he];rfl
 ·simp only[Sem.run_bind,yU hk hp hq h,Result.andThen_ok,e2,he];rfl
end
end Go.Abs
namespace Go.Abs
section
variable {P:Program} {ρ:Pl} {w:World}
inductive FK where
 |int|str|bool
def OM:ae->ae->Option Bool
 | .int k a,.int k' b=>if k=k' then some (Nj a b)else none
 |_,_=>none
def Un:ae->ae->Option Bool
 | .str a,.str b=>some (a==b)
 |_,_=>none
def Uo:ae->ae->Option Bool
 | .bool a,.bool b=>some (a==b)
 |_,_=>none
def So:FK->ae->ae->Option Bool
 | .int,x,y=>OM x y
 | .str,x,y=>Un x y
 | .bool,x,y=>Uo x y
def eZ:List (Nat×FK)->List ae->List ae->Option Bool
 | [],_,_=>some true
 |(o,k)::r,l,m=>match l[o]?,m[o]? with
  |some x,some y=>match So k x y with
   |some true=>eZ r l m
   |some false=>some false
   |none=>none
  |_,_=>none
def Jc(P:Program)(t:TypeId):Option FK:=
 match P.underlying t with
 |some (.int _)=>some .int
 |some .string=>some .str
 |some .bool=>some .bool
 |_=>none
def wE(P:Program):List Field->Option (List (Nat×FK))
 | []=>some []
 | f::r => bif f.name == "_" then none else match Jc P f.type, ef P f.type, wE P r with
  |some k,some (false,_),some l=>some ((f.offset,k)::l)
  |_,_,_=>none
def LP(P:Program)(t:TypeId):Option (List (Nat×FK)):=
 match P.underlying t with
 |some (.struct fs)=>bif P.stoodInHeld t||P.eqGuardType P.depth t then none else wE P fs.toList
 |_=>none
def sD(a b:List UInt8):(bV a==bV b)=(a==b):=by
 have:(bV a==bV b)=(a.toArray==b.toArray):=rfl;rw[this];by_cases h:a=b
 ·subst h;simp
 ·have:a.toArray≠b.toArray:=λe=>h (by simpa using congrArg Array.toList e);simp[h]
def tn{t:TypeId}{k:FK}(hk:Jc P t=some k){x y:ae}{u v:Value}(hx:ar ρ x u)(hy:ar ρ y v){b:Bool}(h:So k x y=some b)(d:Nat):(Op.equalIn (d+1) t u v).run P w=.ok b w:=by
 unfold Jc at hk;split at hk<;>simp only[sJ,reduceCtorEq]at hk<;>subst hk<;>rename_i hu<;>simp only[So]at h
 ·unfold OM at h;split at h
  ·rename_i k' a k'' b';split at h
   ·rename_i hkk;simp only[sJ]at h;simp only[ar]at hx hy;subst hx hy h hkk;simp[Op.equalIn,run_underlying hu,gd]
   ·simp at h
  ·simp at h
 ·unfold Un at h;split at h
  ·simp only[sJ]at h;simp only[ar]at hx hy;subst hx hy h;simp[Op.equalIn,run_underlying hu,sD]
  ·simp at h
 ·unfold Uo at h;split at h
  ·simp only[sJ]at h;simp only[ar]at hx hy;subst hx hy h;simp[Op.equalIn,run_underlying hu]
  ·simp at h
def Ho:∀{fs:List Field} {ks:List (Nat×FK)},wE P fs=some ks->∀{l m:List ae} {xs ys:Array Value},aE ρ l xs.toList->aE ρ m ys.toList->∀{b:Bool},eZ ks l m=some b->∀d,(Op.eqFields (d+1) xs ys fs).run P w=.ok b w
 | [],ks,hk,l,m,xs,ys,hx,hy,b,h,d=>by simp only[wE,sJ]at hk;subst hk;simp only[eZ,sJ]at h;subst h;rfl
 |f::fs,ks,hk,l,m,xs,ys,hx,hy,b,h,d=>by
  simp only[wE]at hk;cases hn : (f.name == "_") with
  |true=>rw[hn]at hk;simp at hk
  |false=>
   rw[hn]at hk;simp only[cond_false]at hk;split at hk
   ·rename_i k n ks' h1 h2 h3;simp only[sJ]at hk;subst hk;simp only[eZ]at h;have hne : f.name ≠ "_" := by simpa using hn
    split at h
    ·rename_i x y gx gy;have p1:kT false n f.offset l=some x:=by simpa[kT]using gx
     have p2:kT false n f.offset m=some y:=by simpa[kT]using gy
     obtain⟨u,u1,u2⟩:=iQ (P:=P) (w:=w) (eB h2) hx p1;obtain⟨v,v1,v2⟩:=iQ (P:=P) (w:=w) (eB h2) hy p2;simp only[Op.eqFields,hne,ne_eq,not_false_eq_true,if_true,Sem.run_bind,u1,v1,Result.andThen_ok];split at h
     ·rename_i hb;rw[tn h1 u2 v2 hb d];simp only[Result.andThen_ok,Bool.not_true,XJ,if_false];exact Ho h3 hx hy h d
     ·rename_i hb;simp only[sJ]at h;subst h;rw[tn h1 u2 v2 hb d];simp
     ·simp at h
    ·simp at h
   ·simp at hk
def Rk{op:BinOp}(ho:op=.eql∨op=.neq){t:TypeId}{x y:Operand}{ks:List (Nat×FK)}(hk:LP P t=some ks){l m:List ae}{u v:Value}(hp:ar ρ (.agg l) u)(hq:ar ρ (.agg m) v){b:Bool}(h:eZ ks l m=some b) :
  (do eqGuard op t x y u v;binOp op t u v:Sem Value).run P w=.ok (.bool (match op with | .eql=>b|_=>!b)) w:=by
 unfold LP at hk;split at hk
 ·rename_i fs hu;cases hg:(P.stoodInHeld t||P.eqGuardType P.depth t)with
  |true=>rw[hg]at hk;simp at hk
  |false=>
   rw[hg]at hk;simp only[cond_false]at hk;rw[Bool.or_eq_false_iff]at hg;simp only[ar]at hp hq;obtain⟨xs,rfl,hx⟩:=hp;obtain⟨ys,rfl,hy⟩:=hq;have hfo:P.fieldsOf t=fs:=by simp[Program.fieldsOf,hu]
   have he:(Op.equalIn 10000 t (.agg xs) (.agg ys)).run P w=.ok b w:=by have:=run_equalIn_struct (P:=P) w 9999 t xs ys (by rw[hfo];exact hu) hg.1;rw[this,hfo];exact Ho hk hx hy h 9998
   rcases ho with rfl|rfl
   ·simp only[Sem.run_bind,run_eqGuard_agg w _ t x y xs ys hg.2,Result.andThen_ok,run_eql_struct,he]
   ·simp only[Sem.run_bind,run_eqGuard_agg w _ t x y xs ys hg.2,Result.andThen_ok,run_neq_struct,he]
 ·simp at hk
inductive PF where
 |eqv (neg:Bool) (k:Ps)
 |eqS (neg:Bool) (fs:List (Nat×FK))
 |mm (great:Bool)
 |ibs
 |cbs
 |s2a (n:Nat)
 |apart
def MU(great:Bool):ae->ae->Option ae
 | .int k x,.int _ y=>some (.int k (bif (bif great then P5 x y else P5 y x)then y else x))
 |_,_=>none
def Sa(great:Bool):ae->List ae->Option ae
 |x,[]=>some x
 |x,y::r=>match MU great x y with
  |some z=>Sa great z r
  |none=>none
def Bc(c:UInt8):List UInt8->Nat->Int
 | [],_=>.negSucc 0
 |b::r,n=>bif Nat.beq b.toNat c.toNat then .ofNat n else Bc c r (n+1)
def Sb:List ae->Option ae
 | [.str s,.int .u8 (.ofNat c)]=>some (.int .i64 (Bc c.toUInt8 s 0))
 |_=>none
def Nl(c:Nat):List UInt8->Nat->Nat
 | [],n=>n
 |b::r,n=>bif Nat.beq b.toNat c then Nl c r (n+1)else Nl c r n
def Sd:List ae->Option ae
 | [.str s,.int .u8 (.ofNat c)]=>bif Nat.ble c 255 then some (.int .i64 (.ofNat (Nl c s 0)))else none
 |_=>none
def FE(c:UInt8):∀(l:List UInt8) (n:Nat),Nl c.toNat l n=n+l.count c
 | [],n=>by simp[Nl]
 |b::r,n=>by
  simp only[Nl,List.count_cons];have e:Nat.beq b.toNat c.toNat=(b==c):=by rw[ch,Bool.eq_iff_iff,XK,beq_iff_eq];exact UInt8.toNat_inj
  rw[e];cases h:b==c with
  |true=>rw[cond_true,FE c r];simp;omega
  |false=>rw[cond_false,FE c r];simp
def Sc(neg:Bool)(k:Ps):List ae->Option ae
 | [x,y]=>match ge k x y with
  |some b=>some (.bool (bif neg then !b else b))
  |none=>none
 |_=>none
def MS(g:Bool):List ae->Option ae
 |x::r=>Sa g x r
 | []=>none
def Du(neg:Bool)(fs:List (Nat×FK)):List ae->Option ae
 | [.agg l,.agg m]=>match eZ fs l m with
  |some b=>some (.bool (bif neg then !b else b))
  |none=>none
 |_=>none
def Xm(n:Nat):List ae->Option ae
 | [.slice (some a) len _]=>bif Nat.ble n len&&Nat.blt 0 n then some (.ptr (some a))else none
 |_=>none
def cg:ae->Option Nat
 | .ptr (some a)=>some a.b
 | .slice (some a) _ _=>some a.b
 | .map (some r)=>some r
 |_=>none
def Jx(x y:ae):Bool:=match cg x,cg y with
 |some b,some c=>!Nat.beq b c
 |_,_=>true
def MX:List ae->Option ae
 | [x,y]=>bif Jx x y then some (.bool true)else none
 |_=>none
def mV:PF->List ae->Option ae
 | .apart,l=>MX l
 | .s2a n,l=>Xm n l
 | .eqv neg k,l=>Sc neg k l
 | .eqS neg fs,l=>Du neg fs l
 | .mm g,l=>MS g l
 | .ibs,l=>Sb l
 | .cbs,l=>Sd l
def QV{g:Bool}{x y z:ae}{u v:Value}(hx:ar ρ x u)(hy:ar ρ y v)(h:MU g x y=some z) :
  ∃q,ar ρ z q/\(if g then Builtin.max2 u v else Builtin.min2 u v)=pure q:=by
 unfold MU at h;split at h
 ·rename_i k a k' b;simp only[sJ]at h;subst h;simp only[ar]at hx hy;subst hx hy;cases g
  ·refine⟨.int k (if b<a then b else a),?_,rfl⟩;simp only[cond_false,v6,ar];by_cases hh:b<a<;>simp[hh]
  ·refine⟨.int k (if b > a then b else a),?_,rfl⟩;simp only[cond_true,v6,ar];by_cases hh:a<b<;>simp[hh]
 ·simp at h
def KY{g:Bool}:∀{l:List ae} {x z:ae} {u:Value} {vs:List Value},ar ρ x u->aE ρ l vs->Sa g x l=some z ->
  ∃q,ar ρ z q/\(vs.foldlM (if g then Builtin.max2 else Builtin.min2) u).run P w=.ok q w
 | [],x,z,u,vs,hx,hl,h=>by simp only[aE]at hl;subst hl;simp only[Sa,sJ]at h;subst h;exact⟨u,hx,rfl⟩
 |y::l,x,z,u,vs,hx,hl,h=>by
  simp only[aE]at hl;obtain⟨v,r,rfl,hy,hr⟩:=hl;simp only[Sa]at h;split at h
  ·rename_i m hm;obtain⟨q,hq,e⟩:=QV hx hy hm;obtain⟨q',hq',e'⟩:=KY hq hr h;refine⟨q',hq',?_⟩;rw[List.foldlM_cons];have:(if g then Builtin.max2 else Builtin.min2) u v=pure q:=by rw[<- e];cases g<;>rfl
   rw[this];simpa using e'
  ·simp at h
def Lx(c:UInt8):∀(s:List UInt8) (n:Nat),Bc c s n=if Lib.indexByte s c=-1 then -1 else Lib.indexByte s c+n
 | [],n=>rfl
 |b::s,n=>by
  have hb:Nat.beq b.toNat c.toNat=(b==c):=by
   rw[ch];by_cases h:b=c
   ·subst h;simp
   ·have:b.toNat≠c.toNat:=λe=>h (UInt8.toNat_inj.1 e);simp[h,this]
  simp only[Bc,Lib.indexByte,hb];by_cases hc:(b==c)=true
  ·simp[hc]
  ·have hge:=Lib.indexByte_ge s c;rw[Bool.not_eq_true]at hc;simp only[hc,cond_false,Lx c s (n+1),XJ,if_false,beq_iff_eq];by_cases h:Lib.indexByte s c=-1
   ·simp[h]
   ·simp only[h,if_false];rw[if_neg om];omega
def GY(P:Program)(f:FuncId):Bool:=
 match P.funcs[f]? with
 | some fn => fn.body.isNone && (fn.name == "internal/bytealg.IndexByteString") && (Extern.findNext fn).isNone
 |none=>false
def LG {fn : Func} (h : fn.name = "internal/bytealg.IndexByteString") : Extern.find fn = some Extern.BytealgIndexByte.indexByte := by
 unfold Extern.find;rw[h];kernel_rfl
def Re{f:FuncId}(hf:GY P f=true){l:List ae}{z:ae}(h:Sb l=some z){vs:Array Value}(hv:aE ρ l vs.toList) :
  ∃q,ar ρ z q/\(callFunc f vs).run P w=.ok (.value q) w:=by
 unfold GY at hf;split at hf
 ·rename_i fn hfn;simp only[XA,beq_iff_eq]at hf;obtain⟨⟨h1,h2⟩,h3⟩:=hf;unfold Sb at h;split at h<;>first|(simp at h;done)|skip
  rename_i s c;simp only[sJ]at h;subst h;simp only[aE]at hv;obtain⟨v1,r1,e1,hv1,v2,r2,rfl,hv2,rfl⟩:=hv;simp only[ar]at hv1 hv2;subst hv1 hv2;have ha:vs=#[.string (bV s),.int .u8 (.ofNat c)]:=Array.toList_inj.1 (by simpa using e1);subst ha;refine⟨_,?_,by rw[run_callFunc_extern hfn (by rw[h2];rfl) h1 (by simpa using h3) (LG h2),Lib.run_indexByteString];rfl⟩;simp only[ar,Lx,bV];by_cases hh:Lib.indexByte s c.toUInt8=-1
  ·simp[hh]
  ·simp[hh]
 ·simp at hf
def GZ(P:Program)(f:FuncId):Bool:=
 match P.funcs[f]? with
 | some fn => fn.body.isNone && (fn.name == "internal/bytealg.CountString") && (Extern.findNext fn).isNone
 |none=>false
def LH {fn : Func} (h : fn.name = "internal/bytealg.CountString") : Extern.find fn = some Extern.BytealgCount.count := by
 unfold Extern.find;rw[h];kernel_rfl
def Ro{f:FuncId}(hf:GZ P f=true){l:List ae}{z:ae}(h:Sd l=some z){vs:Array Value}(hv:aE ρ l vs.toList) :
  ∃q,ar ρ z q/\(callFunc f vs).run P w=.ok (.value q) w:=by
 unfold GZ at hf;split at hf
 ·rename_i fn hfn;simp only[XA,beq_iff_eq]at hf;obtain⟨⟨h1,h2⟩,h3⟩:=hf;unfold Sd at h;split at h<;>first|(simp at h;done)|skip
  rename_i s c;cases hc:Nat.ble c 255 with
  |false=>rw[hc]at h;simp at h
  |true=>
   rw[hc]at h;simp only[cond_true,sJ]at h;subst h;simp only[aE]at hv;obtain⟨v1,r1,e1,hv1,v2,r2,rfl,hv2,rfl⟩:=hv;simp only[ar]at hv1 hv2;subst hv1 hv2;have ha:vs=#[.string (bV s),.int .u8 (.ofNat c)]:=Array.toList_inj.1 (by simpa using e1);subst ha;have hcc:c.toUInt8.toNat=c:=by have:=XD hc;show(UInt8.ofNat c).toNat=c;rw[UInt8.toNat_ofNat'];omega
   refine⟨_,?_,by rw[run_callFunc_extern hfn (by rw[h2];rfl) h1 (by simpa using h3) (LH h2),Lib.run_countString];rfl⟩;have:=FE c.toUInt8 s 0;rw[hcc]at this;simp only[ar,bV,this,Lib.countByte];simp
 ·simp at hf
def j9(n size:Nat)(x:ae)(lo hi mx:Option ae):Option ae:=
 match x with
 | .ptr (some a)=>
  match rU n n lo hi mx with
  |some (l,h,m)=>bif Nat.beq (m.getD n) l then some (.slice (some a) (h-l) (.known (m.getD n-l)))else some (.slice (some ⟨a.b,a.lim,a.o+l*size⟩) (h-l) (.known (m.getD n-l)))
  |none=>none
 |_=>none
def Ki{t elem:TypeId}{agg:Bool}{n size:Nat}(hu:P.underlying t=some (.array n elem))(T:Ty P elem agg size){x y:ae}{v:Value}{lo hi mx:Option ae}{lv hv mv:Option Value}
  (hx:ar ρ x v) (hl:ir ρ lo lv) (hh:ir ρ hi hv) (hm:ir ρ mx mv) (h:j9 n size x lo hi mx=some y):∃u,(Instr.sliceAt t v lv hv mv).run P w=.ok u w/\ar ρ y u:=by
 unfold j9 at h;split at h
 ·rename_i a;split at h
  ·rename_i l hn m hb;simp only[ar]at hx;obtain⟨L,h1,h2,rfl⟩:=hx;obtain⟨q1,q2,q3,q4⟩:=tz (P:=P) (w:=w) (isSlice:=false) (Nat.le_refl n) hl hh hm hb;have q5:hn<=m.getD n:=by
    cases m with
    |none=>simp;omega
    |some q=>simpa using(q4 q rfl).1
   cases hb:Nat.beq (m.getD n) l with
   |true=>
    rw[hb]at h;simp only[cond_true,sJ]at h;subst h;have:=XF hb;refine⟨.slice (some ⟨L.c,a.o-L.sh,none⟩) (hn-l) (m.getD n-l),?_,?_⟩
    ·simp only[Instr.sliceAt,Sem.run_bind,run_underlying hu,Result.andThen_ok,q1,T.size,this,if_true,Sem.run_pure,asAddr,Instr.sureAddr]
    ·simp only[ar];exact⟨L,h1,h2,om,rfl⟩
   |false=>
    rw[hb]at h;simp only[cond_false,sJ]at h;subst h;have hne:¬m.getD n=l:=λe=>by rw[e,Nat.beq_refl]at hb;simp at hb
    refine⟨.slice (some ⟨L.c,a.o-L.sh+l*size,none⟩) (hn-l) (m.getD n-l),?_,?_⟩
    ·simp only[Instr.sliceAt,Sem.run_bind,run_underlying hu,Result.andThen_ok,q1,T.size,if_neg hne,Sem.run_pure,Option.map_some,et,asAddr,Instr.sureAddr]
    ·simp only[ar];refine⟨L,h1,by first|omega|(simp only;omega),?_⟩;simp only[cJ];refine⟨om,?_⟩;congr 3;omega
  ·simp at h
 ·simp at h
end
end Go.Abs
namespace Go.Abs
section
variable {P:Program} {Prot:Gh} {w0:World} {ρ:Pl} {H H':aa} {w:World}
def Ug:List UInt8->Nat->Option UInt8
 | [],_=>none
 |b::_,0=>some b
 |_::r,n+1=>Ug r n
inductive KC where
 |int
 |str
inductive MF where
 |entry (kc:KC) (z:ae)
 |store
 |upd (kc:KC)
abbrev kX:=ae×ae×Nat
def I6:KC->ae->ae->Option Bool
 | .int,.int k a,.int k' b=>if k=k' then some (Nj a b)else none
 | .str,.str a,.str b=>some (a==b)
 |_,_,_=>none
def yI:KC->ae->Bool
 | .int,.int _ _=>true
 | .str,.str _=>true
 |_,_=>false
def jd(kc:KC)(k:ae):List kX->Nat->Option (Option (Nat×kX))
 | [],_=>some none
 |e::r,i=>match I6 kc k e.1 with
  |some true=>some (some (i,e))
  |some false=>jd kc k r (i+1)
  |none=>none
def qU:List kX->Nat->kX->List kX
 | [],_,_=>[]
 |_::r,0,e=>e::r
 |x::r,i+1,e=>x::qU r i e
def sU(ok:Bool)(v:ae)(b:Bool):ae:=bif ok then .tuple [v,.bool b]else v
def qt(kc:KC)(ok:Bool)(z:ae)(es:List kX)(k:ae):Option ae:=bif yI kc k then
  match jd kc k es 0 with
  |some (some (_,e))=>some (sU ok e.2.1 true)
  |some none=>some (sU ok z false)
  |none=>none
 else none
def P4(n:Nat):List kX->Nat->Option (Nat×kX)
 | [],_=>none
 |e::r,i=>bif Nat.beq e.2.2 n then some (i,e)else P4 n r (i+1)
def VQ:MF->List kX->Nat->List ae->Option (ae×List kX×Nat)
 | .entry kc z,es,c,[k]=>bif yI kc k then
   match jd kc k es 0 with
   |some (some (i,e))=>some (.tuple [e.2.1,.int .i64 (.ofNat e.2.2)],qU es i (k,e.2),c)
   |some none=>some (.tuple [z,.int .i64 (.ofNat c)],es++[(k,z,c)],c+1)
   |none=>none
  else none
 | .store,es,c,[.int .i64 (.ofNat n),x]=>match P4 n es 0 with
   |some (i,e)=>some (.tuple [],qU es i (e.1,x,e.2.2),c)
   |none=>none
 | .upd kc,es,c,[k,x]=>bif yI kc k then
   match jd kc k es 0 with
   |some (some (i,e))=>some (.tuple [],qU es i (k,x,e.2.2),c)
   |some none=>some (.tuple [],es++[(k,x,c)],c+1)
   |none=>none
  else none
 |_,_,_,_=>none
def KI(g:Nat->Option di)(a c:Ad):Option Bool:=
 bif Nat.beq a.b c.b then(bif Nat.beq a.lim c.lim then some (Nat.beq a.o c.o)else none)
 else match g a.b,g c.b with
  |some (.cells _ _ false false),some (.cells _ _ false false)=>some false
  |_,_=>none
inductive iV where
 |p
 |i
 |s
def B1(g:Nat->Option di):iV->ae->ae->Option Bool
 | .p,.ptr (some a),.ptr (some c)=>KI g a c
 | .i,.int k n,.int k' m=>if k=k' then some (Nj n m)else none
 | .s,.str x,.str y=>some (x==y)
 |_,_,_=>none
def VM:iV->ae->Bool
 | .p,.ptr (some _)=>true
 | .i,.int _ _=>true
 | .s,.str _=>true
 |_,_=>false
def IP(g:Nat->Option di)(ks:iV×iV):ae->ae->Option Bool
 | .agg [x,y],.agg [x',y']=>match B1 g ks.1 x x' with
  |some true=>B1 g ks.2 y y'
  |some false=>some false
  |none=>none
 |_,_=>none
def xE(ks:iV×iV):ae->Bool
 | .agg [x,y]=>VM ks.1 x&&VM ks.2 y
 |_=>false
def kC(g:Nat->Option di)(ks:iV×iV)(k:ae):List kX->Nat->Option (Option (Nat×kX))
 | [],_=>some none
 |e::r,i=>match IP g ks k e.1 with
  |some true=>some (some (i,e))
  |some false=>kC g ks k r (i+1)
  |none=>none
inductive lX where
 |lit (len:Nat) (z:List ae) (ofs:List (Nat×Nat))
 |map
 |new (z:List ae)
inductive HF where
 |mkMap
 |pLook (ks:iV×iV) (ok:Bool) (z:ae)
 |pUpd (ks:iV×iV)
 |pDel (ks:iV×iV)
 |mLook (kc:KC) (ok:Bool) (z:ae)
 |mf (f:MF)
 |clr (z:List ae)
 |cpy (size:Nat)
 |strRange
 |strNext
 |mark
 |gIdx (g m n:Nat)
 |gLd (g:Nat) (agg:Bool) (n:Nat)
 |gFld (g off:Nat)
 |fill (b:Nat) (k:lX)
def R6(H:aa):List ae->Option (ae×aa)
 | [.str s]=>some (.ptr (some ⟨H.next,0,0⟩),H.push (.iter s 0))
 |_=>none
def Vu(H:aa):List ae->Option (ae×aa)
 | [.ptr (some ⟨b,0,0⟩)]=>match H.get b with
  |some (.iter s pos)=>match Ug s pos with
   |none=>some (.tuple [.bool false],H)
   | some c=>bif Nat.ble 128 c.toNat then
     match Utf8.decode (bV s) pos with
     |(r,n)=>some (.tuple [.bool true,.int .i64 (.ofNat pos),.int .i32 (.ofNat r)],H.set b (.iter s (pos+n)))
    else some (.tuple [.bool true,.int .i64 (.ofNat pos),.int .i32 (.ofNat c.toNat)],H.set b (.iter s (pos+1)))
  |_=>none
 |_=>none
def Vv(H:aa):List ae->Option (ae×aa)
 | [.slice (some a) n r]=>match H.get a.b with
  |some (.cells l low false _)=>some (.slice (some a) n r,H.set a.b (.cells l low false true))
  |_=>none
 |_=>none
def EV(H:aa)(g:Nat):Option ae:=match H.get g with
 |some (.cells l _ true)=>some (.ptr (some ⟨g,l.length,0⟩))
 |_=>none
def MW(g m n:Nat)(H:aa):List ae->Option (ae×aa)
 | [i]=>match EV H g with
  |some p=>match kU m n p i with
   |some v=>some (v,H)
   |none=>none
  |none=>none
 |_=>none
def Vx(g:Nat)(agg:Bool)(n:Nat)(H:aa):List ae->Option (ae×aa)
 | []=>match EV H g with
  |some p=>match al agg n H p with
   |some v=>some (v,H)
   |none=>none
  |none=>none
 |_=>none
def Vy(g off:Nat)(H:aa):List ae->Option (ae×aa)
 | []=>match EV H g with
  |some p=>match jq off p with
   |some v=>some (v,H)
   |none=>none
  |none=>none
 |_=>none
def FV(H:aa):List ae->Option (ae×aa)
 | []=>some (.map (some H.next),H.push (.map [] 0))
 |_=>none
def oB(kc:KC)(ok:Bool)(z:ae)(H:aa):List ae->Option (ae×aa)
 | [.map none,k]=>bif yI kc k then some (sU ok z false,H)else none
 | [.map (some r),k]=>match H.get r with
  |some (.map es _)=>match qt kc ok z es k with
   |some v=>some (v,H)
   |none=>none
  |_=>none
 |_=>none
def uT(g:Nat->Option di)(ks:iV×iV)(ok:Bool)(z:ae)(es:List kX)(k:ae):Option ae:=bif xE ks k then
  match kC g ks k es 0 with
  |some (some (_,e))=>some (sU ok e.2.1 true)
  |some none=>some (sU ok z false)
  |none=>none
 else none
def qq(ks:iV×iV)(ok:Bool)(z:ae)(H:aa):List ae->Option (ae×aa)
 | [.map (some r),k]=>match H.get r with
  |some (.map es _)=>match uT H.get ks ok z es k with
   |some v=>some (v,H)
   |none=>none
  |_=>none
 |_=>none
def AV(g:Nat->Option di)(ks:iV×iV)(es:List kX)(c:Nat)(k x:ae):Option (List kX×Nat):=bif xE ks k then
  match kC g ks k es 0 with
  |some (some (i,e))=>some (qU es i (k,x,e.2.2),c)
  |some none=>some (es++[(k,x,c)],c+1)
  |none=>none
 else none
def zF(ks:iV×iV)(H:aa):List ae->Option (ae×aa)
 | [.map (some r),k,x]=>match H.get r with
  |some (.map es c)=>match AV H.get ks es c k x with
   |some (es',c')=>some (.tuple [],H.set r (.map es' c'))
   |none=>none
  |_=>none
 |_=>none
def R8(g:Nat->Option di)(ks:iV×iV)(es:List kX)(c:Nat)(k:ae):Option (List kX×Nat):=bif xE ks k then
  match kC g ks k es 0 with
  |some (some (i,_))=>some (es.eraseIdx i,c)
  |some none=>some (es,c)
  |none=>none
 else none
def Vt(ks:iV×iV)(H:aa):List ae->Option (ae×aa)
 | [.map (some r),k]=>match H.get r with
  |some (.map es c)=>match R8 H.get ks es c k with
   |some (es',c')=>some (.tuple [],H.set r (.map es' c'))
   |none=>none
  |_=>none
 |_=>none
def Vw(f:MF)(H:aa):List ae->Option (ae×aa)
 | .map (some r)::l=>match H.get r with
  |some (.map es c)=>match VQ f es c l with
   |some (v,es',c')=>some (v,H.set r (.map es' c'))
   |none=>none
  |_=>none
 |_=>none
def Xo(z:List ae)(H:aa):List ae->Option (ae×aa)
 | [.slice none _ _]=>some (.tuple [],H)
 | [.slice (some a) n _]=>bif Nat.beq n 0 then some (.tuple [],H)else match eP H a (BS z n)with
  |some H'=>some (.tuple [],H')
  |none=>none
 |_=>none
def Xn(size:Nat)(H:aa):List ae->Option (ae×aa)
 | [.slice so sl _,.slice xo xl _]=>
  bif Nat.beq (Nat.min xl sl) 0 then some (.int .i64 (.ofNat 0),H)else match so,xo with
  |some a,some b=>match bH H b (Nat.min xl sl*size)with
   |some l=>match eP H a l with
    |some H'=>some (.int .i64 (.ofNat (Nat.min xl sl)),H')
    |none=>none
   |none=>none
  |_,_=>none
 |_=>none
def Ip:List (Nat×Nat)->List ae->List (Nat×Nat×ae)
 |(o,n)::r,x::l=>(o,n,x)::Ip r l
 |_,_=>[]
def pD(k:lX)(b:Nat)(l:List ae):Option (ae×di):=match k with
 | .lit len z ofs=>match kV (BS z len) (Ip ofs l)with
  |some xs=>some (.slice (some ⟨b,xs.length,0⟩) len (.known len),.cells xs 0 false)
  |none=>none
 | .map=>match l with
  | []=>some (.map (some b),.map [] 0)
  |_=>none
 | .new z=>match l with
  | []=>some (.ptr (some ⟨b,z.length,0⟩),.cells z 0 false)
  |_=>none
def iL(k:lX)(b:Nat)(H:aa)(l:List ae):Option (ae×aa):=
 match H.get b with
 |some (.cells _ 0 false)=>match pD k b l with
  |some p=>some (p.1,H.set b p.2)
  |none=>none
 |_=>none
def kj:HF->aa->List ae->Option (ae×aa)
 | .fill b k,H,l=>iL k b H l
 | .mkMap,H,l=>FV H l
 | .pLook ks ok z,H,l=>qq ks ok z H l
 | .pUpd ks,H,l=>zF ks H l
 | .pDel ks,H,l=>Vt ks H l
 | .mLook kc ok z,H,l=>oB kc ok z H l
 | .mf f,H,l=>Vw f H l
 | .clr z,H,l=>Xo z H l
 | .cpy n,H,l=>Xn n H l
 | .strRange,H,l=>R6 H l
 | .strNext,H,l=>Vu H l
 | .mark,H,l=>Vv H l
 | .gIdx g m n,H,l=>MW g m n H l
 | .gLd g a n,H,l=>Vx g a n H l
 | .gFld g o,H,l=>Vy g o H l
def CC(R:cX Prot w0 ρ H w){g:Nat}{p:ae}(h:EV H g=some p):ar ρ p (.pointer (some ⟨g,0,none⟩)):=by
 unfold EV at h;split at h
 ·rename_i l low hg;simp only[sJ]at h;subst h;obtain⟨L,h1,h2,h3,_⟩:=R.glob _ _ _ hg;simp only[ar];exact⟨L,h1,om,by rw[h2,h3]⟩
 ·simp at h
end
end Go.Abs
namespace Go.Abs
mutual
def aeq:ae->ae->Bool
 | .bool a,.bool b=>a==b
 | .int k a,.int k' b=>decide (k=k')&&Nj a b
 | .str a,.str b=>a==b
 | .ptr none,.ptr none=>true
 | .ptr (some a),.ptr (some b)=>Nat.beq a.b b.b&&(Nat.beq a.lim b.lim&&Nat.beq a.o b.o)
 | .slice none n (.known c),.slice none m (.known d)=>Nat.beq n m&&Nat.beq c d
 | .slice (some a) n (.known c),.slice (some b) m (.known d)=>Nat.beq a.b b.b&&(Nat.beq a.lim b.lim&&(Nat.beq a.o b.o&&(Nat.beq n m&&Nat.beq c d)))
 | .slice (some a) n (.open_ c),.slice (some b) m (.open_ d)=>Nat.beq a.b b.b&&(Nat.beq a.lim b.lim&&(Nat.beq a.o b.o&&(Nat.beq n m&&Nat.beq c d)))
 | .map none,.map none=>true
 | .map (some a),.map (some b)=>Nat.beq a b
 | .nilFunc,.nilFunc=>true
 | .func (.func f) a b,.func (.func g) c d=>Nat.beq f g&&(aeqs a c&&aeqs b d)
 | .nilIface,.nilIface=>true
 | .iface t v,.iface u x=>Nat.beq t u&&aeq v x
 | .agg l,.agg m=>aeqs l m
 | .tuple l,.tuple m=>aeqs l m
 | .val (.slice (some a) n c),.val (.slice (some b) m d)=>decide (a=b)&&(Nat.beq n m&&Nat.beq c d)
 |_,_=>false
def aeqs:List ae->List ae->Bool
 | [],[]=>true
 |x::l,y::m=>aeq x y&&aeqs l m
 |_,_=>false
end
def nb{a b:Nat}(h:Nat.beq a b=true):a=b:=XF h
mutual
def FT:∀(x y:ae),aeq x y=true->x=y:=by
 intro x y h;unfold aeq at h;split at h
 all_goals (try (simp only[XJ]at h;done))
 ·simp at h;rw[h]
 ·simp only[XA,XK,gd,beq_iff_eq]at h;rw[h.1,h.2]
 ·simp at h;rw[h]
 ·rfl
 ·rename_i a b;obtain⟨a1,a2,a3⟩:=a;obtain⟨b1,b2,b3⟩:=b;simp only[XA]at h;obtain⟨h1,h2,h3⟩:=h;have:=nb h1;have:=nb h2;have:=nb h3;simp_all
 ·simp only[XA]at h;rw[nb h.1,nb h.2]
 ·rename_i a n c b m d;obtain⟨a1,a2,a3⟩:=a;obtain⟨b1,b2,b3⟩:=b;simp only[XA]at h;obtain⟨h1,h2,h3,h4,h5⟩:=h;have:=nb h1;have:=nb h2;have:=nb h3;have:=nb h4;have:=nb h5;simp_all
 ·rename_i a n c b m d;obtain⟨a1,a2,a3⟩:=a;obtain⟨b1,b2,b3⟩:=b;simp only[XA]at h;obtain⟨h1,h2,h3,h4,h5⟩:=h;have:=nb h1;have:=nb h2;have:=nb h3;have:=nb h4;have:=nb h5;simp_all
 ·rfl
 ·rw[nb h]
 ·rfl
 ·simp only[XA]at h;rw[nb h.1,pc _ _ h.2.1,pc _ _ h.2.2]
 ·rfl
 ·simp only[XA]at h;rw[nb h.1,FT _ _ h.2]
 ·rw[pc _ _ h]
 ·rw[pc _ _ h]
 ·simp only[XA,XK]at h;rw[h.1,nb h.2.1,nb h.2.2]
def pc:∀(l m:List ae),aeqs l m=true->l=m:=by
 intro l m h;unfold aeqs at h;split at h
 ·rfl
 ·simp only[XA]at h;rw[FT _ _ h.1,pc _ _ h.2]
 ·simp at h
end
def Cw:Option (Nat×Nat)->Bool
 |some (1,0)=>true
 |_=>false
def VO(b:Nat)(z:List ae):Option (Nat×Nat)->ae
 |none=>.ptr (some ⟨b,z.length,0⟩)
 |some (l,c)=>bif Cw (some (l,c))then .map (some b)else .slice (some ⟨b,z.length,0⟩) l (.known c)
def xA(z:List ae)(s:Option (Nat×Nat)):di:=bif Cw s then .map [] 0 else .cells z 0 false
def ec(H:aa)(b:Nat)(z:List ae)(s:Option (Nat×Nat)):Option ae:=
 match H.get b with
 |some (.cells l 0 false)=>bif aeqs l z&&!Cw s then some (VO b z s)else none
 |some (.map [] 0)=>bif Cw s then some (VO b z s)else none
 |_=>none
def FC{H:aa}{b:Nat}{z:List ae}{s:Option (Nat×Nat)}{v:ae}(h:ec H b z s=some v):H.get b=some (xA z s)/\v=VO b z s:=by
 unfold ec at h;split at h
 ·rename_i l hl;cases he:aeqs l z with
  |false=>rw[he]at h;simp at h
  |true=>
   cases hm:Cw s with
   |true=>rw[he,hm]at h;simp at h
   |false=>rw[he,hm]at h;simp only[Bool.not_false,Bool.and_self,cond_true,sJ]at h;exact⟨by rw[hl,pc _ _ he,xA,hm];rfl,h.symm⟩
 ·rename_i hl;cases hm:Cw s with
  |false=>rw[hm]at h;simp at h
  |true=>rw[hm]at h;simp only[cond_true,sJ]at h;exact⟨by rw[hl,xA,hm];rfl,h.symm⟩
 ·simp at h
end Go.Abs
namespace Go.Abs
section
variable {P:Program} {Prot:Gh} {w0:World} {ρ:Pl} {H H':aa} {w:World}
def Au(P:Program)(t:TypeId):Option KC:=match P.underlying t with
 |some (.int _)=>some .int
 |some .string=>some .str
 |_=>none
def Bg(P:Program)(t:TypeId):Option ae:=match P.info? t with
 |some i=>match i.zero with
  |some z=>Pn z
  |none=>none
 |none=>none
def Bf{t:TypeId}{x:ae}(h:Bg P t=some x):∃z,(∀W,(zeroValue t).run P W=.ok z W)/\∀ρ,ar ρ x z:=by
 unfold Bg at h;split at h
 ·rename_i i hi;split at h
  ·rename_i z hz;exact⟨z,λW=>by simp[zeroValue,run_typeInfo W hi,hz],λρ=>Ih h⟩
  ·simp at h
 ·simp at h
def OB{x y:ae}{b:Bool}(h:I6 .int x y=some b):∃k a c,x=.int k a/\y=.int k c/\b=(a==c):=by
 cases x<;>simp only[I6,reduceCtorEq]at h;rename_i k a;cases y<;>simp only[I6,reduceCtorEq]at h;rename_i k' c;split at h
 ·rename_i hk;subst hk;simp only[sJ]at h;exact⟨k,a,c,rfl,rfl,by rw[<- h,gd]⟩
 ·simp at h
def OA{x y:ae}{b:Bool}(h:I6 .str x y=some b):∃a c,x=.str a/\y=.str c/\b=(a==c):=by cases x<;>simp only[I6,reduceCtorEq]at h;rename_i a;cases y<;>simp only[I6,reduceCtorEq]at h;rename_i c;simp only[sJ]at h;exact⟨a,c,rfl,rfl,h.symm⟩
def Md{t:TypeId}{a:Bool}{n:Nat}(h:ef P t=some (a,n)):P.cellsOf t=n/\∃i,P.info? t=some i:=by
 unfold ef at h;split at h<;>simp only[sJ,pJ,reduceCtorEq]at h
 all_goals
  rename_i hi;exact⟨by simp[Program.cellsOf,hi,h.2],_,hi⟩
def mM(ρ:Pl)(v:Value)(es:List kX)(ES:List MapEntry)(i:Nat):Option (Nat×kX)->Option (Nat×Value)->Prop
 |none,r=>r=none
 |some (j,e),r=>i<=j/\∃E,r=some (j,E.val)/\es[j-i]?=some e/\ES[j-i]?=some E/\rX ρ e E/\E.key=v
def mM.step{v:Value}{e:kX}{es:List kX}{E:MapEntry}{ES:List MapEntry}{i:Nat}{r:Option (Nat×kX)}{r':Option (Nat×Value)}(h:mM ρ v es ES (i+1) r r'):mM ρ v (e::es) (E::ES) i r r':=by
 cases r with
 |none=>exact h
 |some p=>
  obtain⟨j,x⟩:=p;obtain⟨h1,E',h2,h3,h4,h5⟩:=h;refine⟨om,E',h2,?_,?_,h5⟩
  ·rw[show j-i=(j-(i+1))+1 by omega];simpa using h3
  ·rw[show j-i=(j-(i+1))+1 by omega];simpa using h4
def KV{kc:KC}{d:TypeDesc}(hd:(kc=.int/\∃k,d=.int k)∨(kc=.str/\d=.string)){x:ae}{v:Value}(hx:ar ρ x v):∀(es:List kX) (ES:List MapEntry) (i:Nat) (r:Option (Nat×kX)),aP ρ es ES->jd kc x es i=some r ->
  ∃r',Instr.findNow d v ES i=some r'/\mM ρ v es ES i r r':=by
 intro es;induction es with
 |nil=>intro ES i r hE h;simp only[jd,sJ]at h;simp only[aP]at hE;subst h hE;exact⟨none,rfl,rfl⟩
 |cons e es ih=>
  intro ES i r hE h;simp only[aP]at hE;obtain⟨E,ES',rfl,hEE,hE⟩:=hE;obtain⟨he1,he2,he3⟩:=hEE;have key:∀b,I6 kc x e.1=some b->Instr.sameNow d v E.key=some b/\(b=true->E.key=v):=by
   intro b hb;rcases hd with⟨rfl,k,rfl⟩|⟨rfl,rfl⟩
   ·obtain⟨k1,a,c,hx1,hx2,rfl⟩:=OB hb;rw[hx1]at hx;rw[hx2]at he1;simp only[ar]at hx he1;rw[hx,he1];refine⟨by simp[Instr.sameNow],λht=>?_⟩;have:a=c:=by simpa using ht
    rw[this]
   ·obtain⟨a,c,hx1,hx2,rfl⟩:=OA hb;rw[hx1]at hx;rw[hx2]at he1;simp only[ar]at hx he1;rw[hx,he1];have hs:(bV a==bV c)=(a==c):=by
     rw[Bool.eq_iff_iff,MapKept.bytes_beq];simp only[beq_iff_eq];exact⟨λq=>by simpa[bV]using congrArg (λs:ByteArray=>s.data.toList) q,λq=>by rw[q]⟩
    refine⟨by simp only[Instr.sameNow,hs],λht=>?_⟩;have:a=c:=by simpa using ht
    rw[this]
  simp only[jd]at h;split at h
  ·rename_i hb;simp only[sJ]at h;subst h;obtain⟨k1,k2⟩:=key _ hb;exact⟨some (i,E.val),by simp[Instr.findNow,k1],Nat.le_refl _,E,rfl,by simp,by simp,⟨he1,he2,he3⟩,k2 rfl⟩
  ·rename_i hb;obtain⟨k1,k2⟩:=key _ hb;obtain⟨r',q1,q2⟩:=ih ES' (i+1) r hE h;exact⟨r',by simp[Instr.findNow,k1,q1],q2.step⟩
  ·simp at h
def wh{kt:TypeId}{kc:KC}(h:Au P kt=some kc):(∃k,kc=.int/\P.underlying kt=some (.int k))∨(kc=.str/\P.underlying kt=some .string):=by
 unfold Au at h;split at h
 ·rename_i k hu;simp only[sJ]at h;exact .inl ⟨k,h.symm,hu⟩
 ·rename_i hu;simp only[sJ]at h;exact .inr ⟨h.symm,hu⟩
 ·simp at h
def jU{kt:TypeId}{kc:KC}(hk:Au P kt=some kc){x:ae}{v:Value}(hx:ar ρ x v){es:List kX}{ES:List MapEntry}{r:Option (Nat×kX)}(hE:aP ρ es ES)(h:jd kc x es 0=some r) :
  ∃r',(Instr.findKey kt v ES).run P w=.ok r' w/\mM ρ v es ES 0 r r':=by
 rcases wh hk with⟨k,rfl,hu⟩|⟨rfl,hu⟩
 ·obtain⟨r',q1,q2⟩:=KV (d:=.int k) (.inl ⟨rfl,k,rfl⟩) hx es ES 0 r hE h;exact⟨r',by simp[Instr.findKey,run_underlying hu,q1],q2⟩
 ·obtain⟨r',q1,q2⟩:=KV (d:=.string) (.inr ⟨rfl,rfl⟩) hx es ES 0 r hE h;exact⟨r',by simp[Instr.findKey,run_underlying hu,q1],q2⟩
def Mc{t:TypeId}{k:IntKind}(hu:P.underlying t=some (.int k))(em:Bool)(d:Nat)(x:Value):(Instr.checkKey em (d+1) t x).run P w=.ok () w:=by simp[Instr.checkKey,run_underlying hu]
def Rn{t:TypeId}(hu:P.underlying t=some .string)(em:Bool)(d:Nat)(x:Value):(Instr.checkKey em (d+1) t x).run P w=.ok () w:=by simp[Instr.checkKey,run_underlying hu]
def jh{kt:TypeId}{kc:KC}(hk:Au P kt=some kc){x:ae}{v:Value}(hx:ar ρ x v)(hi:yI kc x=true)(em:Bool):(Instr.checkKey em 10000 kt v).run P w=.ok () w:=by
 rcases wh hk with⟨k,rfl,hu⟩|⟨rfl,hu⟩
 ·cases x<;>simp only[yI,XJ]at hi;simp only[ar]at hx;subst hx;exact Mc hu em 9999 _
 ·cases x<;>simp only[yI,XJ]at hi;simp only[ar]at hx;subst hx;exact Rn hu em 9999 _
def aP.append:∀{es fs:List kX} {ES FS:List MapEntry},aP ρ es ES->aP ρ fs FS->aP ρ (es++fs) (ES++FS)
 | [],_,_,_,h,h'=>by simp only[aP]at h;subst h;simpa using h'
 |x::l,fs,ES,FS,h,h'=>by simp only[aP]at h;obtain⟨e,r,rfl,h1,h2⟩:=h;simp only[XQ,aP];exact⟨e,r++FS,rfl,h1,aP.append h2 h'⟩
def aP.set:∀{es:List kX} {ES:List MapEntry} (i:Nat) {e':kX} {E':MapEntry},aP ρ es ES->rX ρ e' E'->aP ρ (qU es i e') (ES.set i E')
 | [],_,_,_,_,h,_=>by simp only[aP]at h;subst h;simp[qU,aP]
 |x::l,ES,i,e',E',h,h'=>by
  simp only[aP]at h;obtain⟨e,r,rfl,h1,h2⟩:=h;cases i with
  |zero=>simp only[qU,List.set_cons_zero,aP];exact⟨E',r,rfl,h',h2⟩
  |succ i=>simp only[qU,List.set_cons_succ,aP];exact⟨e,_,rfl,h1,aP.set i h2 h'⟩
def vY{ES:Array MapEntry}{i:Nat}{E:MapEntry}(h:ES[i]?=some E)(f:MapEntry->MapEntry):(ES.modify i f).toList=ES.toList.set i (f E):=by
 apply List.ext_getElem?;intro j;rw[Array.getElem?_toList,Array.getElem?_modify,List.getElem?_set];by_cases e:i=j
 ·subst e;obtain⟨hlt,hE⟩:=Array.getElem?_eq_some_iff.1 h;simp[h,hlt,hE]
 ·simp[e]
def Am(R:cX Prot w0 ρ H w){r:Nat}{mv:Value}(hx:ar ρ (.map (some r)) mv){es:List kX}{c:Nat}(hH:H.get r=some (.map es c)):∃L ES,ρ r 0=some L/\mv=.map (some L.c)/\w.heap[L.c]?=some (.map ES c)/\aP ρ es ES.toList:=by simp only[ar]at hx;obtain⟨L,hL,rfl⟩:=hx;obtain⟨x,o,g1,g2,g3⟩:=R.obj _ _ _ hL;rw[hH]at g1;simp only[sJ]at g1;subst g1;simp only[gM]at g3;obtain⟨_,ES,rfl,hE⟩:=g3;exact⟨L,ES,hL,rfl,g2,hE⟩
def qT(R:cX Prot w0 ρ H w){r:Nat}{L:DN}(hL:ρ r 0=some L){es:List kX}{c:Nat}(hH:H.get r=some (.map es c)){es':List kX}{c':Nat}{ES':Array MapEntry}(hE:aP ρ es' ES'.toList) :
  cX Prot w0 ρ (H.set r (.map es' c')) { w with heap:=w.heap.setIfInBounds L.c (.map ES' c') }:=by
 have hlt:L.c<w.heap.size:=(R.dom _ _ _ hL).2;refine R.turn (w':={ w with heap:=w.heap.setIfInBounds L.c (.map ES' c') }) (y:=.map es' c') hL hH rfl ⟨rfl,rfl,rfl,by simp,λi hi=>by simp[Array.getElem?_setIfInBounds,Ne.symm hi]⟩ rfl λl' L' h'=>?_;obtain⟨x,o,k1,k2,k3⟩:=R.obj _ _ _ h';rw[hH]at k1;simp only[sJ]at k1;subst k1;simp only[gM]at k3;obtain⟨rfl,_⟩:=k3;rw[hL]at h';simp only[sJ]at h';subst h';exact⟨.map ES' c',by simp[hlt],by simp only[gM];exact⟨trivial,ES',rfl,hE⟩⟩
def KZ(R:cX Prot w0 ρ H w)(t:TypeId){y:ae}(h:FV H []=some (y,H')):jl P Prot w0 ρ w (Instr.makeMap t none) y H':=by
 simp only[FV,sJ,pJ]at h;obtain⟨rfl,rfl⟩:=h;obtain⟨h1,h2⟩:=R.push' (w':=w.alloc (.map #[] 0)) rfl rfl rfl (Array.size_push _) (λi hi=>by rw[World.alloc,Array.getElem?_push,if_neg (Nat.ne_of_lt hi)])
  (x:=.map [] 0) (o:=.map #[] 0) (lim:=0) (n:=0) (cl:=false) (by rw[World.alloc,Array.getElem?_push,if_pos rfl]) (by simp only[gM];exact⟨trivial,#[],rfl,by simp[aP]⟩) rfl
 refine⟨_,_,_,h1,RowKit.run_makeMap t w,h2,?_⟩;simp only[ar];exact⟨_,iW _ _ _ _,rfl⟩
def vK(ok:Bool){x:ae}{v:Value}(h:ar ρ x v)(b:Bool):ar ρ (sU ok x b) (if ok=true then .tuple #[v,.bool b]else v):=by
 cases ok with
 |false=>simpa[sU]using h
 |true=>simp[sU,ar,aE,h]
def Lb(R:cX Prot w0 ρ H w){t kt el:TypeId}{kc:KC}(hm:P.underlying t=some (.map kt el))(hk:Au P kt=some kc){z:ae}(hz:Bg P el=some z){ok:Bool}{m k y:ae}{mv kv:Value}(hx:ar ρ m mv)(hy:ar ρ k kv)
  (h:oB kc ok z H [m,k]=some (y,H')):jl P Prot w0 ρ w (Instr.lookup t mv kv ok) y H':=by
 obtain⟨zv,hz1,hz2⟩:=Bf hz;unfold oB at h;split at h<;>first|(simp at h;done)|skip
 ·rename_i k' heq;simp only[List.cons.injEq,and_true]at heq;obtain⟨rfl,rfl⟩:=heq;cases hi:yI kc k with
  |false=>rw[hi]at h;simp at h
  |true=>rw[hi]at h;simp only[cond_true,sJ,pJ]at h;obtain⟨rfl,rfl⟩:=h;simp only[ar]at hx;subst hx;obtain⟨r',q1,q2⟩:=jU (w:=w) hk hy (es:=[]) (ES:=[]) (r:=none) (by simp[aP]) rfl;simp only[mM]at q2;subst q2;refine jl.pure R (v:=if ok=true then .tuple #[zv,.bool false]else zv) ?_ (vK ok (hz2 ρ) false);simp[Instr.lookup,run_underlying hm,jh (w:=w) hk hy hi,q1,hz1,Result.andThen]
 ·rename_i r k' heq;simp only[List.cons.injEq,and_true]at heq;obtain⟨rfl,rfl⟩:=heq;split at h<;>first|(simp at h;done)|skip
  rename_i es c hH;obtain⟨L,ES,hL,rfl,hb,hE⟩:=Am R hx hH;split at h<;>first|(simp at h;done)|skip
  rename_i v hv;simp only[sJ,pJ]at h;obtain⟨rfl,rfl⟩:=h;unfold qt at hv;cases hi:yI kc k with
  |false=>rw[hi]at hv;simp at hv
  |true=>
   rw[hi]at hv;simp only[cond_true]at hv;split at hv<;>first|(simp at hv;done)|skip
   ·rename_i j e hf;simp only[sJ]at hv;subst hv;obtain⟨r',q1,q2⟩:=jU (w:=w) hk hy hE hf;obtain⟨_,E,rfl,_,_,⟨_,he2,_⟩,_⟩:=q2;refine jl.pure R (v:=if ok=true then .tuple #[E.val,.bool true]else E.val) ?_ (vK ok he2 true);simp[Instr.lookup,run_underlying hm,MapKept.run_getObj_map hb,jh (w:=w) hk hy hi,q1,Result.andThen]
   ·rename_i hf;simp only[sJ]at hv;subst hv;obtain⟨r',q1,q2⟩:=jU (w:=w) hk hy hE hf;simp only[mM]at q2;subst q2;refine jl.pure R (v:=if ok=true then .tuple #[zv,.bool false]else zv) ?_ (vK ok (hz2 ρ) false);simp[Instr.lookup,run_underlying hm,MapKept.run_getObj_map hb,jh (w:=w) hk hy hi,q1,hz1,Result.andThen]
def J9{kc:KC}{x:ae}{v:Value}(hx:ar ρ x v)(hi:yI kc x=true):(Instr.keyThatStays v v).run P w=.ok v w:=by
 have:Instr.sameBits 10000 v v=true:=by
  cases kc with
  |int=>cases x<;>simp only[yI,XJ]at hi;simp only[ar]at hx;subst hx;show Instr.sameBits (9999+1) _ _=true;simp[Instr.sameBits]
  |str=>cases x<;>simp only[yI,XJ]at hi;simp only[ar]at hx;subst hx;show Instr.sameBits (9999+1) _ _=true;rw[Instr.sameBits];exact(MapKept.bytes_beq _ _).2 rfl
 simp[Instr.keyThatStays,this]
def GQ(R:cX Prot w0 ρ H w){t kt el:TypeId}{kc:KC}(hm:P.underlying t=some (.map kt el))(hk:Au P kt=some kc){m k x y:ae}{mv kv xv:Value}(hx:ar ρ m mv)(hy:ar ρ k kv)(hv0:ar ρ x xv)
  (h:Vw (.upd kc) H [m,k,x]=some (y,H')):y=.tuple []/\∃w',(Instr.mapUpdate t mv kv xv).run P w=.ok () w'/\cX Prot w0 ρ H' w':=by
 unfold Vw at h;split at h<;>first|(simp at h;done)|skip
 rename_i r l heq;simp only[List.cons.injEq]at heq;obtain⟨rfl,rfl⟩:=heq;split at h<;>first|(simp at h;done)|skip
 rename_i es c hH;obtain⟨L,ES,hL,rfl,hb,hE⟩:=Am R hx hH;split at h<;>first|(simp at h;done)|skip
 rename_i v es' c' hv;simp only[sJ,pJ]at h;obtain⟨rfl,rfl⟩:=h;simp only[VQ]at hv;cases hi:yI kc k with
 |false=>rw[hi]at hv;simp at hv
 |true=>
  rw[hi]at hv;simp only[cond_true]at hv;split at hv<;>first|(simp at hv;done)|skip
  ·rename_i j e hf;simp only[sJ,pJ]at hv;obtain⟨rfl,rfl,rfl⟩:=hv;obtain⟨r',q1,q2⟩:=jU (w:=w) hk hy hE hf;obtain⟨_,E,rfl,q3,q4,⟨he1,he2,he3⟩,q5⟩:=q2;rw[Nat.sub_zero,Array.getElem?_toList]at q4;refine⟨rfl,_,?_,qT R hL hH (ES':=ES.modify j λe=>{ e with key:=kv,val:=xv }) (by
    rw[vY q4];exact hE.set j ⟨hy,hv0,he3⟩)⟩
   simp[Instr.mapUpdate,run_underlying hm,MapKept.run_getObj_map hb,jh (w:=w) hk hy hi,q1,q4,q5,J9 (w:=w) hy hi,MapKept.run_setObj_map _ hb,Result.andThen]
  ·rename_i hf;simp only[sJ,pJ]at hv;obtain⟨rfl,rfl,rfl⟩:=hv;obtain⟨r',q1,q2⟩:=jU (w:=w) hk hy hE hf;simp only[mM]at q2;subst q2;refine⟨rfl,_,?_,qT R hL hH (ES':=ES.push { key:=kv,val:=xv,born:=c }) (by
    rw[Array.toList_push];refine hE.append ?_;simp only[aP];exact⟨_,_,rfl,⟨hy,hv0,rfl⟩,rfl⟩)⟩
   simp[Instr.mapUpdate,run_underlying hm,MapKept.run_getObj_map hb,jh (w:=w) hk hy hi,q1,MapKept.run_setObj_map _ hb,Result.andThen]
def Qa(P:Program)(t:TypeId):Option (List (Nat×FK)):=match P.underlying t with
 |some (.array n e)=>match P.underlying e,ef P e with
  |some (.int _),some (false,1)=>bif P.eqGuardType P.depth t then none else some ((List.range' 0 n).map λi=>(i,FK.int))
  |_,_=>none
 |_=>none
def WV(o:Nat)(ks:List (Nat×FK)):List (Nat×FK):=ks.map λp=>(o+p.1,p.2)
def LR(P:Program)(rec:TypeId->Option (List (Nat×FK))):List Field->Option (List (Nat×FK))
 | []=>some []
 | f::r => bif f.name == "_" then none else match LR P rec r with
  |none=>none
  |some l=>match Jc P f.type with
   |some k=>match ef P f.type with
    |some (false,_)=>some ((f.offset,k)::l)
    |_=>none
   |none=>match rec f.type,ef P f.type with
    |some ks,some (true,n)=>bif ks.all (λp=>Nat.blt p.1 n)then some (WV f.offset ks++l)else none
    |_,_=>none
def Jh(P:Program):Nat->TypeId->Option (List (Nat×FK))
 |0,_=>none
 |d+1,t=>match P.underlying t with
  |some (.struct fs)=>bif P.stoodInHeld t then none else LR P (Jh P d) fs.toList
  |_=>none
def P9(P:Program)(t:TypeId):Option (List (Nat×FK)):=bif P.eqGuardType P.depth t then none else Jh P 8 t
def zG(l m:List ae):∀(a b:List (Nat×FK)),eZ (a++b) l m=match eZ a l m with
  |some true=>eZ b l m
  |some false=>some false
  |none=>none
 | [],b=>rfl
 |(o,k)::a,b=>by
  simp only[XQ,eZ];cases l[o]? with
  |none=>rfl
  |some x=>
   cases m[o]? with
   |none=>rfl
   |some y=>
    simp only;cases So k x y with
    |none=>rfl
    |some q=>cases q with
     |true=>exact zG l m a b
     |false=>rfl
def Dv{n o:Nat}(l m:List ae):∀(ks:List (Nat×FK)),ks.all (λp=>Nat.blt p.1 n)=true->eZ (WV o ks) l m=eZ ks ((l.drop o).take n) ((m.drop o).take n)
 | [],_=>rfl
 |(i,k)::r,h=>by
  rw[List.all_cons,XA]at h;have hi:i<n:=by have:=h.1;simpa[Nat.blt_eq]using this
  have ih:=Dv (n:=n) (o:=o) l m r h.2;show eZ ((o+i,k)::WV o r) l m=_;simp only[eZ,List.getElem?_take_of_lt hi,List.getElem?_drop,ih]
def AB{rec:TypeId->Option (List (Nat×FK))}{d:Nat}
  (hr:∀{t:TypeId} {ks:List (Nat×FK)},rec t=some ks->∀{l m:List ae} {xs ys:Array Value},aE ρ l xs.toList->aE ρ m ys.toList->∀{b:Bool},eZ ks l m=some b->(Op.equalIn (d+1) t (.agg xs) (.agg ys)).run P w=.ok b w) :
  ∀{fs:List Field} {ks:List (Nat×FK)},LR P rec fs=some ks->∀{l m:List ae} {xs ys:Array Value},aE ρ l xs.toList->aE ρ m ys.toList->∀{b:Bool},eZ ks l m=some b->(Op.eqFields (d+1) xs ys fs).run P w=.ok b w
 | [],ks,hk,l,m,xs,ys,hx,hy,b,h=>by simp only[LR,sJ]at hk;subst hk;simp only[eZ,sJ]at h;subst h;rfl
 |f::fs,ks,hk,l,m,xs,ys,hx,hy,b,h=>by
  simp only[LR]at hk;cases hn : (f.name == "_") with
  |true=>rw[hn]at hk;simp at hk
  |false=>
   rw[hn]at hk;simp only[cond_false]at hk;have hne : f.name ≠ "_" := by simpa using hn
   split at hk<;>first|(simp at hk;done)|skip
   rename_i ks' h3;split at hk
   ·rename_i k h1;split at hk<;>first|(simp at hk;done)|skip
    rename_i n h2;simp only[sJ]at hk;subst hk;simp only[eZ]at h;split at h
    ·rename_i x y gx gy;have p1:kT false n f.offset l=some x:=by simpa[kT]using gx
     have p2:kT false n f.offset m=some y:=by simpa[kT]using gy
     obtain⟨u,u1,u2⟩:=iQ (P:=P) (w:=w) (eB h2) hx p1;obtain⟨v,v1,v2⟩:=iQ (P:=P) (w:=w) (eB h2) hy p2;simp only[Op.eqFields,hne,ne_eq,not_false_eq_true,if_true,Sem.run_bind,u1,v1,Result.andThen_ok];split at h
     ·rename_i hb;rw[tn h1 u2 v2 hb d];simp only[Result.andThen_ok,Bool.not_true,XJ,if_false];exact AB hr h3 hx hy h
     ·rename_i hb;simp only[sJ]at h;subst h;rw[tn h1 u2 v2 hb d];simp
     ·simp at h
    ·simp at h
   ·split at hk<;>first|(simp at hk;done)|skip
    rename_i kk n h1 h2;cases ha:kk.all (λp=>Nat.blt p.1 n)with
    |false=>rw[ha]at hk;simp at hk
    |true=>
     rw[ha]at hk;simp only[cond_true,sJ]at hk;subst hk;rw[zG,Dv l m kk ha]at h;obtain⟨u,u1,u2⟩:=iQ (P:=P) (w:=w) (eB h2) hx (off:=f.offset) (y:=.agg ((l.drop f.offset).take n)) rfl;obtain⟨v,v1,v2⟩:=iQ (P:=P) (w:=w) (eB h2) hy (off:=f.offset) (y:=.agg ((m.drop f.offset).take n)) rfl;simp only[ar]at u2 v2;obtain⟨us,rfl,u2⟩:=u2;obtain⟨vs,rfl,v2⟩:=v2;simp only[Op.eqFields,hne,ne_eq,not_false_eq_true,if_true,Sem.run_bind,u1,v1,Result.andThen_ok];split at h
     ·rename_i hb;rw[hr h1 u2 v2 hb];simp only[Result.andThen_ok,Bool.not_true,XJ,if_false];exact AB hr h3 hx hy h
     ·rename_i hb;simp only[sJ]at h;subst h;rw[hr h1 u2 v2 hb];simp
     ·simp at h
def Hs:∀(e d:Nat) {t:TypeId} {ks:List (Nat×FK)},Jh P e t=some ks->∀{l m:List ae} {xs ys:Array Value},aE ρ l xs.toList->aE ρ m ys.toList->∀{b:Bool},eZ ks l m=some b->(Op.equalIn (d+e+1) t (.agg xs) (.agg ys)).run P w=.ok b w
 |0,d,t,ks,hk,l,m,xs,ys,hx,hy,b,h=>by simp[Jh]at hk
 |e+1,d,t,ks,hk,l,m,xs,ys,hx,hy,b,h=>by
  simp only[Jh]at hk;split at hk<;>first|(simp at hk;done)|skip
  rename_i fs hu;cases hs:P.stoodInHeld t with
  |true=>rw[hs]at hk;simp at hk
  |false=>
   rw[hs]at hk;simp only[cond_false]at hk;have hfo:P.fieldsOf t=fs:=by simp[Program.fieldsOf,hu]
   have:=run_equalIn_struct (P:=P) w (d+e+1) t xs ys (by rw[hfo];exact hu) hs;rw[hfo]at this;rw[show d+(e+1)+1=d+e+1+1 by omega,this];exact AB (rec:=Jh P e) (d:=d+e) (λh1 _ _ _ _ hx hy _ h=>Hs e d h1 hx hy h) hk hx hy h
def AA(P:Program)(t:TypeId):Option (List (Nat×FK)):=match LP P t with
 |some x=>some x
 |none=>match Qa P t with
  |some x=>some x
  |none=>P9 P t
def LQ{e:TypeId}{kk:IntKind}(he:P.underlying e=some (.int kk))(T:Ty P e false 1){L M:List ae}{xs ys:Array Value}(hL:aE ρ L xs.toList)(hM:aE ρ M ys.toList)(d:Nat) :
  ∀(k o:Nat) (b:Bool),eZ ((List.range' o k).map λi=>(i,FK.int)) L M=some b->(Op.eqItems (d+1) e 1 xs ys (List.range' o k)).run P w=.ok b w:=by
 intro k;induction k with
 |zero=>intro o b h;simp only[List.range'_zero,List.map_nil,eZ,sJ]at h;subst h;simp[Op.eqItems]
 |succ k ih=>
  intro o b h;rw[List.range'_succ,List.map_cons]at h;simp only[eZ]at h;split at h
  ·rename_i x y gx gy;obtain⟨u,u1,u2⟩:=iQ (P:=P) (w:=w) T hL (off:=o) (y:=x) (by simpa[kT]using gx);obtain⟨v,v1,v2⟩:=iQ (P:=P) (w:=w) T hM (off:=o) (y:=y) (by simpa[kT]using gy);have hk:Jc P e=some .int:=by simp[Jc,he]
   rw[List.range'_succ];simp only[Op.eqItems,Nat.mul_one,Sem.run_bind,u1,v1,Result.andThen_ok];split at h
   ·rename_i hb;rw[tn hk u2 v2 hb d];simp only[Result.andThen_ok,Bool.not_true,XJ,if_false];exact ih (o+1) b h
   ·rename_i hb;simp only[sJ]at h;subst h;rw[tn hk u2 v2 hb d];simp
   ·simp at h
  ·simp at h
def Hn{op:BinOp}(ho:op=.eql∨op=.neq){t:TypeId}{x y:Operand}{ks:List (Nat×FK)}(hk:AA P t=some ks){l m:List ae}{u v:Value}(hp:ar ρ (.agg l) u)(hq:ar ρ (.agg m) v){b:Bool}(h:eZ ks l m=some b) :
  (do eqGuard op t x y u v;binOp op t u v:Sem Value).run P w=.ok (.bool (match op with | .eql=>b|_=>!b)) w:=by
 unfold AA at hk;split at hk
 ·rename_i z hz;simp only[sJ]at hk;subst hk;exact Rk ho hz hp hq h
 split at hk
 ·rename_i hA;simp only[sJ]at hk;subst hk;have hk:=hA;unfold Qa at hk;split at hk
  ·rename_i n e hu;split at hk
   ·rename_i kk he hT;cases hg:P.eqGuardType P.depth t with
    |true=>rw[hg]at hk;simp at hk
    |false=>
     rw[hg]at hk;simp only[cond_false,sJ]at hk;subst hk;simp only[ar]at hp hq;obtain⟨xs,rfl,hx⟩:=hp;obtain⟨ys,rfl,hy⟩:=hq;obtain⟨hc1,i0,hi0⟩:=Md hT;have heq:(Op.equalIn 10000 t (.agg xs) (.agg ys)).run P w=.ok b w:=by show(Op.equalIn (9998+1+1) t (.agg xs) (.agg ys)).run P w=_;rw[run_equalIn_array w (9998+1) xs ys hu hi0,hc1,List.range_eq_range'];exact LQ he (eB hT) hx hy 9998 n 0 b h
     rcases ho with rfl|rfl
     ·simp only[Sem.run_bind,run_eqGuard_agg w _ t x y xs ys hg,Result.andThen_ok,run_eql_struct,heq]
     ·simp only[Sem.run_bind,run_eqGuard_agg w _ t x y xs ys hg,Result.andThen_ok,run_neq_struct,heq]
   ·simp at hk
  ·simp at hk
 ·unfold P9 at hk;cases hg:P.eqGuardType P.depth t with
  |true=>rw[hg]at hk;simp at hk
  |false=>
   rw[hg]at hk;simp only[cond_false]at hk;simp only[ar]at hp hq;obtain⟨xs,rfl,hx⟩:=hp;obtain⟨ys,rfl,hy⟩:=hq;have heq:(Op.equalIn 10000 t (.agg xs) (.agg ys)).run P w=.ok b w:=Hs 8 9991 hk hx hy h;rcases ho with rfl|rfl
   ·simp only[Sem.run_bind,run_eqGuard_agg w _ t x y xs ys hg,Result.andThen_ok,run_eql_struct,heq]
   ·simp only[Sem.run_bind,run_eqGuard_agg w _ t x y xs ys hg,Result.andThen_ok,run_neq_struct,heq]
end
end Go.Abs
namespace Go.Abs
section
variable {P:Program} {Prot:Gh} {w0:World} {ρ:Pl} {H H':aa} {w:World}
def I4(P:Program)(t:TypeId):Option iV:=match P.underlying t,ef P t with
 |some (.pointer e),some (false,1)=>match ef P e with
  |some (_,n)=>bif Nat.beq n 0 then none else some .p
  |none=>none
 |some (.int _),some (false,1)=>some .i
 |some .string,some (false,1)=>some .s
 |_,_=>none
def Ab(P:Program)(t:TypeId):Option (iV×iV):=match P.underlying t with
 |some (.struct fs)=>match fs.toList with
  | [f,g]=>match I4 P f.type,I4 P g.type with
   | some a, some b => bif !P.stoodInHeld t && (!(f.name == "_") && (!(g.name == "_") && (Nat.beq f.offset 0 && Nat.beq g.offset 1))) then some (a, b) else none
   |_,_=>none
  |_=>none
 |_=>none
structure PK(P:Program)(t:TypeId)(ks:iV×iV)(f g:Field)(fs:Array Field):Prop where
 ht:P.underlying t=some (.struct fs)
 hl:fs.toList=[f,g]
 hp:P.stoodInHeld t=false
 hf:I4 P f.type=some ks.1
 hg:I4 P g.type=some ks.2
 nf : f.name ≠ "_"
 ng : g.name ≠ "_"
 of_:f.offset=0
 og:g.offset=1
def sM{t:TypeId}{ks:iV×iV}(h:Ab P t=some ks):∃f g fs,PK P t ks f g fs:=by
 unfold Ab at h;split at h
 ·rename_i fs hu;split at h
  ·rename_i f g hl;split at h
   ·rename_i a b ha hb;cases hc : (!P.stoodInHeld t && (!(f.name == "_") && (!(g.name == "_") && (Nat.beq f.offset 0 && Nat.beq g.offset 1)))) with
    |false=>rw[hc]at h;simp at h
    |true=>rw[hc]at h;simp only[cond_true,sJ]at h;subst h;simp only[XA,Bool.not_eq_true']at hc;obtain⟨q1,q2,q3,q4,q5⟩:=hc;exact⟨f,g,fs,hu,hl,q1,ha,hb,by simpa using q2,by simpa using q3,XF q4,XF q5⟩
   ·simp at h
  ·simp at h
 ·simp at h
inductive Sr(P:Program)(t:TypeId):iV->Prop
 |p (e:TypeId) (a:Bool) (n:Nat) (h:P.underlying t=some (.pointer e)) (he:ef P e=some (a,n)) (hn:n≠0):Sr P t .p
 |i (k:IntKind) (h:P.underlying t=some (.int k)):Sr P t .i
 |s (h:P.underlying t=some .string):Sr P t .s
def uH{t:TypeId}{kd:iV}(h:I4 P t=some kd):ef P t=some (false,1)/\Sr P t kd:=by
 unfold I4 at h;split at h
 ·rename_i e hu ht;split at h
  ·rename_i a n hn;cases hc:Nat.beq n 0 with
   |true=>rw[hc]at h;simp at h
   |false=>rw[hc]at h;simp only[cond_false,sJ]at h;subst h;exact⟨ht,.p e a n hu hn λe=>by rw[e]at hc;simp at hc⟩
  ·simp at h
 ·rename_i k hu ht;simp only[sJ]at h;subst h;exact⟨ht,.i k hu⟩
 ·rename_i hu ht;simp only[sJ]at h;subst h;exact⟨ht,.s hu⟩
 ·simp at h
def lJ{t:TypeId}(ht:ef P t=some (false,1)){xs:Array Value}{off:Nat}{u:Value}(h:xs[off]?=some u):(part t xs off).run P w=.ok u w:=by simp[part,(eB ht).agg,h]
def vI{a b:Addr}{ca cb:Array Value}{ta tb:TypeId}{l1 h1 l2 h2:Nat}(hne:a.block≠b.block)(ha:w.heap[a.block]?=some (.cells ca ta (l1,h1)))(hb:w.heap[b.block]?=some (.cells cb tb (l2,h2)))(e1:h1<=l1)(e2:h2<=l2) :
  (sameAddr a b).run P w=.ok false w:=by
 have f1:∀o s,w.frozen? ⟨a.block,o,s⟩=false:=λo s=>by unfold World.frozen?;simp only[ha];simp;omega
 have f2:∀o s,w.frozen? ⟨b.block,o,s⟩=false:=λo s=>by unfold World.frozen?;simp only[hb];simp;omega
 have g1:w.frozen? a=false:=f1 a.off _;have g2:w.frozen? b=false:=f2 b.off _;simp[sameAddr,hne,ha,hb,g1,g2,f1,f2,noView,viewAt,World.shape?,mayBeOne,stringish]
def N2(R:cX Prot w0 ρ H w){a c:Ad}{b:Bool}(h:KI H.get a c=some b){L M:DN}(l1:ρ a.b a.lim=some L)(l2:L.sh<=a.o)(m1:ρ c.b c.lim=some M)(m2:M.sh<=c.o) :
  (sameAddr ⟨L.c,a.o-L.sh,none⟩ ⟨M.c,c.o-M.sh,none⟩).run P w=.ok b w/\(b=true->(⟨L.c,a.o-L.sh,none⟩:Addr)=⟨M.c,c.o-M.sh,none⟩):=by
 unfold KI at h;cases hb:Nat.beq a.b c.b with
 |true=>
  rw[hb]at h;simp only[cond_true]at h;cases hl:Nat.beq a.lim c.lim with
  |false=>rw[hl]at h;simp at h
  |true=>
   rw[hl]at h;simp only[cond_true,sJ]at h;subst h;rw[XF hb,XF hl,m1]at l1;obtain rfl:=(sJ _ _).mp l1;cases ho:Nat.beq a.o c.o with
   |true=>rw[XF ho];exact⟨by simp[sameAddr],λ_=>rfl⟩
   |false=>
    have hne:a.o-M.sh≠c.o-M.sh:=λe=>by have:a.o=c.o:=om;rw[this,Nat.beq_refl]at ho;simp at ho
    exact⟨by simp[sameAddr,hne],λe=>by simp at e⟩
 |false=>
  rw[hb]at h;simp only[cond_false]at h;have hne:a.b≠c.b:=λe=>by rw[e,Nat.beq_refl]at hb;simp at hb
  split at h
  ·rename_i lx _ ly _ hx hy;simp only[sJ]at h;subst h;obtain⟨x,o,g1,g2,g3⟩:=R.obj _ _ _ l1;obtain⟨y,p,k1,k2,k3⟩:=R.obj _ _ _ m1;rw[hx]at g1;rw[hy]at k1;obtain rfl:=Option.some.inj g1;obtain rfl:=Option.some.inj k1;simp only[gM]at g3 k3;obtain⟨C,e,lo,hi,rfl,_,q1,_,_⟩:=g3;obtain⟨C',e',lo',hi',rfl,_,q2,_,_⟩:=k3;have hc:L.c≠M.c:=λe=>hne (R.inj _ _ _ _ _ _ _ l1 m1 e hx rfl).1;exact⟨vI (a:=⟨L.c,a.o-L.sh,none⟩) (b:=⟨M.c,c.o-M.sh,none⟩) hc g2 k2 ((q1 trivial).2.2 rfl) ((q2 trivial).2.2 rfl),λe=>by simp at e⟩
  ·simp at h
def Af(R:cX Prot w0 ρ H w){t:TypeId}{kd:iV}(K:Sr P t kd){x y:ae}{u v:Value}{b:Bool}(h:B1 H.get kd x y=some b)(hx:ar ρ x u)(hy:ar ρ y v) :
  (∀d,(Op.equalIn (d+1) t u v).run P w=.ok b w)/\(b=true->v=u):=by
 cases K with
 |p e a n hu he hn=>
  unfold B1 at h;split at h<;>first|(simp at h;done)|skip
  all_goals first|(rename_i heq;cases heq;done)|skip
  rename_i a' c;simp only[ar]at hx hy;obtain⟨L,l1,l2,rfl⟩:=hx;obtain⟨M,m1,m2,rfl⟩:=hy;obtain⟨q1,q2⟩:=N2 (P:=P) R h l1 l2 m1 m2;have hs:=(eB he).size;exact⟨λd=>by simp[Op.equalIn,run_underlying hu,hs,hn,q1],λhb=>by rw[q2 hb]⟩
 |i k hu=>
  unfold B1 at h;split at h<;>first|(simp at h;done)|skip
  all_goals first|(rename_i heq;cases heq;done)|skip
  simp only[ar]at hx hy;subst hx hy;split at h
  ·rename_i hk;simp only[sJ]at h;subst hk;refine⟨λd=>?_,λhb=>?_⟩
   ·rw[<- h,gd];simp[Op.equalIn,run_underlying hu]
   ·rw[hb,gd]at h;simp only[beq_iff_eq]at h;rw[h]
  ·simp at h
 |s hu=>
  unfold B1 at h;split at h<;>first|(simp at h;done)|skip
  all_goals first|(rename_i heq;cases heq;done)|skip
  rename_i a' c;simp only[ar]at hx hy;subst hx hy;simp only[sJ]at h;refine⟨λd=>?_,λhb=>?_⟩
  ·simp[Op.equalIn,run_underlying hu,sD,h]
  ·rw[hb]at h;rw[eq_of_beq h]
def LF{t:TypeId}{kd:iV}(K:Sr P t kd)(em:Bool)(d:Nat)(u:Value):(Instr.checkKey em (d+1) t u).run P w=.ok () w:=by
 cases K with
 |p e a n hu he hn=>simp[Instr.checkKey,run_underlying hu]
 |i k hu=>exact Mc hu em d u
 |s hu=>simp[Instr.checkKey,run_underlying hu]
def oL{x y:ae}{u:Value}(h:ar ρ (.agg [x,y]) u):∃(xs:Array Value) (a b:Value),u=.agg xs/\xs.toList=[a,b]/\ar ρ x a/\ar ρ y b/\xs[0]?=some a/\xs[1]?=some b:=by
 simp only[ar,aE]at h;obtain⟨xs,rfl,a,_,e,ha,b,_,rfl,hb,rfl⟩:=h;refine⟨xs,a,b,rfl,e,ha,hb,?_,?_⟩
 ·rw[<- Array.getElem?_toList,e];rfl
 ·rw[<- Array.getElem?_toList,e];rfl
def GJ(R:cX Prot w0 ρ H w){t:TypeId}{ks:iV×iV}{f g:Field}{fs:Array Field}(K:PK P t ks f g fs){x y:ae}{u v:Value}{b:Bool}(h:IP H.get ks x y=some b)(hx:ar ρ x u)(hy:ar ρ y v) :
  (Op.equal t u v).run P w=.ok b w/\(b=true->v=u):=by
 unfold IP at h;split at h<;>first|(simp at h;done)|skip
 rename_i x1 x2 y1 y2;obtain⟨xs,a1,a2,rfl,ex,ha1,ha2,g1,g2⟩:=oL hx;obtain⟨ys,b1,b2,rfl,ey,hb1,hb2,k1,k2⟩:=oL hy;obtain⟨tf,kf⟩:=uH K.hf;obtain⟨tg,kg⟩:=uH K.hg;have px:(part f.type xs f.offset).run P w=.ok a1 w:=lJ tf (by rw[K.of_];exact g1);have py:(part f.type ys f.offset).run P w=.ok b1 w:=lJ tf (by rw[K.of_];exact k1);have gx:(part g.type xs g.offset).run P w=.ok a2 w:=lJ tg (by rw[K.og];exact g2);have gy:(part g.type ys g.offset).run P w=.ok b2 w:=lJ tg (by rw[K.og];exact k2);have hfo:P.fieldsOf t=fs:=by simp[Program.fieldsOf,K.ht]
 have run:(Op.equal t (.agg xs) (.agg ys)).run P w=(Op.eqFields 9999 xs ys [f,g]).run P w:=by show(Op.equalIn (9999+1) t (.agg xs) (.agg ys)).run P w=_;rw[run_equalIn_struct w 9999 t xs ys (by rw[hfo];exact K.ht) K.hp,hfo,K.hl]
 rw[run];split at h
 ·rename_i h1;obtain⟨q1,q2⟩:=Af (P:=P) R kf h1 ha1 hb1;obtain⟨r1,r2⟩:=Af (P:=P) R kg h ha2 hb2;refine⟨?_,λhb=>?_⟩
  ·have gen:∀d,(Op.eqFields (d+1) xs ys [f,g]).run P w=.ok b w:=λd=>?_
   ·exact gen 9998
   simp only[Op.eqFields,K.nf,K.ng,ne_eq,not_false_eq_true,if_true,Sem.run_bind,px,py,Result.andThen_ok,q1,gx,gy,r1,Bool.not_true,XJ,if_false];cases b<;>simp
  ·congr 1;apply Array.toList_inj.1;rw[ex,ey,q2 rfl,r2 hb]
 ·rename_i h1;simp only[sJ]at h;subst h;obtain⟨q1,_⟩:=Af (P:=P) R kf h1 ha1 hb1;refine⟨?_,by simp⟩;have gen:∀d,(Op.eqFields (d+1) xs ys [f,g]).run P w=.ok false w:=λd=>?_
  ·exact gen 9998
  simp only[Op.eqFields,K.nf,ne_eq,not_false_eq_true,if_true,Sem.run_bind,px,py,Result.andThen_ok,q1,Bool.not_false];simp
 ·simp at h
def KH(R:cX Prot w0 ρ H w){t:TypeId}{ks:iV×iV}(hk:Ab P t=some ks){x:ae}{v:Value}(hx:ar ρ x v):∀(es:List kX) (ES:List MapEntry) (i:Nat) (r:Option (Nat×kX)),aP ρ es ES->kC H.get ks x es i=some r ->
  ∃r',(Instr.findAsking t v ES i).run P w=.ok r' w/\mM ρ v es ES i r r':=by
 obtain⟨f,g,fs,K⟩:=sM hk;intro es;induction es with
 |nil=>intro ES i r hE h;simp only[kC,sJ]at h;simp only[aP]at hE;subst h hE;exact⟨none,rfl,rfl⟩
 |cons e0 es ih=>
  intro ES i r hE h;simp only[aP]at hE;obtain⟨E,ES',rfl,hEE,hE⟩:=hE;obtain⟨he1,he2,he3⟩:=hEE;simp only[kC]at h;split at h
  ·rename_i hb;simp only[sJ]at h;subst h;obtain⟨k1,k2⟩:=GJ R K hb hx he1;exact⟨some (i,E.val),by simp[Instr.findAsking,k1],Nat.le_refl _,E,rfl,by simp,by simp,⟨he1,he2,he3⟩,k2 rfl⟩
  ·rename_i hb;obtain⟨k1,k2⟩:=GJ R K hb hx he1;obtain⟨r',q1,q2⟩:=ih ES' (i+1) r hE h;exact⟨r',by simp[Instr.findAsking,k1,q1],q2.step⟩
  ·simp at h
def uC(R:cX Prot w0 ρ H w){t:TypeId}{ks:iV×iV}(hk:Ab P t=some ks){x:ae}{v:Value}(hx:ar ρ x v){es:List kX}{ES:List MapEntry}{r:Option (Nat×kX)}(hE:aP ρ es ES)(h:kC H.get ks x es 0=some r) :
  ∃r',(Instr.findKey t v ES).run P w=.ok r' w/\mM ρ v es ES 0 r r':=by
 obtain⟨f,g,fs,K⟩:=sM hk;cases es with
 |nil=>simp only[kC,sJ]at h;simp only[aP]at hE;subst h hE;exact⟨none,by simp[Instr.findKey,run_underlying K.ht,Instr.findNow],rfl⟩
 |cons e0 es=>
  obtain⟨r',q1,q2⟩:=KH R hk hx (e0::es) ES 0 r hE h;refine⟨r',?_,q2⟩;simp only[aP]at hE;obtain⟨E,ES',rfl,_,_⟩:=hE;have hn:Instr.findNow (.struct fs) v (E::ES') 0=none:=by
   unfold Instr.findNow;have:Instr.sameNow (.struct fs) v E.key=none:=by cases v<;>cases E.key<;>rfl
   rw[this]
  simp[Instr.findKey,run_underlying K.ht,hn,q1]
def oR{t:TypeId}{ks:iV×iV}(hk:Ab P t=some ks){x:ae}{v:Value}(hx:ar ρ x v)(hi:xE ks x=true)(em:Bool):(Instr.checkKey em 10000 t v).run P w=.ok () w:=by
 obtain⟨f,g,fs,K⟩:=sM hk;unfold xE at hi;split at hi
 ·rename_i a b;obtain⟨xs,a1,a2,rfl,ex,ha1,ha2,g1,g2⟩:=oL hx;obtain⟨tf,kf⟩:=uH K.hf;obtain⟨tg,kg⟩:=uH K.hg;have u1:(part f.type xs f.offset).run P w=.ok a1 w:=lJ tf (by rw[K.of_];exact g1);have v1:(part g.type xs g.offset).run P w=.ok a2 w:=lJ tg (by rw[K.og];exact g2);have c1:∀d,(Instr.checkKey em (d+1) f.type a1).run P w=.ok () w:=λd=>LF kf em d _;have c2:∀d,(Instr.checkKey em (d+1) g.type a2).run P w=.ok () w:=λd=>LF kg em d _;have gen:∀d,(Instr.checkKey em (d+1+1) t (.agg xs)).run P w=.ok () w:=λd=>?_
  ·exact gen 9998
  rw[Instr.checkKey];simp only[Sem.run_bind,run_underlying K.ht,Result.andThen_ok];rw[<- Array.forIn_toList,K.hl];simp[K.nf,K.ng,u1,v1,c1,c2]
 ·simp at hi
def KG(R:cX Prot w0 ρ H w){t kt el:TypeId}(hm:P.underlying t=some (.map kt el)){ks:iV×iV}(hk:Ab P kt=some ks){z:ae}(hz:Bg P el=some z){ok:Bool}{m k y:ae}{mv kv:Value}(hx:ar ρ m mv)(hy:ar ρ k kv)
  (h:qq ks ok z H [m,k]=some (y,H')):jl P Prot w0 ρ w (Instr.lookup t mv kv ok) y H':=by
 obtain⟨zv,hz1,hz2⟩:=Bf hz;unfold qq at h;split at h<;>first|(simp at h;done)|skip
 rename_i r k' heq;simp only[List.cons.injEq,and_true]at heq;obtain⟨rfl,rfl⟩:=heq;split at h<;>first|(simp at h;done)|skip
 rename_i es c hH;obtain⟨L,ES,hL,rfl,hb,hE⟩:=Am R hx hH;split at h<;>first|(simp at h;done)|skip
 rename_i v hv;simp only[sJ,pJ]at h;obtain⟨rfl,rfl⟩:=h;unfold uT at hv;cases hi:xE ks k with
 |false=>rw[hi]at hv;simp at hv
 |true=>
  rw[hi]at hv;simp only[cond_true]at hv;split at hv<;>first|(simp at hv;done)|skip
  ·rename_i j e hf;simp only[sJ]at hv;subst hv;obtain⟨r',q1,q2⟩:=uC R hk hy hE hf;obtain⟨_,E,rfl,_,_,⟨_,he2,_⟩,_⟩:=q2;refine jl.pure R (v:=if ok=true then .tuple #[E.val,.bool true]else E.val) ?_ (vK ok he2 true);simp[Instr.lookup,run_underlying hm,MapKept.run_getObj_map hb,oR (w:=w) hk hy hi,q1,Result.andThen]
  ·rename_i hf;simp only[sJ]at hv;subst hv;obtain⟨r',q1,q2⟩:=uC R hk hy hE hf;simp only[mM]at q2;subst q2;refine jl.pure R (v:=if ok=true then .tuple #[zv,.bool false]else zv) ?_ (vK ok (hz2 ρ) false);simp[Instr.lookup,run_underlying hm,MapKept.run_getObj_map hb,oR (w:=w) hk hy hi,q1,hz1,Result.andThen]
def Dd{kd:iV}{x:ae}{v:Value}(hx:ar ρ x v)(hi:VM kd x=true)(d:Nat):Instr.sameBits (d+1) v v=true:=by
 unfold VM at hi;split at hi<;>first|(simp at hi;done)|skip
 ·simp only[ar]at hx;obtain⟨L,l1,l2,rfl⟩:=hx;simp[Instr.sameBits]
 ·simp only[ar]at hx;subst hx;simp[Instr.sameBits]
 ·simp only[ar]at hx;subst hx;simp[Instr.sameBits,sD]
def IO{ks:iV×iV}{x:ae}{v:Value}(hx:ar ρ x v)(hi:xE ks x=true):(Instr.keyThatStays v v).run P w=.ok v w:=by
 have:Instr.sameBits 10000 v v=true:=by
  unfold xE at hi;split at hi
  ·obtain⟨xs,a1,a2,rfl,ex,ha1,ha2,g1,g2⟩:=oL hx;simp only[XA]at hi;have e1:=Dd ha1 hi.1;have e2:=Dd ha2 hi.2;show Instr.sameBits (9999+1) _ _=true;have gen:∀d,Instr.sameBits (d+1+1) (.agg xs) (.agg xs)=true:=λd=>by simp[Instr.sameBits,ex,e1,e2]
   exact gen 9998
  ·simp at hi
 simp[Instr.keyThatStays,this]
def N1(R:cX Prot w0 ρ H w){t kt el:TypeId}(hm:P.underlying t=some (.map kt el)){ks:iV×iV}(hk:Ab P kt=some ks){m k x y:ae}{mv kv xv:Value}(hx:ar ρ m mv)(hy:ar ρ k kv)(hv0:ar ρ x xv)
  (h:zF ks H [m,k,x]=some (y,H')):y=.tuple []/\∃w',(Instr.mapUpdate t mv kv xv).run P w=.ok () w'/\cX Prot w0 ρ H' w':=by
 unfold zF at h;split at h<;>first|(simp at h;done)|skip
 rename_i r k' x' heq;simp only[List.cons.injEq,and_true]at heq;obtain⟨rfl,rfl,rfl⟩:=heq;split at h<;>first|(simp at h;done)|skip
 rename_i es c hH;obtain⟨L,ES,hL,rfl,hb,hE⟩:=Am R hx hH;split at h<;>first|(simp at h;done)|skip
 rename_i es' c' hv;simp only[sJ,pJ]at h;obtain⟨rfl,rfl⟩:=h;unfold AV at hv;cases hi:xE ks k with
 |false=>rw[hi]at hv;simp at hv
 |true=>
  rw[hi]at hv;simp only[cond_true]at hv;split at hv<;>first|(simp at hv;done)|skip
  ·rename_i j e hf;simp only[sJ,pJ]at hv;obtain⟨rfl,rfl⟩:=hv;obtain⟨r',q1,q2⟩:=uC R hk hy hE hf;obtain⟨_,E,rfl,q3,q4,⟨he1,he2,he3⟩,q5⟩:=q2;rw[Nat.sub_zero,Array.getElem?_toList]at q4;refine⟨rfl,_,?_,qT R hL hH (ES':=ES.modify j λe=>{ e with key:=kv,val:=xv }) (by
    rw[vY q4];exact hE.set j ⟨hy,hv0,he3⟩)⟩
   simp[Instr.mapUpdate,run_underlying hm,MapKept.run_getObj_map hb,oR (w:=w) hk hy hi,q1,q4,q5,IO (w:=w) hy hi,MapKept.run_setObj_map _ hb,Result.andThen]
  ·rename_i hf;simp only[sJ,pJ]at hv;obtain⟨rfl,rfl⟩:=hv;obtain⟨r',q1,q2⟩:=uC R hk hy hE hf;simp only[mM]at q2;subst q2;refine⟨rfl,_,?_,qT R hL hH (ES':=ES.push { key:=kv,val:=xv,born:=c }) (by
    rw[Array.toList_push];refine hE.append ?_;simp only[aP];exact⟨_,_,rfl,⟨hy,hv0,rfl⟩,rfl⟩)⟩
   simp[Instr.mapUpdate,run_underlying hm,MapKept.run_getObj_map hb,oR (w:=w) hk hy hi,q1,MapKept.run_setObj_map _ hb,Result.andThen]
end
end Go.Abs
namespace Go.Abs
def mT:Nat:=1024
inductive bW where
 |t (i:Nat)
 |c (v:ae)
 |f (id:FuncId)
inductive jz where
 |mv (x:bW)
 |pick (c a b:bW)
 |new (zero:List ae)
 |box (x:bW)
 |build (zero:List ae) (parts:List (Nat×Nat×bW))
 |buildSl (len:Nat) (zero:List ae) (parts:List (Nat×Nat×bW))
 |load (agg:Bool) (size:Nat) (x:bW)
 |store (size:Nat) (a x:bW)
 |nilChk (x:bW)
 |bin (op:BinOp) (x y:bW)
 |un (op:UnOp) (x:bW)
 |conv (k:IntKind) (x:bW)
 |convSB (x:bW)
 |convBS (x:bW)
 |mkFunc (fn:Fn) (first captured:List bW)
 |mkIface (t:TypeId) (x:bW)
 |mkSlice (bytes:Nat) (zero:List ae) (l c:bW)
 |sl (size:Nat) (x:bW) (lo hi mx:Option bW)
 |slStr (x:bW) (lo hi:Option bW)
 |fieldA (off:Nat) (x:bW)
 |field (agg:Bool) (size off:Nat) (x:bW)
 |idxA (size:Nat) (x i:bW)
 |idxArr (n size:Nat) (x i:bW)
 |idx (n size:Nat) (agg:Bool) (x i:bW)
 |idxS (x i:bW)
 |extract (i:Nat) (x:bW)
 |append (size bytes:Nat) (s x:bW)
 |len (str:Bool) (x:bW)
 |call (f:FuncId) (args:List bW)
 |callv (f:bW) (args:List bW)
 |pf (f:PF) (xs:List bW)
 |hf (f:HF) (xs:List bW)
 |bad
 |claim (b:Nat) (zero:List ae) (s:Option (Nat×Nat))
 |slA (n size:Nat) (x:bW) (lo hi mx:Option bW)
inductive Nx where
 |val (v:ae)
 |enter (f:FuncId) (args:List ae)
def cF:ae:=.tuple []
def ev(T:Tr ae):bW->ae
 | .t i=>match T.get i with
  |some v=>v
  |none=>cF
 | .c v=>v
 | .f id=>.func (.func id) [] []
def pF(T:Tr ae):List bW->List ae
 | []=>[]
 |x::r=>ev T x::pF T r
def Hm(T:Tr ae):Option bW->Option ae
 |none=>none
 |some x=>some (ev T x)
def Jg(T:Tr ae):List (Nat×Nat×bW)->List (Nat×Nat×ae)
 | []=>[]
 |(o,n,x)::r=>(o,n,ev T x)::Jg T r
def vv(H:aa):Option ae->Option (Nx×aa)
 |some v=>some (.val v,H)
 |none=>none
def vh:Option (ae×aa)->Option (Nx×aa)
 |some (v,H)=>some (.val v,H)
 |none=>none
def dt:ae->Option ae
 | .ptr none=>none
 | .nilIface=>none
 | .nilFunc=>none
 | .func (.method _) _ _=>none
 | .val _=>none
 |x=>some x
def ez(str:Bool):ae->Option ae
 | .str s=>bif str then some (.int .i64 s.length)else none
 | .slice _ n _=>bif str then none else some (.int .i64 n)
 | .val (.slice _ n _)=>bif str then none else some (.int .i64 n)
 |_=>none
def dZ(tb:FuncId->Bool)(T:Tr ae)(H:aa):jz->Option (Nx×aa)
 | .mv x=>some (.val (ev T x),H)
 | .pick c a b=>match ev T c with
  | .bool b'=>some (.val (bif b' then ev T a else ev T b),H)
  |_=>none
 | .new z=>vh (some (ga H z))
 | .box x=>vh (some (ga H (ev T x).cells))
 | .build z ps=>vv H (aJ z (Jg T ps))
 | .buildSl n z ps=>vh (aL n z H (Jg T ps))
 | .load a n x=>vv H (al a n H (ev T x))
 | .store n a x=>match bh n H (ev T a) (ev T x)with
  |some H'=>some (.val cF,H')
  |none=>none
 | .nilChk x=>vv H (dt (ev T x))
 | .bin op x y=>vv H (cT op (ev T x) (ev T y))
 | .un op x=>vv H (MQ op (ev T x))
 | .conv k x=>vv H (uj k (ev T x))
 | .convSB x=>vh (RZ H (ev T x))
 | .convBS x=>vv H (FX H (ev T x))
 | .mkFunc fn a b=>some (.val (.func fn (pF T a) (pF T b)),H)
 | .mkIface t x=>some (.val (.iface t (ev T x)),H)
 | .mkSlice b z l c=>vh (Ij b z H (ev T l) (ev T c))
 | .sl n x lo hi mx=>vv H (Ii n (ev T x) (Hm T lo) (Hm T hi) (Hm T mx))
 | .slStr x lo hi=>vv H (eU (ev T x) (Hm T lo) (Hm T hi))
 | .fieldA o x=>vv H (jq o (ev T x))
 | .field a n o x=>vv H (pg a n o (ev T x))
 | .idxA n x i=>vv H (jk n (ev T x) (ev T i))
 | .idxArr m n x i=>vv H (kU m n (ev T x) (ev T i))
 | .idx m n a x i=>vv H (Dt m n a (ev T x) (ev T i))
 | .idxS x i=>vv H (lU (ev T x) (ev T i))
 | .extract i x=>vv H (gA i (ev T x))
 | .append n b s x=>vh (a8 n b H (ev T s) (ev T x))
 | .len s x=>vv H (ez s (ev T x))
 | .call f args=>bif tb f then some (.enter f (pF T args),H)else none
 | .callv f args=>match ev T f with
  | .func (.func f) a b=>bif Nat.blt f mT&&tb f then some (.enter f (a++pF T args++b),H)else none
  |_=>none
 | .pf f xs=>vv H (mV f (pF T xs))
 | .hf f xs=>vh (kj f H (pF T xs))
 | .bad=>none
 | .claim b z s=>vv H (ec H b z s)
 | .slA m n x lo hi mx=>vv H (j9 m n (ev T x) (Hm T lo) (Hm T hi) (Hm T mx))
section
variable (P:Program)
def dF:Operand->Option bW
 | .tmp t=>some (.t t)
 | .const v=>match Pn v with
  |some x=>some (.c x)
  |none=>none
 | .global _=>none
 | .func f=>some (.f f)
def fI:List Operand->Option (List bW)
 | []=>some []
 |x::r=>match dF x,fI r with
  |some y,some l=>some (y::l)
  |_,_=>none
def pH:Option Operand->Option (Option bW)
 |none=>some none
 |some x=>match dF x with
  |some y=>some (some y)
  |none=>none
def oh(place:Nat->Option (Nat×Nat)):List (Nat×Operand)->Option (List (Nat×Nat×bW))
 | []=>some []
 |(i,x)::r=>match place i,dF x,oh place r with
  |some (o,n),some y,some l=>some ((o,n,y)::l)
  |_,_,_=>none
def ep(f:FuncId):Bool:=
 Nat.blt f mT&&match P.funcs[f]? with
 | some fn => fn.body.isSome && !(fn.name == "runtime.NumGoroutine")
 |none=>false
def pY(t:TypeId):Bool:=
 match P.underlying t with
 |some (.slice _)=>true
 |some .string=>true
 |_=>false
def lP(c:Call):Option jz:=
 match c.callee with
 | .value (.func f)=>bif Nat.blt f mT then match fI c.args.toList with
   |some l=>some (.call f l)
   |none=>none
  else none
 | .value x=>match dF x,fI c.args.toList with
  |some y,some l=>some (.callv y l)
  |_,_=>none
 | .builtin .append=>match c.argTypes.toList,fI c.args.toList with
  | [sT,xT],some [s,x]=>match P.underlying sT with
   |some (.slice e)=>match ef P e,Fq P e with
    |some (_,n),some (n',b)=>bif Nat.beq n n'&&pY P xT then some (.append n b s x)else none
    |_,_=>none
   |_=>none
  |_,_=>none
 | .builtin .len=>match c.argTypes.toList,fI c.args.toList with
  | [T],some [x]=>match P.underlying T with
   |some (.slice _)=>some (.len false x)
   |some .string=>some (.len true x)
   |_=>none
  |_,_=>none
 |_=>none
def C3(o:Op):Option jz:=
 match o with
 | .move x=>match dF x with|some y=>some (.mv y)|none=>none
 | .assign x=>match dF x with|some y=>some (.mv y)|none=>none
 | .pick c a b=>match dF c,dF a,dF b with|some c,some a,some b=>some (.pick c a b)|_,_,_=>none
 | .alloc e=>match gX P e with|some z=>some (.new z)|none=>none
 | .box _ x=>match dF x with|some y=>some (.box y)|none=>none
 | .build t ps=>match P.underlying t,gX P t with
  |some (.struct fs),some z=>match lI P fs.toList with
   |some pl=>match oh (λi=>pl[i]?) ps.toList with
    |some l=>some (.build z l)
    |none=>none
   |none=>none
  |some (.array _ e),some z=>match ef P e with
   |some (_,n)=>match oh (λi=>some (i*n,n)) ps.toList with
    |some l=>some (.build z l)
    |none=>none
   |none=>none
  |_,_=>none
 | .buildSlice t len ps=>match P.underlying t with
  |some (.slice e)=>match ef P e,gX P e with
   |some (_,n),some z=>match oh (λi=>some (i*n,n)) ps.toList with
    |some l=>bif Nat.beq z.length n&&Nat.ble (len*n) 16777216 then some (.buildSl len z l)else none
    |none=>none
   |_,_=>none
  |_=>none
 | .load t a=>match ef P t,dF a with|some (g,n),some y=>some (.load g n y)|_,_=>none
 | .store t a x=>match ef P t,dF a,dF x with|some (_,n),some a,some y=>some (.store n a y)|_,_,_=>none
 | .nilCheck x=>match dF x with|some y=>some (.nilChk y)|none=>none
 | .binOp op _ x y _=>match dF x,dF y with|some a,some b=>some (.bin op a b)|_,_=>none
 | .unOp op _ x=>match dF x with|some y=>some (.un op y)|none=>none
 | .convert s d x=>match dF x with
  |some y=>match P.underlying s,P.underlying d with
   |some _,some (.int k)=>some (.conv k y)
   |some .string,some (.slice e)=>match P.underlying e with
    |some (.int .u8)=>some (.convSB y)
    |_=>none
   |some (.slice e),some .string=>match P.underlying e with
    |some (.int .u8)=>some (.convBS y)
    |_=>none
   |_,_=>none
  |none=>none
 | .makeFunc fn a b=>match fI a.toList,fI b.toList with|some a,some b=>some (.mkFunc fn a b)|_,_=>none
 | .slice t x lo hi mx=>match P.underlying t,dF x,pH lo,pH hi,pH mx with
  |some .string,some x,some lo,some hi,some none=>some (.slStr x lo hi)
  |some (.slice e),some x,some lo,some hi,some mx=>match ef P e with
   |some (_,n)=>some (.sl n x lo hi mx)
   |none=>none
  |_,_,_,_,_=>none
 | .fieldAddr s x i=>match P.underlying s,dF x with
  |some (.struct fs),some y=>match fs[i]? with
   |some f=>match ef P f.type with
    |some (_,n)=>bif Nat.beq n 0 then none else some (.fieldA f.offset y)
    |none=>none
   |none=>none
  |_,_=>none
 | .field s x i=>match P.underlying s,dF x with
  |some (.struct fs),some y=>match fs[i]? with
   |some f=>match ef P f.type with
    |some (g,n)=>some (.field g n f.offset y)
    |none=>none
   |none=>none
  |_,_=>none
 | .indexAddr t x i=>match P.underlying t,dF x,dF i with
  |some (.slice e),some x,some i=>match ef P e with
   |some (_,n)=>some (.idxA n x i)
   |none=>none
  |some (.array m e),some x,some i=>match ef P e with
   |some (_,n)=>some (.idxArr m n x i)
   |none=>none
  |_,_,_=>none
 | .index t x i=>match P.underlying t,dF x,dF i with
  |some .string,some x,some i=>some (.idxS x i)
  |some (.array m e),some x,some i=>match ef P e with
   |some (g,n)=>some (.idx m n g x i)
   |none=>none
  |_,_,_=>none
 | .extract x i=>match dF x with|some y=>some (.extract i y)|none=>none
 | .call c=>lP P c
 |_=>none
def tv(o:Op):Option jz:=
 match o with
 | .binOp .eql t x y _=>match dF x,dF y with
  |some a,some b=>match ue P t x y with
   |some k=>some (.pf (.eqv false k) [a,b])
   |none=>match AA P t with
    |some fs=>some (.pf (.eqS false fs) [a,b])
    |none=>none
  |_,_=>none
 | .binOp .neq t x y _=>match dF x,dF y with
  |some a,some b=>match ue P t x y with
   |some k=>some (.pf (.eqv true k) [a,b])
   |none=>match AA P t with
    |some fs=>some (.pf (.eqS true fs) [a,b])
    |none=>none
  |_,_=>none
 | .slice t x lo hi mx=>match P.underlying t,dF x,pH lo,pH hi,pH mx with
  |some (.array m e),some x,some lo,some hi,some mx=>match ef P e with
   |some (_,n)=>some (.slA m n x lo hi mx)
   |none=>none
  |_,_,_,_,_=>none
 | .call c=>match c.callee with
  | .builtin .max=>match fI c.args.toList with
   |some l=>some (.pf (.mm true) l)
   |none=>none
  | .builtin .min=>match fI c.args.toList with
   |some l=>some (.pf (.mm false) l)
   |none=>none
  | .value (.func f)=>bif GY P f then match fI c.args.toList with
    |some l=>some (.pf .ibs l)
    |none=>none
   else bif GZ P f then match fI c.args.toList with
    |some l=>some (.pf .cbs l)
    |none=>none
   else none
  |_=>none
 | .indexAddr t (.global g) i=>match P.underlying t,dF i with
  |some (.array m e),some i=>match ef P e with
   |some (_,n)=>some (.hf (.gIdx g m n) [i])
   |none=>none
  |_,_=>none
 | .load t (.global g)=>match ef P t with
  |some (a,n)=>some (.hf (.gLd g a n) [])
  |none=>none
 | .makeMap _ none=>some (.hf .mkMap [])
 | .lookup t m k ok=>match P.underlying t,dF m,dF k with
  |some (.map kt el),some m,some k=>match Au P kt,Bg P el with
   |some kc,some z=>some (.hf (.mLook kc ok z) [m,k])
   |none,some z=>match Ab P kt with
    |some ks=>some (.hf (.pLook ks ok z) [m,k])
    |none=>none
   |_,_=>none
  |_,_,_=>none
 | .mapUpdate t m k x=>match P.underlying t,dF m,dF k,dF x with
  |some (.map kt _),some m,some k,some x=>match Au P kt with
   |some kc=>some (.hf (.mf (.upd kc)) [m,k,x])
   |none=>match Ab P kt with
    |some ks=>some (.hf (.pUpd ks) [m,k,x])
    |none=>none
  |_,_,_,_=>none
 | .insert t m k x=>match P.underlying t,dF m,dF k,dF x with
  |some (.map kt _),some m,some k,some x=>match Au P kt with
   |some kc=>some (.hf (.mf (.upd kc)) [m,k,x])
   |none=>none
  |_,_,_,_=>none
 |_=>none
def AN(o:Op):Option jz:=
 match tv P o with
 |some a=>some a
 |none=>match C3 P o with
  |some a=>some a
  |none=>some .bad
end
section
variable {P:Program} {Prot:Gh} {w0:World} {ρ:Pl} {H H':aa} {w:World}
structure bY(ρ:Pl)(n:Nat)(T:Tr ae)(tmps:Array Value):Prop where
 size:tmps.size=n
 at_:∀t,ar ρ (ev T (.t t)) (tmps.getD t undef)
def bY.mono{ρ ρ':Pl}{n:Nat}{T:Tr ae}{tmps:Array Value}(h:ρ.le ρ')(t:bY ρ n T tmps):bY ρ' n T tmps:=⟨t.size,λi=>ar.mono h _ _ (t.at_ i)⟩
def aY{n:Nat}{T:Tr ae}{a:Act}(h:bY ρ n T a.tmps){x:Operand}{y:bW}(hc:dF x=some y):ar ρ (ev T y) (a.eval x):=by
 cases x with
 |tmp t=>simp only[dF,sJ]at hc;subst hc;exact h.at_ t
 |const v=>
  simp only[dF]at hc;split at hc
  ·rename_i x hx;simp only[sJ]at hc;subst hc;exact Ih hx
  ·simp at hc
 |global g=>simp[dF]at hc
 |func f=>simp only[dF,sJ]at hc;subst hc;simp only[ev,Act.eval,ar];exact⟨#[],#[],rfl,by simp[aE],by simp[aE]⟩
def kD{n:Nat}{T:Tr ae}{a:Act}(h:bY ρ n T a.tmps):∀{l:List Operand} {m:List bW},fI l=some m->aE ρ (pF T m) (l.map a.eval):=by
 intro l;induction l with
 |nil=>intro m hc;simp only[fI,sJ]at hc;subst hc;simp[pF,aE]
 |cons x r ih=>
  intro m hc;simp only[fI]at hc;split at hc
  ·rename_i y l' h1 h2;simp only[sJ]at hc;subst hc;simp only[pF,List.map_cons,aE];exact⟨_,_,rfl,aY h h1,ih h2⟩
  ·simp at hc
def kE{n:Nat}{T:Tr ae}{a:Act}(h:bY ρ n T a.tmps){x:Option Operand}{y:Option bW}(hc:pH x=some y):ir ρ (Hm T y) (x.map a.eval):=by
 cases x with
 |none=>simp only[pH,sJ]at hc;subst hc;rfl
 |some x=>
  simp only[pH]at hc;split at hc
  ·rename_i z hz;simp only[sJ]at hc;subst hc;exact⟨_,rfl,aY h hz⟩
  ·simp at hc
def qK{n:Nat}{T:Tr ae}{a:Act}(h:bY ρ n T a.tmps){place:Nat->Option (Nat×Nat)}:∀{l:List (Nat×Operand)} {m:List (Nat×Nat×bW)},oh place l=some m ->
  fJ ρ place (Jg T m) (l.map λp=>(p.1,a.eval p.2)):=by
 intro l;induction l with
 |nil=>intro m hc;simp only[oh,sJ]at hc;subst hc;simp[Jg,fJ]
 |cons x r ih=>
  intro m hc;obtain⟨i,x⟩:=x;simp only[oh]at hc;split at hc
  ·rename_i o k y l' h1 h2 h3;simp only[sJ]at hc;subst hc;simp only[Jg,List.map_cons,fJ];exact⟨_,_,_,rfl,h1,aY h h2,ih h3⟩
  ·simp at hc
def oD(P:Program)(ρ:Pl):Nx->Next->Prop
 | .val x,.value v=>ar ρ x v
 | .val x,.skip=>ar ρ x undef
 | .enter f l,.enter g vs=>g=f/\Nat.blt f mT=true/\aE ρ l vs.toList
 |_,_=>False
def cw(P:Program)(Prot:Gh)(w0:World)(ρ:Pl)(w:World)(s:Sem Next)(nx:Nx)(H':aa):Prop:=∃ρ' w' n,ρ.le ρ'/\s.run P w=.ok n w'/\cX Prot w0 ρ' H' w'/\oD P ρ' nx n
def cw.val(R:cX Prot w0 ρ H w){x:ae}{s:Sem Value}(h:∃u,s.run P w=.ok u w/\ar ρ x u):cw P Prot w0 ρ w (do pure (.value (<- s))) (.val x) H:=by obtain⟨u,h1,h2⟩:=h;exact⟨ρ,w,.value u,Pl.le_refl _,by simp only[Sem.run_bind,h1,Result.andThen_ok];rfl,R,h2⟩
def cw.good{x:ae}{s:Sem Value}(h:jl P Prot w0 ρ w s x H'):cw P Prot w0 ρ w (do pure (.value (<- s))) (.val x) H':=by obtain⟨ρ',w',u,h1,h2,h3,h4⟩:=h;exact⟨ρ',w',.value u,h1,by simp only[Sem.run_bind,h2,Result.andThen_ok];rfl,h3,h4⟩
def cB{x:Option ae}{nx:Nx}(h:vv H x=some (nx,H')):∃y,x=some y/\nx=.val y/\H'=H:=by
 unfold vv at h;split at h
 ·simp only[sJ,pJ]at h;exact⟨_,rfl,h.1.symm,h.2.symm⟩
 ·simp at h
def fK{x:Option (ae×aa)}{nx:Nx}(h:vh x=some (nx,H')):∃y,x=some (y,H')/\nx=.val y:=by
 unfold vh at h;split at h
 ·simp only[sJ,pJ]at h;obtain⟨rfl,rfl⟩:=h;exact⟨_,rfl,rfl⟩
 ·simp at h
def IW(R:cX Prot w0 ρ H w){x y:ae}{v:Value}(hx:ar ρ x v)(h:dt x=some y)(o:Oper){q:Operand}(ev':Operand->Value)(hv:ev' q=v) :
  cw P Prot w0 ρ w (execOp ev' { o with op:=.nilCheck q }) (.val y) H:=by
 have hy:y=x/\(∀b,execOp ev' { o with op:=.nilCheck q }=pure (.value v)∨b=true):=by
  cases x with
  |val a=>simp[dt]at h
  |ptr a=>
   cases a with
   |none=>simp[dt]at h
   |some a=>simp only[dt,sJ]at h;simp only[ar]at hx;obtain⟨L,_,_,rfl⟩:=hx;exact⟨h.symm,λ_=>.inl (by simp[execOp,hv])⟩
  |nilIface=>simp[dt]at h
  |nilFunc=>simp[dt]at h
  |func fn a b=>
   cases fn<;>simp only[dt,sJ,reduceCtorEq]at h
   all_goals
    simp only[ar]at hx;obtain⟨f,c,rfl,_⟩:=hx;exact⟨h.symm,λ_=>.inl (by simp[execOp,hv])⟩
  |slice a n r=>
   simp only[dt,sJ]at h;have:∃b m c,v=.slice b m c:=by
    cases a with
    |none=>simp only[ar]at hx;exact⟨_,_,_,hx.2.2⟩
    |some a=>obtain⟨_,_,_,_,_,h3,_⟩:=iD hx;exact⟨_,_,_,h3⟩
   obtain⟨b,m,c,rfl⟩:=this;exact⟨h.symm,λ_=>.inl (by simp[execOp,hv])⟩
  |map a=>
   simp only[dt,sJ]at h;cases a with
   |none=>simp only[ar]at hx;subst hx;exact⟨h.symm,λ_=>.inl (by simp[execOp,hv])⟩
   |some a=>simp only[ar]at hx;obtain⟨L,_,rfl⟩:=hx;exact⟨h.symm,λ_=>.inl (by simp[execOp,hv])⟩
  |bool b=>simp only[dt,sJ]at h;simp only[ar]at hx;subst hx;exact⟨h.symm,λ_=>.inl (by simp[execOp,hv])⟩
  |int b c=>simp only[dt,sJ]at h;simp only[ar]at hx;subst hx;exact⟨h.symm,λ_=>.inl (by simp[execOp,hv])⟩
  |str b=>simp only[dt,sJ]at h;simp only[ar]at hx;subst hx;exact⟨h.symm,λ_=>.inl (by simp[execOp,hv])⟩
  |iface t b=>simp only[dt,sJ]at h;simp only[ar]at hx;obtain⟨_,rfl,_⟩:=hx;exact⟨h.symm,λ_=>.inl (by simp[execOp,hv])⟩
  |agg l=>simp only[dt,sJ]at h;simp only[ar]at hx;obtain⟨_,rfl,_⟩:=hx;exact⟨h.symm,λ_=>.inl (by simp[execOp,hv])⟩
  |tuple l=>simp only[dt,sJ]at h;simp only[ar]at hx;obtain⟨_,rfl,_⟩:=hx;exact⟨h.symm,λ_=>.inl (by simp[execOp,hv])⟩
 obtain⟨rfl,h2⟩:=hy;rcases h2 false with h2|h2
 ·exact⟨ρ,w,.value v,Pl.le_refl _,by rw[h2];rfl,R,hx⟩
 ·simp at h2
end
end Go.Abs
