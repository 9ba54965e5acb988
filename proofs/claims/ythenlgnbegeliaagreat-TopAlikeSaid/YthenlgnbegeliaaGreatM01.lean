/- Texts that the claim rests on: VCDefs, VCExec, VCQuiet, VCOps, VCOps2, VCOps3, VCHeap, VCEff, VCEff2, VCEff3, VCIn, VCDraw, VCDraw2, VCDraw3, VCDraw4, VCSound, VCMain, VCUse. No condition. -/
import Derived.Calls
import Derived.KernelRfl
import Derived.Laws.Cells
import Derived.Laws.Entries
import Derived.Laws.Slices
import Derived.Orders
import Derived.OwnWalkIn
import Derived.Scope
import Derived.ScopeJumps
import Derived.Tactics
import Derived.TacticsInMore
import Derived.Test.YthenlgnbegeliaaGreatChecked
import Derived.WideLaws
namespace Go
abbrev Value.i (n:Int):Value:=.int .i64 n
abbrev Value.u (x:UInt64):Value:=.int .u64 (x.toNat:Int)
abbrev Value.p (b o:Nat):Value:=.pointer (some ⟨b,o,none⟩)
end Go
namespace Go.VC
abbrev Heap:=Array Obj
def rd (H:Heap)(b o:Nat):Option Value:=
 match H[b]? with
 | some (.cells c _ _)=>c[o]?
 | _=>none
def fz (H:Heap)(b o:Nat):Bool:=
 match H[b]? with
 | some (.cells _ _ (lo,hi))=>lo<=o && o<hi
 | _=>false
def updCell (o:Nat)(v:Value):Obj->Obj
 | .cells c e f=>.cells (c.setIfInBounds o v) e f
 | x=>x
def wr (H:Heap)(b o:Nat)(v:Value):Heap:=H.modify b (updCell o v)
def RdL (H:Heap)(b:Nat):Nat->List Value->Prop
 | _,[]=>True
 | o,v ::vs=>rd H b o=some v/\RdL H b (o+1) vs
def wrL (H:Heap)(b:Nat):Nat->List Value->Heap
 | _,[]=>H
 | o,v ::vs=>wrL (wr H b o v) b (o+1) vs
def WOk (H:Heap)(b o n:Nat):Prop:=∀i,i<n->(rd H b (o+i)).isSome=true/\fz H b (o+i)=false
def New (H:Heap)(cs:List Value)(t:TypeId)(H':Heap)(p:Nat):Prop:=p=H.size/\H'=H.push (.cells cs.toArray t)
def One:Value->Prop
 | .agg _ | .tuple _=>False
 | _=>True
def I64 (n:Int):Prop:=-9223372036854775808<=n/\n<=9223372036854775807
inductive SV where
 | op (v:Value)
 | int (k:IntKind) (n:Int)
 | u64 (x:UInt64)
 | pr (p:Prop) (d:Decidable p)
 | bl (c:Bool)
 | tt|ff
 | ptr (b o:Nat)
 | nil
 | slc (a:Option Addr) (len cap:Nat)
 | agg (cs:List Value)
 | tup (cs:List SV)
 | fn (f:FuncId) (first cap:List Value)
 | undef
mutual
def SV.den:SV->Value
 | .op v=>v
 | .int k n=>.int k n
 | .u64 x=>.int .u64 (x.toNat:Int)
 | .pr p d=>.bool (@decide p d)
 | .bl c=>.bool c
 | .tt=>.bool true
 | .ff=>.bool false
 | .ptr b o=>.pointer (some ⟨b,o,none⟩)
 | .nil=>.pointer none
 | .slc a l c=>.slice a l c
 | .agg cs=>.agg cs.toArray
 | .tup cs=>.tuple (denL cs).toArray
 | .fn f a b=>.func (.func f) a.toArray b.toArray
 | .undef=>Go.undef
def denL:List SV->List Value
 | []=>[]
 | v ::r=>v.den ::denL r
end
def SV.oneP:SV->Prop->Prop
 | .op v,p=>One v/\p
 | .agg _,_ | .tup _,_ | .undef,_=>False
 | _,p=>p
def SV.cells:SV->List Value
 | .agg cs=>cs
 | v=>[v.den]
abbrev Fr:=List (Nat × SV)
def look:Fr->Nat->Option SV
 | [],_=>none
 | (j,v) ::r,k=>cond (Nat.beq j k) (some v) (look r k)
def setFr (fr:Fr):Option Nat->SV->Fr
 | some d,v=>(d,v) ::fr
 | none,_=>fr
def lit:Value->Option SV
 | .int .u64 (.ofNat n)=>cond (Nat.blt n 18446744073709551616) (some (.u64 (UInt64.ofNat n))) none
 | .int .u64 _=>none
 | .int k n=>some (.int k n)
 | .bool true=>some .tt
 | .bool false=>some .ff
 | .pointer none=>some .nil
 | .slice a l c=>some (.slc a l c)
 | .agg cs=>some (.agg cs.toList)
 | v=>some (.op v)
def ev (fr:Fr):Operand->Option SV
 | .tmp t=>look fr t
 | .const v=>lit v
 | .func f=>some (.fn f [] [])
 | .global _=>none
def evs (fr:Fr):List Operand->Option (List SV)
 | []=>some []
 | x ::xs=>match ev fr x,evs fr xs with
  | some v,some vs=>some (v ::vs)
  | _,_=>none
inductive Sh where
 | int (k:IntKind)|u64|bool|slc|agg (n:Nat)|val
def shOf:Value->Sh
 | .int .u64 _=>.u64
 | .int k _=>.int k
 | .bool _=>.bool
 | .slice ..=>.slc
 | .agg cs=>.agg cs.size
 | _=>.val
def zeroOf (P:Program)(t:TypeId):Option Value:=match P.info? t with|some i=>i.zero|none=>none
def sizeOfT (P:Program)(t:TypeId):Option Nat:=match P.info? t with|some i=>some i.size|none=>none
def bytesOfT (P:Program)(t:TypeId):Option Nat:=match P.info? t with|some i=>some i.bytes|none=>none
def isAggT (P:Program)(t:TypeId):Bool:=match P.underlying t with|some (.struct _)|some (.array _ _)=>true|_=>false
def shT (P:Program)(t:TypeId):Option Sh:=match zeroOf P t with|some z=>some (shOf z)|none=>none
def openV (sh:Sh)(v:Value)(K:SV->Prop):Prop:=
 match sh with
 | .int k=>∃n:Int,v=.int k n/\K (.int k n)
 | .u64=>∃x:UInt64,v=.int .u64 (x.toNat:Int)/\K (.u64 x)
 | .bool=>∃c:Bool,v=.bool c/\K (.bl c)
 | .slc=>∃a l c,v=.slice a l c/\K (.slc a l c)
 | .agg n=>∃cs:List Value,cs.length=n/\v=.agg cs.toArray/\K (.agg cs)
 | .val=>K (.op v)
def openR (sh:Sh)(H:Heap)(b o:Nat)(K:SV->Prop):Prop:=
 match sh with
 | .int k=>∃n:Int,rd H b o=some (.int k n)/\K (.int k n)
 | .u64=>∃x:UInt64,rd H b o=some (.int .u64 (x.toNat:Int))/\K (.u64 x)
 | .bool=>∃c:Bool,rd H b o=some (.bool c)/\K (.bl c)
 | .slc=>∃a l c,rd H b o=some (.slice a l c)/\K (.slc a l c)
 | .agg n=>∃cs:List Value,cs.length=n/\RdL H b o cs/\K (.agg cs)
 | .val=>∃v,rd H b o=some v/\K (.op v)
def openT (P:Program):List TypeId->(List SV->Prop)->Prop
 | [],K=>K []
 | t ::ts,K=>match shT P t with
  | some (.int k)=>∃n:Int,openT P ts fun r=>K (.int k n ::r)
  | some .u64=>∃x:UInt64,openT P ts fun r=>K (.u64 x ::r)
  | some .bool=>∃c:Bool,openT P ts fun r=>K (.bl c ::r)
  | some .slc=>∃a l c,openT P ts fun r=>K (.slc a l c ::r)
  | some (.agg n)=>∃cs:List Value,cs.length=n/\openT P ts fun r=>K (.agg cs ::r)
  | some .val=>∃v:Value,openT P ts fun r=>K (.op v ::r)
  | none=>False
def Runs (P:Program)(f:FuncId)(args:List Value)(H:Heap)(R:Value->Heap->Prop):Prop:=
 ∀w:World,w.heap=H->Calls P f args.toArray w fun e w'=>∃v,e=.returned v/\R v w'.heap/\w'.tape=w.tape/\w'.os=w.os/\w'.output=w.output
def resE (P:Program)(t:TypeId)(v:Value)(K:SV->Prop):Prop:=
 match P.underlying t with
 | some (.tuple ts)=>match ts.toList with
  | []=>K (.op v)
  | ts=>openT P ts fun svs=>v=.tuple (denL svs).toArray/\K (.tup svs)
 | _=>match shT P t with
  | some sh=>openV sh v K
  | none=>K (.op v)
def callable (P:Program)(f:FuncId):Bool:=
 match P.funcs[f]? with
 | some fn => fn.body.isSome && !(fn.name == "runtime.NumGoroutine")
 | none=>false
def mz (i:Nat):Nat->Nat
 | 1=>i
 | s=>i*s
theorem mz_eq (i s:Nat):mz i s=i*s:=by unfold mz;split<;>simp
def slA (a:Option Addr)(l m size:Nat):Option Addr:=if m=l then a else a.map (·.add (l*size))
def At (a:Option Addr)(b o:Nat):Prop:=a=some ⟨b,o,none⟩
def SlL (H:Heap)(a:Option Addr)(vs:List Value):Prop:=vs=[]\/∃b o,a=some ⟨b,o,none⟩/\RdL H b o vs
def rep (n:Nat)(z:List Value):List Value:=(List.replicate n z).flatten
def App (size bytes:Nat)(e:TypeId)(z:List Value)(H:Heap)(a:Option Addr)(len cap:Nat)(m:Nat)(new:List Value)
  (K:Option Addr->Nat->Nat->Heap->Prop):Prop:=
 (len+m<=cap->(new=[]/\K a (len+m) cap H)\/∃b o,a=some ⟨b,o,none⟩/\WOk H b (o+len*size) new.length/\(∀v∈new,One v)/\K a (len+m) cap (wrL H b (o+len*size) new))/\
 (cap<len+m->len+m<9223372036854775808/\Builtin.nextslicecap (len+m) cap*bytes<=281474976710656/\
  ∃old,old.length=len*size/\SlL H a old/\
   ∀newCap H' p,len+m<=newCap->New H (old++new++rep (newCap-(len+m)) z) e H' p->K (some ⟨p,0,none⟩) (len+m) newCap H')
end Go.VC
namespace Go.VC
inductive QRes where
 | no
 | val (v:SV)
 | obl (p:Prop) (v:SV)
 | ld (sh:Sh) (b o:Nat)
 | split (p:Prop) (d:Decidable p) (x y:SV)
 | addr (a:Option Addr) (len:Nat) (i:Int) (size:Nat)
 | nn (v:Value)
 | isNil (v:Value) (neg:Bool)
 | part (p:Prop) (sh:Sh) (cs:List Value) (off:Nat)
 | semB (s:Sem Value)
def cmpS (op:BinOp)(t:TypeId)(xo yo:Operand)(a b:Value):Sem Value:=do eqGuard op t xo yo a b;binOp op t a b
def IsB (P:Program)(s:Sem Value)(c:Bool):Prop:=∀w:World,s.run P w=.ok (.bool c) w
def stepQ (P:Program)(q:QRes)(H:Heap)(K:SV->Prop):Prop:=
 match q with
 | .no=>False
 | .val v=>K v
 | .obl p v=>p/\K v
 | .ld sh b o=>openR sh H b o K
 | .split p _ x y=>(p->K x)/\(¬p->K y)
 | .addr a len i size=>∃b o,At a b o/\(0<=i/\i<len)/\K (.ptr b (o+mz i.toNat size))
 | .nn v=>∃b o,v=.pointer (some ⟨b,o,none⟩)/\K (.ptr b o)
 | .isNil v neg=>∃a:Option Addr,v=.pointer a/\K (cond neg (.pr (¬a=none) inferInstance) (.pr (a=none) inferInstance))
 | .part p sh cs off=>p/\match sh with
  | .agg n=>off+n<=cs.length/\K (.agg ((cs.drop off).take n))
  | sh=>∃v,cs[off]?=some v/\openV sh v K
 | .semB s=>∃c:Bool,IsB P s c/\K (.bl c)
def arith (op:BinOp)(a b:Int):Option Int:=
 match op with
 | .add=>some (a+b)
 | .sub=>some (a-b)
 | .mul=>some (a*b)
 | _=>none
def cmpI (op:BinOp)(a b:Int):Option SV:=
 match op with
 | .eql=>some (.pr (a=b) inferInstance)
 | .neq=>some (.pr (¬a=b) inferInstance)
 | .lss=>some (.pr (a<b) inferInstance)
 | .leq=>some (.pr (a<=b) inferInstance)
 | .gtr=>some (.pr (b<a) inferInstance)
 | .geq=>some (.pr (b<=a) inferInstance)
 | _=>none
def cmpU (op:BinOp)(a b:UInt64):Option SV:=
 match op with
 | .eql=>some (.pr (a=b) inferInstance)
 | .neq=>some (.pr (¬a=b) inferInstance)
 | .lss=>some (.pr (a<b) inferInstance)
 | .leq=>some (.pr (a<=b) inferInstance)
 | .gtr=>some (.pr (b<a) inferInstance)
 | .geq=>some (.pr (b<=a) inferInstance)
 | _=>none
def binI (op:BinOp)(k:IntKind)(a b:Int):QRes:=
 match cmpI op a b with
 | some v=>.val v
 | none=>match arith op a b with
  | some n=>match k with
   | .i64=>.obl (I64 n) (.int .i64 n)
   | k=>.val (.int k (k.wrap n))
  | none=>match op,k with
   | .quo,.i64=>.obl (0<=a/\0<b/\I64 a) (.int .i64 (a / b))
   | .rem,.i64=>.obl (0<=a/\0<b) (.int .i64 (a % b))
   | _,_=>.no
def binU (op:BinOp)(a b:UInt64):QRes:=
 match cmpU op a b with
 | some v=>.val v
 | none=>match op with
  | .add=>.val (.u64 (a+b))
  | .sub=>.val (.u64 (a-b))
  | .mul=>.val (.u64 (a*b))
  | .quo=>.obl (b≠0) (.u64 (a / b))
  | .rem=>.obl (b≠0) (.u64 (a % b))
  | .and=>.val (.u64 (a &&& b))
  | .or=>.val (.u64 (a ||| b))
  | .xor=>.val (.u64 (a ^^^ b))
  | _=>.no
def shiftU (op:BinOp)(a:UInt64)(y:Int):QRes:=
 match op with
 | .shl=>.obl (0<=y/\y<64) (.u64 (UInt64.ofNat (a.toNat*2 ^ y.toNat)))
 | .shr=>.obl (0<=y/\y<64) (.u64 (UInt64.ofNat (a.toNat / 2 ^ y.toNat)))
 | _=>.no
def isEq:BinOp->Option Bool
 | .eql=>some false
 | .neq=>some true
 | _=>none
def isSh:BinOp->Bool
 | .shl | .shr=>true
 | _=>false
def kindEq (a b:IntKind):Bool:=decide (a=b)
def isPtrT (P:Program)(t:TypeId):Bool:=match P.underlying t with|some (.pointer _)=>true|_=>false
def isSlcT (P:Program)(t:TypeId):Bool:=match P.underlying t with|some (.slice _)=>true|_=>false
def isBoolT (P:Program)(t:TypeId):Bool:=match P.underlying t with|some .bool=>true|_=>false
def binQ (P:Program)(op:BinOp)(t:TypeId)(xo yo:Operand)(x y:SV):QRes:=
 match x,y with
 | .u64 a,.int _ n=>cond (isSh op) (shiftU op a n) .no
 | .u64 a,.u64 b=>cond (isSh op) (shiftU op a (b.toNat:Int)) (binU op a b)
 | .int k a,.int k' b=>cond (isSh op) .no (cond (kindEq k k' && !kindEq k .u64) (binI op k a b) .no)
 | x,y=>match isEq op with
  | none=>.no
  | some neg=>match x,y with
   | .op v,.nil=>cond (isPtrT P t) (.isNil v neg) .no
   | .ptr _ _,.nil=>cond (isPtrT P t) (.val (cond neg .tt .ff)) .no
   | .nil,.nil=>cond (isPtrT P t) (.val (cond neg .ff .tt)) .no
   | .slc a _ _,.slc none _ _=>cond (isSlcT P t) (.val (cond neg (.pr (¬a=none) inferInstance) (.pr (a=none) inferInstance))) .no
   | .bl a,.bl b=>cond (isBoolT P t) (.val (cond neg (.bl (!(a == b))) (.bl (a == b)))) .no
   | .pr p _,.pr q _=>cond (isBoolT P t) (.val (cond neg (.pr (¬(p<->q)) inferInstance) (.pr (p<->q) inferInstance))) .no
   | x,y=>.semB (cmpS op t xo yo x.den y.den)
def idx:SV->Option Int
 | .int _ n=>some n
 | .u64 x=>some (x.toNat:Int)
 | _=>none
def splice (cs:List Value)(off size:Nat)(v:SV):Option (Option Prop × List Value):=
 match v with
 | .agg vs=>some (some (vs.length=size),cs.take off++vs++cs.drop (off+size))
 | .tup _ | .undef | .op _=>none
 | v=>cond (Nat.beq size 1) (some (none,cs.set off v.den)) none
def joinP:Option Prop->Option Prop->Option Prop
 | none,q=>q
 | p,none=>p
 | some p,some q=>some (p/\q)
def splices (place:Nat->Option (Nat × Nat))(fr:Fr):List (Nat × Operand)->List Value->Option (Option Prop × List Value)
 | [],cs=>some (none,cs)
 | (i,x) ::r,cs=>match place i,ev fr x with
  | some (off,size),some (.op v)=>cond (Nat.beq size 1) (match splices place fr r (cs.set off v) with
    | some (p,cs')=>some (joinP (some (One v)) p,cs')
    | none=>none) none
  | some (off,size),some v=>match splice cs off size v with
   | some (q,cs1)=>match splices place fr r cs1 with
    | some (p,cs')=>some (joinP q p,cs')
    | none=>none
   | none=>none
  | _,_=>none
def zcells:Value->List Value
 | .agg cs=>cs.toList
 | v=>[v]
def fieldsOf (P:Program)(t:TypeId):Option (List Field):=match P.underlying t with|some (.struct fs)=>some fs.toList|_=>none
def elemOf (P:Program)(t:TypeId):Option (Option Nat × TypeId):=
 match P.underlying t with
 | some (.array n e)=>some (some n,e)
 | some (.slice e)=>some (none,e)
 | _=>none
def mkObl (p:Option Prop)(v:SV):QRes:=match p with|none=>.val v|some p=>.obl p v
def buildQ (P:Program)(t:TypeId)(parts:List (Nat × Operand))(fr:Fr):QRes:=
 match zeroOf P t with
 | none=>.no
 | some z=>match fieldsOf P t with
  | some fs=>cond (fs.all fun f=>match sizeOfT P f.type with|some _=>true|none=>false)
    (match splices (fun i=>match fs[i]? with
      | some f=>(match sizeOfT P f.type with|some s=>cond (Nat.ble (f.offset+s) (zcells z).length) (some (f.offset,s)) none|none=>none)
      | none=>none) fr parts (zcells z) with
     | some (p,cs)=>mkObl p (.agg cs)
     | none=>.no) .no
  | none=>match elemOf P t with
   | some (some _,e)=>match sizeOfT P e with
    | some s=>match splices (fun i=>cond (Nat.ble (i*s+s) (zcells z).length) (some (i*s,s)) none) fr parts (zcells z) with
     | some (p,cs)=>mkObl p (.agg cs)
     | none=>.no
    | none=>.no
   | _=>.no
def undOk (P:Program)(t:TypeId):Bool:=match P.underlying t with|some _=>true|none=>false
def loadQ (P:Program)(t:TypeId)(b o:Nat):QRes:=
 match isAggT P t,shT P t,sizeOfT P t with
 | true,some (.agg n),some m=>cond (Nat.beq n m) (.ld (.agg n) b o) .no
 | false,some (.agg _),_=>.no
 | false,some sh,_=>cond (undOk P t) (.ld sh b o) .no
 | _,_,_=>.no
def partQ (P:Program)(p:Prop)(t:TypeId)(cs:List Value)(off:Nat):QRes:=
 match isAggT P t,shT P t,sizeOfT P t with
 | true,some (.agg n),some m=>cond (Nat.beq n m) (.part p (.agg n) cs off) .no
 | false,some (.agg _),_=>.no
 | false,some sh,_=>cond (undOk P t) (.part p sh cs off) .no
 | _,_,_=>.no
def sliceQ (size:Nat)(a:Option Addr)(len cap:Nat)(lo hi mx:Option (Option Int)):QRes:=
 match lo,hi,mx with
 | none,none,none=>.val (.slc a len cap)
 | none,some (some h),none=>.obl (0<=h/\h<=cap) (.slc a h.toNat cap)
 | some (some l),none,none=>.obl (0<=l/\l<=len) (.slc (slA a l.toNat cap size) (len-l.toNat) (cap-l.toNat))
 | some (some l),some (some h),none=>.obl ((0<=h/\h<=cap)/\0<=l/\l<=h) (.slc (slA a l.toNat cap size) (h.toNat-l.toNat) (cap-l.toNat))
 | none,some (some h),some (some m)=>.obl ((0<=m/\m<=cap)/\0<=h/\h<=m) (.slc a h.toNat m.toNat)
 | _,_,_=>.no
def evIdx (fr:Fr):Option Operand->Option (Option Int)
 | none=>none
 | some x=>match ev fr x with
  | some v=>some (idx v)
  | none=>some none
def maxI (isMax:Bool)(a b:Int):Int:=cond isMax (max a b) (min a b)
def maxU (isMax:Bool)(a b:UInt64):UInt64:=cond isMax (if a<b then b else a) (if b<a then b else a)
def maxQ (isMax:Bool):List SV->QRes
 | [.int k a,.int k' b]=>cond (kindEq k k' && !kindEq k .u64) (.val (.int k (maxI isMax a b))) .no
 | [.int k a,.int k' b,.int k'' c]=>cond (kindEq k k' && kindEq k k'' && !kindEq k .u64) (.val (.int k (maxI isMax (maxI isMax a b) c))) .no
 | [.u64 a,.u64 b]=>.val (.u64 (maxU isMax a b))
 | _=>.no
def convQ (P:Program)(dst:TypeId)(x:SV):QRes:=
 match P.underlying dst with
 | some (.int k)=>match x with
  | .int _ n=>match k with
   | .i64=>.obl (I64 n) (.int .i64 n)
   | .u64=>.val (.u64 (UInt64.ofInt n))
   | k=>.val (.int k (k.wrap n))
  | .u64 x=>match k with
   | .i64=>.obl (x.toNat<=9223372036854775807) (.int .i64 (x.toNat:Int))
   | .u64=>.val (.u64 x)
   | k=>.val (.int k (k.wrap (x.toNat:Int)))
  | _=>.no
 | _=>.no
def qOp (P:Program)(o:Oper)(fr:Fr):QRes:=
 match o.op with
 | .move x | .assign x=>match ev fr x with|some v=>.val v|none=>.no
 | .pick c a b=>match ev fr c,ev fr a,ev fr b with
  | some .tt,some x,_=>.val x
  | some .ff,_,some y=>.val y
  | some (.pr p d),some x,some y=>.split p d x y
  | some (.bl c),some x,some y=>.split (c=true) inferInstance x y
  | _,_,_=>.no
 | .load t a=>match ev fr a with
  | some (.ptr b off)=>loadQ P t b off
  | _=>.no
 | .nilCheck x=>match ev fr x with
  | some (.ptr b off)=>.val (.ptr b off)
  | some (.fn f u v)=>.val (.fn f u v)
  | some (.op v)=>.nn v
  | _=>.no
 | .fieldAddr s x f=>match ev fr x,fieldsOf P s with
  | some (.ptr b off),some fs=>match fs[f]? with
   | some fl=>match sizeOfT P fl.type with
    | some 0=>.no
    | some _=>.val (.ptr b (off+fl.offset))
    | none=>.no
   | none=>.no
  | _,_=>.no
 | .field t x f=>match ev fr x,fieldsOf P t with
  | some (.agg cs),some fs=>match fs[f]? with
   | some fl=>partQ P True fl.type cs fl.offset
   | none=>.no
  | _,_=>.no
 | .indexAddr t x ix=>match ev fr x,ev fr ix,elemOf P t with
  | some (.slc a len _),some i,some (none,e)=>match idx i,sizeOfT P e with
   | some i,some s=>.addr a len i s
   | _,_=>.no
  | some (.ptr b off),some i,some (some n,e)=>match idx i,sizeOfT P e with
   | some i,some s=>.obl (0<=i/\i<(n:Int)) (.ptr b (off+i.toNat*s))
   | _,_=>.no
  | _,_,_=>.no
 | .index t x ix=>match ev fr x,ev fr ix,elemOf P t with
  | some (.agg cs),some i,some (some n,e)=>match idx i,sizeOfT P e with
   | some i,some s=>partQ P (0<=i/\i<(n:Int)) e cs (i.toNat*s)
   | _,_=>.no
  | _,_,_=>.no
 | .extract t i=>match ev fr t with
  | some (.tup l)=>match l[i]? with
   | some v=>.val v
   | none=>.no
  | _=>.no
 | .binOp op t x y _=>match ev fr x,ev fr y with
  | some a,some b=>binQ P op t x y a b
  | _,_=>.no
 | .unOp op _ x=>match op,ev fr x with
  | .not,some .tt=>.val .ff
  | .not,some .ff=>.val .tt
  | .not,some (.pr p _)=>.val (.pr (¬p) inferInstance)
  | .not,some (.bl c)=>.val (.bl (!c))
  | .neg,some (.int .i64 n)=>.obl (I64 (0-n)) (.int .i64 (0-n))
  | .neg,some (.u64 x)=>.val (.u64 (0-x))
  | _,_=>.no
 | .convert src dst x=>match ev fr x with
  | some v=>cond (undOk P src) (convQ P dst v) .no
  | none=>.no
 | .makeFunc (.func f) first cap=>match evs fr first.toList,evs fr cap.toList with
  | some u,some v=>.val (.fn f (denL u) (denL v))
  | _,_=>.no
 | .build t parts=>buildQ P t parts.toList fr
 | .slice t x lo hi mx=>match ev fr x,elemOf P t with
  | some (.slc a l c),some (none,e)=>match sizeOfT P e with
   | some s=>sliceQ s a l c (evIdx fr lo) (evIdx fr hi) (evIdx fr mx)
   | none=>.no
  | some (.ptr b off),some (some n,e)=>match lo,hi,mx,sizeOfT P e with
   | none,none,none,some _=>.val (.slc (some ⟨b,off,none⟩) n n)
   | _,_,_,_=>.no
  | _,_=>.no
 | .call c=>match c.callee with
  | .builtin .len=>match c.argTypes.toList,c.args.toList with
   | [t],[x]=>match ev fr x,elemOf P t with
    | some (.slc _ l _),some (none,_)=>.val (.int .i64 (l:Int))
    | _,_=>.no
   | _,_=>.no
  | .builtin .cap=>match c.argTypes.toList,c.args.toList with
   | [t],[x]=>match ev fr x,elemOf P t with
    | some (.slc _ _ m),some (none,_)=>.val (.int .i64 (m:Int))
    | _,_=>.no
   | _,_=>.no
  | .builtin .max=>match evs fr c.args.toList with
   | some l=>maxQ true l
   | none=>.no
  | .builtin .min=>match evs fr c.args.toList with
   | some l=>maxQ false l
   | none=>.no
  | _=>.no
 | _=>.no
def elems (fr:Fr)(size:Nat):Nat->List (Nat × Operand)->Option (Option Prop × List Value)
 | _,[]=>some (none,[])
 | i,(j,x) ::r=>cond (Nat.beq i j) (match ev fr x,elems fr size (i+1) r with
  | some (.agg vs),some (p,cs)=>some (joinP (some (vs.length=size)) p,vs++cs)
  | some (.op v),some (p,cs)=>cond (Nat.beq size 1) (some (joinP (some (One v)) p,v ::cs)) none
  | some (.tup _),_=>none
  | some .undef,_=>none
  | some v,some (p,cs)=>cond (Nat.beq size 1) (some (p,v.den ::cs)) none
  | _,_=>none) none
def andP:Option Prop->Prop->Prop
 | none,q=>q
 | some p,q=>p/\q
def zeroFits (P:Program)(e:TypeId)(s:Nat):Bool:=
 match zeroOf P e,sizeOfT P e with
 | some z,some n=>Nat.beq (zcells z).length s && Nat.beq n s && (zcells z).all fun v=>match v with | .agg _ | .tuple _=>false|_=>true
 | _,_=>false
def stepE (P:Program)(o:Oper)(fr:Fr)(H:Heap)(K:SV->Heap->Prop):Prop:=
 match o.op with
 | .alloc t=>match zeroOf P t with
  | some z=>∀H' p,New H (zcells z) t H' p->K (.ptr p 0) H'
  | none=>False
 | .box t x=>match ev fr x with
  | some (.agg cs)=>∀H' p,New H cs t H' p->K (.ptr p 0) H'
  | some v=>v.oneP (∀H' p,New H [v.den] t H' p->K (.ptr p 0) H')
  | none=>False
 | .store t a x=>match ev fr a,ev fr x,sizeOfT P t with
  | some (.ptr b off),some (.agg cs),some n=>cs.length=n/\(∀v∈cs,One v)/\WOk H b off n/\∀H',H'=wrL H b off cs->K .undef H'
  | some (.ptr b off),some v,some n=>cond (Nat.beq n 1) (v.oneP (WOk H b off 1/\∀H',H'=wr H b off v.den->K .undef H')) False
  | _,_,_=>False
 | .buildSlice t len parts=>match elemOf P t with
  | some (none,e)=>match sizeOfT P e with
   | some s=>match elems fr s 0 parts.toList with
    | some (p,cs)=>cond (Nat.beq len parts.toList.length && Nat.ble (len*s) 16777216 && zeroFits P e s)
      (andP p (∀H' q,New H cs e H' q->K (.slc (some ⟨q,0,none⟩) len len) H')) False
    | none=>False
   | none=>False
  | _=>False
 | .makeSlice t l c=>match elemOf P t,ev fr l,ev fr c with
  | some (none,e),some l,some c=>match idx l,idx c,zeroOf P e,bytesOfT P e with
   | some l,some c,some z,some by_=>cond (zeroFits P e (zcells z).length) ((0<=l/\l<=c/\(by_:Int)*c<=281474976710656/\I64 c)/\
     ∀H' q,New H (rep c.toNat (zcells z)) e H' q->K (.slc (some ⟨q,0,none⟩) l.toNat c.toNat) H') False
   | _,_,_,_=>False
  | _,_,_=>False
 | .call c=>match c.callee with
  | .value f=>match ev fr f,evs fr c.args.toList with
   | some (.fn g u v),some l=>cond (callable P g) (Runs P g (u++denL l++v) H fun r H'=>resE P o.type r fun s=>K s H') False
   | some (.op x),some l=>∃g u v,x=.func (.func g) u v/\callable P g=true/\Runs P g (u.toList++denL l++v.toList) H fun r H'=>resE P o.type r fun s=>K s H'
   | _,_=>False
  | .builtin .append=>match c.argTypes.toList,c.args.toList with
   | [t,tx],[s,x]=>match ev fr s,ev fr x,elemOf P t with
    | some (.slc a l cp),some (.slc ax m _),some (none,e)=>match elemOf P tx,sizeOfT P e,bytesOfT P e,zeroOf P e with
     | some (none,_),some sz,some by_,some z=>cond (zeroFits P e sz) (∃new,new.length=mz m sz/\SlL H ax new/\
       App sz by_ e (zcells z) H a l cp m new fun a' l' c' H'=>K (.slc a' l' c') H') False
     | _,_,_,_=>False
    | some (.slc a l cp),some (.int .i64 n),some (none,e)=>match P.underlying tx,sizeOfT P e,bytesOfT P e,zeroOf P e with
     | some (.int _),some sz,some by_,some z=>cond (zeroFits P e sz) ((0<=n/\n*(by_:Int)<=281474976710656/\I64 n)/\
       App sz by_ e (zcells z) H a l cp n.toNat (rep n.toNat (zcells z)) fun a' l' c' H'=>K (.slc a' l' c') H') False
     | _,_,_,_=>False
    | _,_,_=>False
   | _,_=>False
  | .builtin .copy=>match c.argTypes.toList,c.args.toList with
   | t ::_,[d,s]=>match ev fr d,ev fr s,elemOf P t with
    | some (.slc a l _),some (.slc ax m _),some (none,e)=>match sizeOfT P e with
     | some sz=>∃new,new.length=mz (min m l) sz/\SlL H ax new/\
       ((new=[]/\K (.int .i64 ((min m l:Nat):Int)) H)\/
        ∃b off,At a b off/\WOk H b off new.length/\(∀v∈new,One v)/\∀H',H'=wrL H b off new->K (.int .i64 ((min m l:Nat):Int)) H')
     | none=>False
    | _,_,_=>False
   | _,_=>False
  | _=>False
 | _=>False
def opE (P:Program)(o:Oper)(fr:Fr)(H:Heap)(K:SV->Heap->Prop):Prop:=
 match qOp P o fr with
 | .no=>stepE P o fr H K
 | q=>stepQ P q H fun v=>K v H
def guardE (all:List Oper)(o:Oper)(fr:Fr)(run pass:Fr->Prop):Prop:=
 match o.guard with
 | none=>run fr
 | some (j,want)=>match all[j]? with
  | none=>False
  | some oj=>match oj.dst with
   | none=>False
   | some d=>match look fr d with
    | some .tt=>cond want (run fr) (pass fr)
    | some .ff=>cond want (pass fr) (run fr)
    | some .undef=>pass fr
    | some (.bl c)=>cond want ((c=true->run ((d,.tt) ::fr))/\(c=false->pass ((d,.ff) ::fr))) ((c=true->pass ((d,.tt) ::fr))/\(c=false->run ((d,.ff) ::fr)))
    | some (.pr p _)=>cond want ((p->run ((d,.tt) ::fr))/\(¬p->pass ((d,.ff) ::fr))) ((p->pass ((d,.tt) ::fr))/\(¬p->run ((d,.ff) ::fr)))
    | _=>False
def opsE (P:Program)(all:List Oper):List Oper->Fr->Heap->(Fr->Heap->Prop)->Prop
 | [],fr,H,K=>K fr H
 | o ::rest,fr,H,K=>guardE all o fr
   (fun fr=>opE P o fr H fun v H'=>opsE P all rest (setFr fr o.dst v) H' K)
   (fun fr=>opsE P all rest (setFr fr o.dst .undef) H K)
def maskOf (ms:List Nat)(es:List Edge):Nat:=
 es.foldl (fun s e=>cond (Region.binds .any e) (Nat.lor s (Nat.lor (Nat.shiftLeft 1 e.on) ((ms[e.on]?).getD 0))) s) 0
def masksFrom:List Oper->List Nat->List Nat
 | [],ms=>ms
 | o ::r,ms=>masksFrom r (ms++[maskOf ms o.after.toList])
def masks (ops:List Oper):List Nat:=masksFrom ops []
def quietKind:Op->Bool
 | .move _ | .assign _ | .pick .. | .load .. | .nilCheck _ | .fieldAddr .. | .field .. | .indexAddr .. | .index .. | .extract .. | .binOp .. | .unOp ..
 | .convert .. | .makeFunc .. | .build .. | .slice ..=>true
 | .call { callee:=.builtin b,.. }=>match b with | .len | .cap | .max | .min=>true|_=>false
 | _=>false
def guardTmp (ops:List Oper)(o:Oper):Option Tmp:=
 match o.guard with
 | some (g,_)=>match ops[g]? with|some og=>og.dst|none=>none
 | none=>none
def opTmps (o:Oper):List Tmp:=o.op.operands.toList.filterMap fun | .tmp t=>some t|_=>none
def looks (ops:List Oper)(o:Oper)(t:Tmp):Bool:=(opTmps o).any (Nat.beq t) || (match guardTmp ops o with|some g=>Nat.beq t g|none=>false)
def names (ops:List Oper)(o:Oper)(t:Tmp):Bool:=looks ops o t || (match o.dst with|some d=>Nat.beq t d|none=>false)
def soloAt (ops:List Oper)(ms:List Nat)(i:Nat)(d:Tmp):Nat->List Oper->List Nat->Bool
 | j,o ::r,m ::mr=>(Nat.beq i j || !names ops o d || Nat.testBit m i) && soloAt ops ms i d (j+1) r mr
 | _,[],_=>true
 | _,_,[]=>false
def solo (ops:List Oper)(ms:List Nat)(i:Nat)(o:Oper):Bool:=
 quietKind o.op && match o.dst with
 | some d=>!(looks ops o d) && soloAt ops ms i d 0 ops ms
 | none=>false
def pairAt (ops:List Oper)(ms:List Nat)(i:Nat)(mi:Nat)(d:Tmp):Nat->List Oper->List Nat->Bool
 | j,o ::r,m ::mr=>(Nat.beq i j || !names ops o d || Nat.testBit m i || Nat.testBit mi j) && pairAt ops ms i mi d (j+1) r mr
 | _,[],_=>true
 | _,_,[]=>false
def pairsAt (ops:List Oper)(ms:List Nat):Nat->List Oper->List Nat->Bool
 | i,o ::r,m ::mr=>(match o.dst with|some d=>pairAt ops ms i m d 0 ops ms|none=>true) && pairsAt ops ms (i+1) r mr
 | _,[],_=>true
 | _,_,[]=>false
def edgesAt (ops:List Oper):Nat->List Oper->Bool
 | i,o ::r=>(o.after.toList.all fun e=>!Region.binds .any e || Nat.blt e.on i) &&
   (match o.guard with|some (g,_)=>o.after.toList.any fun e=>Region.binds .any e && Nat.beq e.on g|none=>true) &&
   (match o.op with | .select .. | .defer _=>false|_=>true) && edgesAt ops (i+1) r
 | _,[]=>true
def drawOk (ops:List Oper):Bool:=edgesAt ops 0 ops && pairsAt ops (masks ops) 0 ops (masks ops)
inductive Ent where
 | one (b o:Nat) (v:Value)
 | many (b o:Nat) (vs:List Value)
def Ent.holds (H:Heap):Ent->Prop
 | .one b o v=>rd H b o=some v
 | .many b o vs=>RdL H b o vs
abbrev Fl:=List (Nat × Ent)
def entOf:QRes->SV->Option Ent
 | .ld (.agg _) b o,.agg cs=>some (.many b o cs)
 | .ld _ b o,v=>some (.one b o v.den)
 | _,_=>none
def addFl (i:Nat)(q:QRes)(v:SV)(fl:Fl):Fl:=match entOf q v with|some e=>(i,e) ::fl|none=>fl
def Keep (m:Nat)(H:Heap):Fl->Prop->Prop
 | [],p=>p
 | (q,e) ::r,p=>cond (Nat.testBit m q) (Keep m H r p) (e.holds H/\Keep m H r p)
def readyIn (V:Nat)(i:Nat)(o:Oper):Bool:=!Nat.testBit V i && o.after.toList.all fun e=>!Region.binds .any e || Nat.testBit V e.on
def firstQ (ops:List Oper)(ms:List Nat)(V:Nat):Nat->List Oper->Option (Nat × Oper)
 | i,o ::r=>cond (readyIn V i o && solo ops ms i o) (some (i,o)) (firstQ ops ms V (i+1) r)
 | _,[]=>none
def readies (V:Nat):Nat->List Oper->List (Nat × Oper)
 | i,o ::r=>cond (readyIn V i o) ((i,o) ::readies V (i+1) r) (readies V (i+1) r)
 | _,[]=>[]
def bit (i:Nat):Nat:=Nat.shiftLeft 1 i
def eachE (f:Nat->Oper->Prop):List (Nat × Oper)->Prop
 | []=>True
 | [(i,o)]=>f i o
 | (i,o) ::r=>f i o/\eachE f r
def drawE (P:Program)(ops:List Oper)(ms:List Nat):Nat->Nat->Fr->Heap->Fl->(Fr->Heap->Prop)->Prop
 | 0,_,_,_,_,_=>False
 | n+1,V,fr,H,fl,K=>match firstQ ops ms V 0 ops with
  | some (i,o)=>guardE ops o fr
    (fun fr=>match qOp P o fr with
     | .no=>False
     | q=>stepQ P q H fun v=>drawE P ops ms n (Nat.lor V (bit i)) (setFr fr o.dst v) H (addFl i q v fl) K)
    (fun fr=>drawE P ops ms n (Nat.lor V (bit i)) (setFr fr o.dst .undef) H fl K)
  | none=>match readies V 0 ops with
   | []=>K fr H
   | rs=>eachE (fun i o=>guardE ops o fr
     (fun fr=>opE P o fr H fun v H'=>Keep ((ms[i]?).getD 0) H' fl (drawE P ops ms n (Nat.lor V (bit i)) (setFr fr o.dst v) H' fl K))
     (fun fr=>drawE P ops ms n (Nat.lor V (bit i)) (setFr fr o.dst .undef) H fl K)) rs
inductive Ex where
 | normal
 | exit (id:Nat)
 | goto (l:Nat)
 | ret
inductive Sl where
 | int (k:IntKind)|u64|bool|slc|ptr|val|agg
def Ty (T:Type):List (Nat × Sl)->Type
 | []=>T
 | (_,.int _) ::r=>Int->Ty T r
 | (_,.u64) ::r=>UInt64->Ty T r
 | (_,.bool) ::r=>Bool->Ty T r
 | (_,.slc) ::r=>Option Addr->Nat->Nat->Ty T r
 | (_,.ptr) ::r=>Nat->Nat->Ty T r
 | (_,.val) ::r=>Value->Ty T r
 | (_,.agg) ::r=>List Value->Ty T r
def decP (p:Prop)(d:Decidable p):Bool:=@decide p d
def appTy {T:Type}(fr:Fr)(dead:T):(l:List (Nat × Sl))->Ty T l->T
 | [],I=>I
 | (t,.int k) ::r,I=>match look fr t with
  | some (.int k' n)=>cond (kindEq k k') (appTy fr dead r (I n)) dead
  | _=>dead
 | (t,.u64) ::r,I=>match look fr t with|some (.u64 x)=>appTy fr dead r (I x)|_=>dead
 | (t,.bool) ::r,I=>match look fr t with
  | some .tt=>appTy fr dead r (I true)
  | some .ff=>appTy fr dead r (I false)
  | some (.bl c)=>appTy fr dead r (I c)
  | some (.pr p d)=>appTy fr dead r (I (decP p d))
  | _=>dead
 | (t,.slc) ::r,I=>match look fr t with|some (.slc a l c)=>appTy fr dead r (I a l c)|_=>dead
 | (t,.ptr) ::r,I=>match look fr t with|some (.ptr b o)=>appTy fr dead r (I b o)|_=>dead
 | (t,.val) ::r,I=>match look fr t with
  | some (.tup _)|some .undef|some (.agg _)|none=>dead
  | some v=>appTy fr dead r (I v.den)
 | (t,.agg) ::r,I=>match look fr t with|some (.agg cs)=>appTy fr dead r (I cs)|_=>dead
def allTy {T:Type}(K:Fr->T->Prop):(l:List (Nat × Sl))->Fr->Ty T l->Prop
 | [],fr,I=>K fr I
 | (t,.int k) ::r,fr,I=>∀n:Int,allTy K r ((t,.int k n) ::fr) (I n)
 | (t,.u64) ::r,fr,I=>∀x:UInt64,allTy K r ((t,.u64 x) ::fr) (I x)
 | (t,.bool) ::r,fr,I=>∀c:Bool,allTy K r ((t,.bl c) ::fr) (I c)
 | (t,.slc) ::r,fr,I=>∀a l c,allTy K r ((t,.slc a l c) ::fr) (I a l c)
 | (t,.ptr) ::r,fr,I=>∀b o,allTy K r ((t,.ptr b o) ::fr) (I b o)
 | (t,.val) ::r,fr,I=>∀v:Value,allTy K r ((t,.op v) ::fr) (I v)
 | (t,.agg) ::r,fr,I=>∀cs:List Value,allTy K r ((t,.agg cs) ::fr) (I cs)
structure Ann where
 loop:Nat->Option (List (Nat × Sl))
 join:Nat->Option (List (Nat × Sl))
def firstReg:Code->Option Nat
 | .region id _ _=>some id
 | .seq a b=>match firstReg a with|some r=>some r|none=>firstReg b
 | .cond _ a b=>match firstReg a with|some r=>some r|none=>firstReg b
 | .block _ c | .loop c | .scope c=>firstReg c
 | _=>none
def writesOps:List Oper->List Nat->List Nat
 | [],acc=>acc
 | o ::r,acc=>writesOps r (match o.dst with|some d=>d ::acc|none=>acc)
def writes:Code->List Nat->List Nat
 | .region _ ops _,acc=>writesOps ops.toList acc
 | .seq a b,acc=>writes a (writes b acc)
 | .cond _ a b,acc=>writes a (writes b acc)
 | .block _ c,acc | .loop c,acc | .scope c,acc=>writes c acc
 | .rangeFunc _ _ a b,acc=>writes a (writes b acc)
 | _,acc=>acc
def mem (k:Nat):List Nat->Bool
 | []=>false
 | x ::r=>Nat.beq k x || mem k r
def keepFr (ws:List Nat):Fr->Fr
 | []=>[]
 | (t,v) ::r=>cond (mem t ws) (keepFr ws r) ((t,v) ::keepFr (t ::ws) r)
def ifE (fr:Fr)(c:Operand)(A B:Fr->Prop):Prop:=
 match ev fr c with
 | some .tt=>A fr
 | some .ff=>B fr
 | some (.bl b)=>match c with
  | .tmp t=>(b=true->A ((t,.tt) ::fr))/\(b=false->B ((t,.ff) ::fr))
  | _=>False
 | some (.pr p _)=>match c with
  | .tmp t=>(p->A ((t,.tt) ::fr))/\(¬p->B ((t,.ff) ::fr))
  | _=>False
 | _=>False
abbrev Cont:=Ex->Fr->Heap->Prop
def Cont.on (K:Cont)(f:Fr->Heap->Prop):Cont
 | .normal,fr,H=>f fr H
 | e,fr,H=>K e fr H
def Cont.blk (K:Cont)(id:Nat):Cont
 | .exit i,fr,H=>cond (Nat.beq i id) (K .normal fr H) (K (.exit i) fr H)
 | e,fr,H=>K e fr H
def Cont.noGoto (K:Cont):Cont
 | .goto _,_,_=>False
 | e,fr,H=>K e fr H
def Cont.jump (K:Cont)(l:Nat)(J:Fr->Heap->Prop):Cont
 | .goto i,fr,H=>cond (Nat.beq i l) (J fr H) False
 | e,fr,H=>K e fr H
def labelIn:Code->Option Nat
 | .seq a b=>match labelIn a with|some l=>some l|none=>labelIn b
 | .label l=>some l
 | _=>none
def hasGoto (l:Nat):Code->Bool
 | .seq a b=>hasGoto l a || hasGoto l b
 | .cond _ a b=>hasGoto l a || hasGoto l b
 | .block _ c | .loop c | .scope c=>hasGoto l c
 | .rangeFunc _ _ a b=>hasGoto l a || hasGoto l b
 | .goto i=>Nat.beq i l
 | _=>false
inductive Md where
 | whole
 | upto (l:Nat)
 | from_ (l:Nat)
def lies (l:Nat)(c:Code):Bool:=match findLabel c l with|some _=>true|none=>false
def pairTy {A B:Type}:(l:List (Nat × Sl))->Ty A l->Ty B l->Ty (A × B) l
 | [],x,y=>(x,y)
 | (_,.int _) ::r,x,y=>fun n=>pairTy r (x n) (y n)
 | (_,.u64) ::r,x,y=>fun n=>pairTy r (x n) (y n)
 | (_,.bool) ::r,x,y=>fun n=>pairTy r (x n) (y n)
 | (_,.slc) ::r,x,y=>fun a l c=>pairTy r (x a l c) (y a l c)
 | (_,.ptr) ::r,x,y=>fun b o=>pairTy r (x b o) (y b o)
 | (_,.val) ::r,x,y=>fun n=>pairTy r (x n) (y n)
 | (_,.agg) ::r,x,y=>fun n=>pairTy r (x n) (y n)
def annOf (f:Nat->Option (List (Nat × Sl)))(r:Option Nat):Option (List (Nat × Sl)):=
 match r with
 | some r=>f r
 | none=>none
def exec (P:Program)(ann:Ann):Md->Code->Fr->Heap->Cont->Prop
 | .whole,.skip,fr,H,K=>K .normal fr H
 | _,.label _,fr,H,K=>K .normal fr H
 | .whole,.exit id,fr,H,K=>K (.exit id) fr H
 | .whole,.goto l,fr,H,K=>K (.goto l) fr H
 | .whole,.ret,fr,H,K=>K .ret fr H
 | .whole,.region _ ops draw,fr,H,K=>cond draw
   (cond (drawOk ops.toList) (drawE P ops.toList (masks ops.toList) (ops.toList.length+1) 0 fr H [] (K .normal)) False)
   (opsE P ops.toList ops.toList fr H (K .normal))
 | .whole,.seq a b,fr,H,K=>match annOf ann.join (firstReg b) with
  | none=>exec P ann .whole a fr H (K.on fun fr H=>exec P ann .whole b fr H K)
  | some l=>∃J:Ty (Heap->Prop) l,
    exec P ann .whole a fr H (K.on fun fr H=>appTy fr (fun _=>False) l J H)/\
    ∀H,allTy (fun fr J=>J H->exec P ann .whole b fr H K) l (keepFr (writes a []) fr) J
 | .upto l,.seq a b,fr,H,K=>cond (lies l a) (exec P ann (.upto l) a fr H K) (exec P ann .whole a fr H (K.on fun fr H=>exec P ann (.upto l) b fr H K))
 | .from_ l,.seq a b,fr,H,K=>cond (lies l a) (exec P ann (.from_ l) a fr H (K.on fun fr H=>exec P ann .whole b fr H K)) (exec P ann (.from_ l) b fr H K)
 | .whole,.cond c a b,fr,H,K=>ifE fr c (fun fr=>exec P ann .whole a fr H K) (fun fr=>exec P ann .whole b fr H K)
 | .whole,.block id c,fr,H,K=>exec P ann .whole c fr H (K.blk id)
 | .whole,.loop c,fr,H,K=>match annOf ann.loop (firstReg c) with
  | none=>False
  | some l=>∃(I:Ty (Heap->Prop) l) (μ:Ty (Heap->Nat) l),appTy fr (fun _=>False) l I H/\
    ∀H,allTy (T:=(Heap->Prop) × (Heap->Nat)) (fun fr Iμ=>Iμ.1 H->
     exec P ann .whole c fr H (K.on fun fr' H'=>appTy fr' (fun _=>False) l I H'/\appTy fr' (fun _=>0) l μ H'<Iμ.2 H)) l (keepFr (writes c []) fr) (pairTy l I μ)
 | .whole,.scope c,fr,H,K=>match labelIn c with
  | none=>exec P ann .whole c fr H K.noGoto
  | some lb=>cond (hasGoto lb c)
    (match findLabel c lb with
     | none=>False
     | some rest=>match annOf ann.loop (firstReg rest) with
      | none=>False
      | some l=>∃(I:Ty (Heap->Prop) l) (μ:Ty (Heap->Nat) l),
        exec P ann (.upto lb) c fr H (K.noGoto.on fun fr H=>appTy fr (fun _=>False) l I H)/\
        ∀H,allTy (T:=(Heap->Prop) × (Heap->Nat)) (fun fr Iμ=>Iμ.1 H->
         exec P ann (.from_ lb) c fr H (K.jump lb fun fr' H'=>appTy fr' (fun _=>False) l I H'/\appTy fr' (fun _=>0) l μ H'<Iμ.2 H)) l (keepFr (writes c []) fr) (pairTy l I μ))
    (exec P ann .whole c fr H K.noGoto)
 | _,_,_,_,_=>False
def resultsE (P:Program):List ResultVar->List Value->Fr->Heap->(List Value->Prop)->Prop
 | [],acc,_,_,K=>K acc
 | .tmp t ::r,acc,fr,H,K=>match look fr t with
  | some v=>resultsE P r (acc++[v.den]) fr H K
  | none=>False
 | .cell t ty ::r,acc,fr,H,K=>match look fr t with
  | some (.ptr b o)=>stepQ P (loadQ P ty b o) H fun v=>resultsE P r (acc++[v.den]) fr H K
  | _=>False
def oneOrTuple:List Value->Value
 | [v]=>v
 | vs=>.tuple vs.toArray
def endE (P:Program)(fn:Func)(R:Value->Heap->Prop):Cont
 | .normal,fr,H | .ret,fr,H=>resultsE P fn.results.toList [] fr H fun vs=>R (oneOrTuple vs) H
 | _,_,_=>False
def entry:Nat->List SV->Fr
 | _,[]=>[]
 | i,v ::r=>entry (i+1) r++[(i,v)]
def vc (P:Program)(ann:Ann)(f:FuncId)(args:List SV)(H:Heap)(R:Value->Heap->Prop):Prop:=
 match P.funcs[f]? with
 | some fn=>match fn.body with
  | some c=>exec P ann .whole c (entry 0 args) H (endE P fn R)
  | none=>False
 | none=>False
end Go.VC
namespace Go.VC
variable {P:Program}
theorem lit_den:∀(v:Value) (s:SV),lit v=some s->s.den=v:=by
 intro v s h
 unfold lit at h
 split at h
 ·rename_i n
  cases hb:Nat.blt n 18446744073709551616 with
  | false=>rw[hb] at h;simp at h
  | true=>
   rw[hb] at h
   simp only[cond_true,Option.some.injEq] at h
   subst h
   have hlt:n<18446744073709551616:=by simpa [Nat.blt_eq] using hb
   simp only[SV.den,UInt64.toNat_ofNat',Nat.reducePow]
   rw[Nat.mod_eq_of_lt hlt]
   rfl
 ·simp at h
 ·cases h;rfl
 ·cases h;rfl
 ·cases h;rfl
 ·cases h;rfl
 ·cases h;rfl
 ·cases h;simp[SV.den]
 ·cases h;rfl
theorem evs_den {fr:Fr}{ρ:Operand->Value}:∀(xs:List Operand) (vs:List SV),(∀x∈xs,∀s,ev fr x=some s->ρ x=s.den)->evs fr xs=some vs->xs.map ρ=denL vs
 | [],vs,_,h=>by cases h;rfl
 | x ::xs,vs,hA,h=>by
  simp only[evs] at h
  split at h
  ·rename_i v vs' h1 h2
   cases h
   simp only[List.map_cons,denL]
   rw[hA x (by simp) v h1,evs_den xs vs' (fun y hy=>hA y (by simp[hy])) h2]
  ·cases h
def EntOk (q:QRes)(v:SV)(H:Heap):Prop:=∀e,entOf q v=some e->e.holds H
def Quiet (P:Program)(o:Oper)(fr:Fr)(q:QRes)(v:SV):Prop:=
 ∀(ρ:Operand->Value) (w:World),(∀x∈o.op.operands,∀s,ev fr x=some s->ρ x=s.den)->EntOk q v w.heap->(execOp ρ o).run P w=.ok (.value v.den) w
theorem cell_rd (w:World)(b o:Nat):w.cell? ⟨b,o,none⟩=rd w.heap b o:=by
 simp only[World.cell?,rd]
 cases w.heap[b]? with
 | none=>rfl
 | some x=>cases x<;>simp
theorem rdL_get {H:Heap}{b:Nat}:∀{vs:List Value} {o:Nat},RdL H b o vs->∀j v,vs[j]?=some v->rd H b (o+j)=some v
 | [],_,_,j,v,h=>by simp at h
 | x ::xs,o,⟨h0,h1⟩,0,v,h=>by simp at h;subst h;exact h0
 | x ::xs,o,⟨h0,h1⟩,j+1,v,h=>by
  have:=rdL_get h1 j v (by simpa using h)
  rw[show o+(j+1)=o+1+j from by omega];exact this
theorem run_isAgg (t:TypeId)(w:World)(n:TypeDesc)(h:P.underlying t=some n):(isAgg t).run P w=.ok (isAggT P t) w:=by
 unfold isAgg isAggT
 simp only[h,underlying,Sem.run_bind,run_program,Result.andThen_ok,Sem.run_pure]
 cases n<;>rfl
theorem run_sizeOfT {t:TypeId}{n:Nat}(w:World)(h:sizeOfT P t=some n):(sizeOf t).run P w=.ok n w:=by
 unfold sizeOfT at h
 split at h
 ·rename_i i hi;cases h;simp[sizeOf,typeInfo,hi]
 ·cases h
theorem run_loadVar_one {t:TypeId}{b o:Nat}{v:Value}(w:World){n:TypeDesc}(hu:P.underlying t=some n)(ha:isAggT P t=false)(h:rd w.heap b o=some v) :
  (loadVar t ⟨b,o,none⟩).run P w=.ok v w:=by
 unfold loadVar
 rw[Sem.run_bind,run_isAgg t w n hu,Result.andThen_ok]
 simp only[ha,Bool.false_eq_true,if_false,run_load,cell_rd,h]
theorem addr_add (b o n:Nat):Addr.add ⟨b,o,none⟩ n=⟨b,o+n,none⟩:=by
 unfold Addr.add;split<;>simp_all
theorem run_loadVar_agg {t:TypeId}{b o:Nat}{cs:List Value}(w:World){n:TypeDesc}(hu:P.underlying t=some n)(ha:isAggT P t=true)
  (hs:sizeOfT P t=some cs.length) (h:RdL w.heap b o cs) :
  (loadVar t ⟨b,o,none⟩).run P w=.ok (.agg cs.toArray) w:=by
 unfold loadVar
 rw[Sem.run_bind,run_isAgg t w n hu,Result.andThen_ok]
 simp only[ha,if_true,Sem.run_bind,run_sizeOfT w hs,Result.andThen_ok]
 have:=run_loadCells_list (P:=P) (w:=w) ⟨b,o,none⟩ cs (fun j v hj=>by rw[addr_add,cell_rd];exact rdL_get h j v hj)
 simp[this]
theorem isAggT_und {t:TypeId}(h:isAggT P t=true):∃n,P.underlying t=some n:=by
 unfold isAggT at h;split at h<;>simp_all
theorem undOk_und {t:TypeId}(h:undOk P t=true):∃n,P.underlying t=some n:=by
 unfold undOk at h;split at h<;>simp_all
def Ag (o:Oper)(fr:Fr)(ρ:Operand->Value):Prop:=∀x∈o.op.operands,∀s,ev fr x=some s->ρ x=s.den
def QSem (P:Program)(o:Oper)(fr:Fr):QRes->Prop
 | .no=>True
 | .val v=>∀ρ w,Ag o fr ρ->(execOp ρ o).run P w=.ok (.value v.den) w
 | .obl p v=>p->∀ρ w,Ag o fr ρ->(execOp ρ o).run P w=.ok (.value v.den) w
 | .split p _ x y=>(p->∀ρ w,Ag o fr ρ->(execOp ρ o).run P w=.ok (.value x.den) w)/\(¬p->∀ρ w,Ag o fr ρ->(execOp ρ o).run P w=.ok (.value y.den) w)
 | .ld sh b off=>∀ρ w,Ag o fr ρ->match sh with
  | .agg n=>∀cs:List Value,cs.length=n->RdL w.heap b off cs->(execOp ρ o).run P w=.ok (.value (.agg cs.toArray)) w
  | _=>∀v,rd w.heap b off=some v->(execOp ρ o).run P w=.ok (.value v) w
 | .addr a len i size=>∀b off,At a b off->0<=i/\i<len->∀ρ w,Ag o fr ρ->(execOp ρ o).run P w=.ok (.value (.pointer (some ⟨b,off+mz i.toNat size,none⟩))) w
 | .nn v=>∀b off,v=.pointer (some ⟨b,off,none⟩)->∀ρ w,Ag o fr ρ->(execOp ρ o).run P w=.ok (.value v) w
 | .isNil v neg=>∀a,v=.pointer a->∀ρ w,Ag o fr ρ->(execOp ρ o).run P w=.ok (.value (.bool (cond neg (decide (¬a=none)) (decide (a=none))))) w
 | .part p sh cs off=>p->match sh with
  | .agg n=>off+n<=cs.length->∀ρ w,Ag o fr ρ->(execOp ρ o).run P w=.ok (.value (.agg ((cs.drop off).take n).toArray)) w
  | _=>∀v,cs[off]?=some v->∀ρ w,Ag o fr ρ->(execOp ρ o).run P w=.ok (.value v) w
 | .semB s=>∀c:Bool,(∀w:World,s.run P w=.ok (.bool c) w)->∀ρ w,Ag o fr ρ->(execOp ρ o).run P w=.ok (.value (.bool c)) w
theorem openV_elim {sh:Sh}{v:Value}{K:SV->Prop}(h:openV sh v K):∃s,K s/\s.den=v:=by
 cases sh<;>simp only[openV] at h
 case int k=>obtain⟨n,rfl,hk⟩:=h;exact⟨_,hk,rfl⟩
 case u64=>obtain⟨n,rfl,hk⟩:=h;exact⟨_,hk,rfl⟩
 case bool=>obtain⟨n,rfl,hk⟩:=h;exact⟨_,hk,rfl⟩
 case slc=>obtain⟨a,l,c,rfl,hk⟩:=h;exact⟨_,hk,rfl⟩
 case agg n=>obtain⟨cs,_,rfl,hk⟩:=h;exact⟨_,hk,rfl⟩
 case val=>exact⟨_,h,rfl⟩
theorem quiet_of_qsem {o:Oper}{fr:Fr}{H:Heap}{K:SV->Prop}:∀{q:QRes},QSem P o fr q->stepQ P q H K->
  ∃v,K v/\EntOk q v H/\Quiet P o fr q v:=by
 intro q hs h
 cases q<;>simp only[stepQ] at h<;>simp only[QSem] at hs
 case val v=>exact⟨v,h,by intro e he;simp[entOf] at he,fun ρ w hA _=>hs ρ w hA⟩
 case obl p v=>exact⟨v,h.2,by intro e he;simp[entOf] at he,fun ρ w hA _=>hs h.1 ρ w hA⟩
 case split p d x y=>
  rcases Classical.em p with hp|hp
  ·exact⟨x,h.1 hp,by intro e he;simp[entOf] at he,fun ρ w hA _=>hs.1 hp ρ w hA⟩
  ·exact⟨y,h.2 hp,by intro e he;simp[entOf] at he,fun ρ w hA _=>hs.2 hp ρ w hA⟩
 case ld sh b off=>
  cases sh<;>simp only[openR] at h<;>simp only[] at hs
  case agg n=>
   obtain⟨cs,hl,hr,hk⟩:=h
   refine⟨_,hk,fun e he=>?_,fun ρ w hA hE=>?_⟩
   ·simp only[entOf,Option.some.injEq] at he;subst he;exact hr
   ·exact hs ρ w hA cs hl (hE _ rfl)
  case int k=>
   obtain⟨n,hr,hk⟩:=h
   refine⟨_,hk,fun e he=>?_,fun ρ w hA hE=>?_⟩
   ·simp only[entOf,Option.some.injEq] at he;subst he;exact hr
   ·exact hs ρ w hA _ (hE _ rfl)
  case u64=>
   obtain⟨n,hr,hk⟩:=h
   refine⟨_,hk,fun e he=>?_,fun ρ w hA hE=>?_⟩
   ·simp only[entOf,Option.some.injEq] at he;subst he;exact hr
   ·exact hs ρ w hA _ (hE _ rfl)
  case bool=>
   obtain⟨n,hr,hk⟩:=h
   refine⟨_,hk,fun e he=>?_,fun ρ w hA hE=>?_⟩
   ·simp only[entOf,Option.some.injEq] at he;subst he;exact hr
   ·exact hs ρ w hA _ (hE _ rfl)
  case slc=>
   obtain⟨a,l,c,hr,hk⟩:=h
   refine⟨_,hk,fun e he=>?_,fun ρ w hA hE=>?_⟩
   ·simp only[entOf,Option.some.injEq] at he;subst he;exact hr
   ·exact hs ρ w hA _ (hE _ rfl)
  case val=>
   obtain⟨v,hr,hk⟩:=h
   refine⟨_,hk,fun e he=>?_,fun ρ w hA hE=>?_⟩
   ·simp only[entOf,Option.some.injEq] at he;subst he;exact hr
   ·exact hs ρ w hA _ (hE _ rfl)
 case addr a len i size=>
  obtain⟨b,off,ha,hi,hk⟩:=h
  exact⟨_,hk,by intro e he;simp[entOf] at he,fun ρ w hA _=>hs b off ha hi ρ w hA⟩
 case nn v=>
  obtain⟨b,off,hv,hk⟩:=h
  refine⟨_,hk,by intro e he;simp[entOf] at he,fun ρ w hA _=>?_⟩
  have:=hs b off hv ρ w hA
  rw[this,hv];rfl
 case isNil v neg=>
  obtain⟨a,hv,hk⟩:=h
  refine⟨_,hk,by intro e he;simp[entOf] at he,fun ρ w hA _=>?_⟩
  rw[hs a hv ρ w hA]
  cases neg<;>rfl
 case part p sh cs off=>
  obtain⟨hp,h⟩:=h
  have hs:=hs hp
  cases sh<;>simp only[] at h hs
  case agg n=>
   exact⟨_,h.2,by intro e he;simp[entOf] at he,fun ρ w hA _=>hs h.1 ρ w hA⟩
  all_goals
   obtain⟨v,hv,h⟩:=h
   obtain⟨s,hk,hd⟩:=openV_elim h
   exact⟨s,hk,by intro e he;simp[entOf] at he,fun ρ w hA _=>by rw[hs v hv ρ w hA,hd]⟩
 case semB s=>
  obtain⟨c,hc,hk⟩:=h
  exact⟨_,hk,by intro e he;simp[entOf] at he,fun ρ w hA _=>by rw[hs c hc ρ w hA];rfl⟩
end Go.VC
namespace Go.VC
variable {P:Program}
theorem ag1 {o:Oper}{fr:Fr}{ρ:Operand->Value}(hA:Ag o fr ρ){x:Operand}{s:SV}(hx:x∈o.op.operands)(h:ev fr x=some s):ρ x=s.den:=hA x hx s h
theorem fieldsOf_und {t:TypeId}{fs:List Field}(h:fieldsOf P t=some fs):∃a:Array Field,P.underlying t=some (.struct a)/\fs=a.toList:=by
 unfold fieldsOf at h;split at h
 ·rename_i a ha;cases h;exact⟨a,ha,rfl⟩
 ·cases h
theorem elemOf_und {t:TypeId}{n:Option Nat}{e:TypeId}(h:elemOf P t=some (n,e)) :
  (∃k,n=some k/\P.underlying t=some (.array k e))\/(n=none/\P.underlying t=some (.slice e)):=by
 unfold elemOf at h;split at h<;>simp_all
theorem run_und {t:TypeId}{d:TypeDesc}(w:World)(h:P.underlying t=some d):(underlying t).run P w=.ok d w:=by
 simp[underlying,h]
theorem qsem_load (o:Oper)(fr:Fr)(t:TypeId)(x:Operand)(ho:o.op=.load t x):QSem P o fr (qOp P o fr):=by
 obtain⟨dst,op,ty,pos,after,guard⟩:=o
 simp only at ho;subst ho
 simp only[qOp]
 split
 case h_2=>trivial
 rename_i b off hx
 have key:∀ρ w,Ag ⟨dst,.load t x,ty,pos,after,guard⟩ fr ρ->(execOp ρ ⟨dst,.load t x,ty,pos,after,guard⟩).run P w=((loadVar t ⟨b,off,none⟩).run P w).andThen fun v w=>.ok (.value v) w:=by
  intro ρ w hA
  have:=ag1 hA (x:=x) (by simp[Op.operands]) hx
  simp only[execOp,this,SV.den,Instr.loadAt,Instr.sureAddr,Sem.run_bind,Sem.run_pure,Result.andThen_ok]
 unfold loadQ
 cases ha:isAggT P t with
 | true=>
  cases hsh:shT P t with
  | none=>trivial
  | some sh=>
   cases sh<;>try trivial
   rename_i n
   cases hsz:sizeOfT P t with
   | none=>trivial
   | some m=>
    simp only[]
    cases hnm:Nat.beq n m with
    | false=>trivial
    | true=>
     have hnm:=Nat.eq_of_beq_eq_true hnm
     subst hnm
     simp only[cond_true,QSem]
     intro ρ w hA cs hl hr
     obtain⟨d,hd⟩:=isAggT_und ha
     rw[key ρ w hA,run_loadVar_agg w hd ha (by rw[hsz,hl]) hr];rfl
 | false=>
  cases hsh:shT P t with
  | none=>trivial
  | some sh=>
   cases hu:undOk P t with
   | false=>cases sh<;>simp only[cond_false]<;>trivial
   | true=>
    obtain⟨d,hd⟩:=undOk_und hu
    cases sh<;>try trivial
    all_goals
     simp only[cond_true,QSem]
     intro ρ w hA v hr
     rw[key ρ w hA,run_loadVar_one w hd ha hr];rfl
theorem part_run {t:TypeId}{cs:List Value}{off:Nat}{p:Prop}(o:Oper)(fr:Fr)
  (key:p->∀ρ w,Ag o fr ρ->(execOp ρ o).run P w=((part t cs.toArray off).run P w).andThen fun v w=>.ok (.value v) w):QSem P o fr (partQ P p t cs off):=by
 unfold partQ
 cases ha:isAggT P t with
 | true=>
  cases hsh:shT P t with
  | none=>trivial
  | some sh=>
   cases sh<;>try trivial
   rename_i n
   cases hsz:sizeOfT P t with
   | none=>trivial
   | some m=>
    simp only[]
    cases hnm:Nat.beq n m with
    | false=>trivial
    | true=>
     have hnm:=Nat.eq_of_beq_eq_true hnm
     subst hnm
     simp only[cond_true,QSem]
     intro hp hle ρ w hA
     obtain⟨d,hd⟩:=isAggT_und ha
     rw[key hp ρ w hA]
     unfold part
     rw[Sem.run_bind,run_isAgg t w d hd,Result.andThen_ok]
     simp only[ha,if_true,Sem.run_bind,run_sizeOfT w hsz,Result.andThen_ok,Sem.run_pure,List.extract_toArray,List.extract_eq_take_drop,Nat.add_sub_cancel_left]
 | false=>
  cases hsh:shT P t with
  | none=>trivial
  | some sh=>
   cases hu:undOk P t with
   | false=>cases sh<;>simp only[cond_false]<;>trivial
   | true=>
    obtain⟨d,hd⟩:=undOk_und hu
    cases sh<;>try trivial
    all_goals
     simp only[cond_true,QSem]
     intro hp v hv ρ w hA
     rw[key hp ρ w hA]
     unfold part
     rw[Sem.run_bind,run_isAgg t w d hd,Result.andThen_ok]
     simp[ha,hv]
theorem idx_asInt {s:SV}{i:Int}(w:World)(h:idx s=some i):∃k,(asIntOf s.den).run P w=.ok (k,i) w/\s.den=.int k i:=by
 cases s<;>simp only[idx] at h<;>cases h
 ·exact⟨_,rfl,rfl⟩
 ·exact⟨_,rfl,rfl⟩
theorem qsem_indexAddr (o:Oper)(fr:Fr)(t:TypeId)(x y:Operand)(ho:o.op=.indexAddr t x y):QSem P o fr (qOp P o fr):=by
 obtain⟨dst,op,ty,pos,after,guard⟩:=o
 simp only at ho;subst ho
 simp only[qOp]
 split
 ·rename_i a len cp s e hx hy he
  split
  ·rename_i i sz hi hs
   simp only[QSem]
   intro b off hat hi2 ρ w hA
   obtain⟨k,hk,hden⟩:=idx_asInt (P:=P) w hi
   have h1:=ag1 hA (x:=x) (by simp[Op.operands]) hx
   have h2:=ag1 hA (x:=y) (by simp[Op.operands]) hy
   rcases elemOf_und he with ⟨_,h,_⟩|⟨_,hu⟩
   ·cases h
   ·unfold At at hat
    subst hat
    simp only[execOp,h1,h2,Instr.indexAt,Sem.run_bind,hk,Result.andThen_ok,run_und w hu,SV.den,Sem.run_pure,hi2,and_self,if_true,run_sizeOfT w hs,addr_add,mz_eq]
  ·trivial
 ·rename_i b off s n e hx hy he
  split
  ·rename_i i sz hi hs
   simp only[QSem]
   intro hi2 ρ w hA
   obtain⟨k,hk,hden⟩:=idx_asInt (P:=P) w hi
   have h1:=ag1 hA (x:=x) (by simp[Op.operands]) hx
   have h2:=ag1 hA (x:=y) (by simp[Op.operands]) hy
   rcases elemOf_und he with ⟨k',h,hu⟩|⟨h,_⟩
   ·cases h
    simp only[execOp,h1,h2,Instr.indexAt,Sem.run_bind,hk,Result.andThen_ok,run_und w hu,SV.den,Instr.sureAddr,Sem.run_pure,hi2,and_self,if_true,run_sizeOfT w hs,addr_add]
   ·cases h
  ·trivial
 ·trivial
theorem kindEq_eq {a b:IntKind}(h:kindEq a b=true):a=b:=by simpa [kindEq] using h
theorem wrap_i64 {n:Int}(h:I64 n):IntKind.i64.wrap n=n:=by
 obtain⟨h1,h2⟩:=h
 unfold IntKind.wrap
 show (if (true && decide (n % (2 ^ 64:Int) ≥ (2 ^ 63:Int)))=true then n % (2 ^ 64:Int)-(2 ^ 64:Int) else n % (2 ^ 64:Int))=n
 simp only[Bool.true_and,decide_eq_true_eq]
 split<;>omega
theorem wrap_u64 (n:Int):IntKind.u64.wrap n=n % 18446744073709551616:=by
 unfold IntKind.wrap
 show (if (false && decide (n % (2 ^ 64:Int) ≥ (2 ^ 63:Int)))=true then n % (2 ^ 64:Int)-(2 ^ 64:Int) else n % (2 ^ 64:Int))=_
 simp
theorem wrap_ofInt (n:Int):IntKind.u64.wrap n=((UInt64.ofInt n).toNat:Int):=by
 rw[wrap_u64]
 simp[UInt64.ofInt]
 omega
theorem run_binOp_eq {o:Oper}{op:BinOp}{t yt:TypeId}{x y:Operand}(ho:o.op=.binOp op t x y yt)(ρ:Operand->Value)(w:World) :
  (execOp ρ o).run P w=((do eqGuard op t x y (ρ x) (ρ y);binOp op t (ρ x) (ρ y):Sem Value).run P w).andThen fun v w=>.ok (.value v) w:=by
 obtain⟨dst,op',ty,pos,after,guard⟩:=o
 simp only at ho;subst ho
 simp only[execOp,Sem.run_bind]
 cases (eqGuard op t x y (ρ x) (ρ y)).run P w<;>simp
theorem guard_int {op:BinOp}{t:TypeId}{x y:Operand}{k:IntKind}{n:Int}{v:Value}:eqGuard op t x y (.int k n) v=pure ():=by cases op<;>rfl
theorem Int.beq_eq_decide' (a b:Int):(a == b)=decide (a=b):=by by_cases h:a=b<;>simp[h]
theorem cmpI_run {op:BinOp}{k:IntKind}{a b:Int}{v:SV}(t:TypeId)(w:World)(h:cmpI op a b=some v):(binOp op t (.int k a) (.int k b)).run P w=.ok v.den w:=by
 cases op<;>simp only[cmpI,Option.some.injEq,reduceCtorEq] at h<;>subst h<;>simp[binOp,Op.intCmp,SV.den,bne,Int.beq_eq_decide']
theorem u64_inj {a b:UInt64}:((a.toNat:Int)=b.toNat)<->a=b:=by
 constructor
 ·intro h;exact UInt64.toNat_inj.1 (by omega)
 ·rintro rfl;rfl
theorem cmpU_run {op:BinOp}{a b:UInt64}{v:SV}(t:TypeId)(w:World)(h:cmpU op a b=some v) :
  (binOp op t (.int .u64 (a.toNat:Int)) (.int .u64 (b.toNat:Int))).run P w=.ok v.den w:=by
 cases op<;>simp only[cmpU,Option.some.injEq,reduceCtorEq] at h<;>subst h<;>
  simp[binOp,Op.intCmp,SV.den,bne,Int.beq_eq_decide',u64_inj,UInt64.lt_iff_toNat_lt,UInt64.le_iff_toNat_le]
theorem u64_add (a b:UInt64):IntKind.u64.wrap ((a.toNat:Int)+b.toNat)=((a+b).toNat:Int):=by
 rw[wrap_u64,UInt64.toNat_add];omega
theorem u64_sub (a b:UInt64):IntKind.u64.wrap ((a.toNat:Int)-b.toNat)=((a-b).toNat:Int):=by
 have:=a.toNat_lt;have:=b.toNat_lt
 rw[wrap_u64,UInt64.toNat_sub];omega
theorem u64_mul (a b:UInt64):IntKind.u64.wrap ((a.toNat:Int)*b.toNat)=((a*b).toNat:Int):=by
 rw[wrap_u64,UInt64.toNat_mul,<-Int.natCast_mul];omega
theorem u64_small (a:UInt64):IntKind.u64.wrap (a.toNat:Int)=(a.toNat:Int):=by
 have:=a.toNat_lt
 rw[wrap_u64];omega
theorem bv_u64 (a:UInt64):BitVec.ofInt 64 (a.toNat:Int)=a.toBitVec:=by
 apply BitVec.eq_of_toNat_eq
 have:=a.toNat_lt
 simp
theorem binI_sem {op:BinOp}{k:IntKind}{a b:Int}{o:Oper}{fr:Fr}(hk:k≠.u64)
  (key:∀ρ w,Ag o fr ρ->∃t,(execOp ρ o).run P w=((binOp op t (.int k a) (.int k b)).run P w).andThen fun v w=>.ok (.value v) w):QSem P o fr (binI op k a b):=by
 unfold binI
 split
 ·rename_i v hv
  intro ρ w hA
  obtain⟨t,ht⟩:=key ρ w hA
  rw[ht,cmpI_run t w hv];rfl
 ·split
  ·rename_i n hn
   have hr:∀t w,(binOp op t (.int k a) (.int k b)).run P w=.ok (.int k (k.wrap n)) w:=by
    intro t w
    cases op<;>simp only[arith,Option.some.injEq,reduceCtorEq] at hn<;>subst hn<;>simp[binOp,Op.intArith]
   split
   ·intro hp ρ w hA
    obtain⟨t,ht⟩:=key ρ w hA
    rw[ht,hr,wrap_i64 hp];rfl
   ·intro ρ w hA
    obtain⟨t,ht⟩:=key ρ w hA
    rw[ht,hr];rfl
  ·split
   ·rintro⟨ha,hb,hi⟩ ρ w hA
    obtain⟨t,ht⟩:=key ρ w hA
    rw[ht]
    have hd:a.tdiv b=a / b:=Int.tdiv_eq_ediv_of_nonneg ha
    have h1:0<=a / b:=Int.ediv_nonneg ha (by omega)
    have h2:a / b<=a:=Int.ediv_le_self b ha
    have hw:IntKind.i64.wrap (a / b)=a / b:=wrap_i64 (by unfold I64 at *;omega)
    have hne:b≠0:=by omega
    simp[binOp,Op.intDiv,hne,hd,hw,SV.den]
   ·rintro⟨ha,hb⟩ ρ w hA
    obtain⟨t,ht⟩:=key ρ w hA
    rw[ht]
    have hne:b≠0:=by omega
    have hd:a.tmod b=a % b:=Int.tmod_eq_emod_of_nonneg ha
    simp[binOp,Op.intDiv,hne,hd,SV.den]
   ·trivial
theorem binU_sem {op:BinOp}{a b:UInt64}{o:Oper}{fr:Fr}
  (key:∀ρ w,Ag o fr ρ->∃t,(execOp ρ o).run P w=((binOp op t (.int .u64 (a.toNat:Int)) (.int .u64 (b.toNat:Int))).run P w).andThen fun v w=>.ok (.value v) w):QSem P o fr (binU op a b):=by
 unfold binU
 split
 ·rename_i v hv
  intro ρ w hA
  obtain⟨t,ht⟩:=key ρ w hA
  rw[ht,cmpU_run t w hv];rfl
 ·split
  ·intro ρ w hA;obtain⟨t,ht⟩:=key ρ w hA;rw[ht];simp[binOp,Op.intArith,u64_add,SV.den]
  ·intro ρ w hA;obtain⟨t,ht⟩:=key ρ w hA;rw[ht];simp[binOp,Op.intArith,u64_sub,SV.den]
  ·intro ρ w hA;obtain⟨t,ht⟩:=key ρ w hA;rw[ht];simp[binOp,Op.intArith,u64_mul,SV.den]
  ·intro hb ρ w hA;obtain⟨t,ht⟩:=key ρ w hA;rw[ht]
   have hne:¬((b.toNat:Int)=0):=fun h=>hb (by apply UInt64.toNat_inj.1;simp;omega)
   have hd:(a.toNat:Int).tdiv b.toNat=((a / b).toNat:Int):=by rw[Int.tdiv_eq_ediv_of_nonneg (by omega),UInt64.toNat_div];rfl
   simp only[binOp,Op.intDiv,ne_eq,not_true_eq_false,if_false,hne,hd,u64_small,SV.den,Sem.run_pure,Result.andThen_ok]
  ·intro hb ρ w hA;obtain⟨t,ht⟩:=key ρ w hA;rw[ht]
   have hne:¬((b.toNat:Int)=0):=fun h=>hb (by apply UInt64.toNat_inj.1;simp;omega)
   have hd:(a.toNat:Int).tmod b.toNat=((a % b).toNat:Int):=by rw[Int.tmod_eq_emod_of_nonneg (by omega),UInt64.toNat_mod];rfl
   simp only[binOp,Op.intDiv,ne_eq,not_true_eq_false,if_false,hne,hd,SV.den,Sem.run_pure,Result.andThen_ok]
  ·intro ρ w hA;obtain⟨t,ht⟩:=key ρ w hA;rw[ht]
   have h:=u64_small (a &&& b)
   have he:(BitVec.ofInt IntKind.u64.bits (a.toNat:Int) &&& BitVec.ofInt IntKind.u64.bits (b.toNat:Int)).toNat=(a &&& b).toNat:=by
    show (BitVec.ofInt 64 (a.toNat:Int) &&& BitVec.ofInt 64 (b.toNat:Int)).toNat=_
    rw[bv_u64,bv_u64];rfl
   simp only[binOp,Op.intBits,ne_eq,not_true_eq_false,if_false,Sem.run_pure,Result.andThen_ok,SV.den,he,h]
  ·intro ρ w hA;obtain⟨t,ht⟩:=key ρ w hA;rw[ht]
   have h:=u64_small (a ||| b)
   have he:(BitVec.ofInt IntKind.u64.bits (a.toNat:Int) ||| BitVec.ofInt IntKind.u64.bits (b.toNat:Int)).toNat=(a ||| b).toNat:=by
    show (BitVec.ofInt 64 (a.toNat:Int) ||| BitVec.ofInt 64 (b.toNat:Int)).toNat=_
    rw[bv_u64,bv_u64];rfl
   simp only[binOp,Op.intBits,ne_eq,not_true_eq_false,if_false,Sem.run_pure,Result.andThen_ok,SV.den,he,h]
  ·intro ρ w hA;obtain⟨t,ht⟩:=key ρ w hA;rw[ht]
   have h:=u64_small (a ^^^ b)
   have he:(BitVec.ofInt IntKind.u64.bits (a.toNat:Int) ^^^ BitVec.ofInt IntKind.u64.bits (b.toNat:Int)).toNat=(a ^^^ b).toNat:=by
    show (BitVec.ofInt 64 (a.toNat:Int) ^^^ BitVec.ofInt 64 (b.toNat:Int)).toNat=_
    rw[bv_u64,bv_u64];rfl
   simp only[binOp,Op.intBits,ne_eq,not_true_eq_false,if_false,Sem.run_pure,Result.andThen_ok,SV.den,he,h]
  ·trivial
end Go.VC
namespace Go.VC
variable {P:Program}
theorem run_equal_ptr_nil {t e:TypeId}{a:Option Addr}(w:World)(h:P.underlying t=some (.pointer e)) :
  (Op.equal t (.pointer a) (.pointer none)).run P w=.ok (decide (a=none)) w:=by
 have key:∀d,(Op.equalIn (d+1) t (.pointer a) (.pointer none)).run P w=.ok (decide (a=none)) w:=fun d=>by
  simp only[Op.equalIn,Sem.run_bind,run_und w h,Result.andThen_ok]
  cases a<;>rfl
 exact key 9999
theorem run_equal_slc_nil {t e:TypeId}{a:Option Addr}{l c l' c':Nat}(w:World)(h:P.underlying t=some (.slice e)) :
  (Op.equal t (.slice a l c) (.slice none l' c')).run P w=.ok (decide (a=none)) w:=by
 have key:∀d,(Op.equalIn (d+1) t (.slice a l c) (.slice none l' c')).run P w=.ok (decide (a=none)) w:=fun d=>by
  simp only[Op.equalIn,Sem.run_bind,run_und w h,Result.andThen_ok]
  cases a<;>rfl
 exact key 9999
theorem run_equal_bool {t:TypeId}{a b:Bool}(w:World)(h:P.underlying t=some .bool) :
  (Op.equal t (.bool a) (.bool b)).run P w=.ok (a == b) w:=by
 have key:∀d,(Op.equalIn (d+1) t (.bool a) (.bool b)).run P w=.ok (a == b) w:=fun d=>by
  simp only[Op.equalIn,Sem.run_bind,run_und w h,Result.andThen_ok,Sem.run_pure]
 exact key 9999
theorem beq_dec (p q:Prop)[Decidable p][Decidable q]:(decide p == decide q)=decide (p<->q):=by by_cases hp:p<;>by_cases hq:q<;>simp[hp,hq]
theorem beq_dec' (p q:Prop)[Decidable p][Decidable q]:(decide p == decide q)=decide (p<->q):=beq_dec p q
theorem isPtrT_und {t:TypeId}(h:isPtrT P t=true):∃e,P.underlying t=some (.pointer e):=by
 unfold isPtrT at h;split at h<;>simp_all
theorem isSlcT_und {t:TypeId}(h:isSlcT P t=true):∃e,P.underlying t=some (.slice e):=by
 unfold isSlcT at h;split at h<;>simp_all
theorem isBoolT_und {t:TypeId}(h:isBoolT P t=true):P.underlying t=some .bool:=by
 unfold isBoolT at h;split at h<;>simp_all
theorem shiftU_sem {op:BinOp}{a:UInt64}{y:Int}{o:Oper}{fr:Fr}
  (key:∀ρ w,Ag o fr ρ->∃t k,(execOp ρ o).run P w=((binOp op t (.int .u64 (a.toNat:Int)) (.int k y)).run P w).andThen fun v w=>.ok (.value v) w):QSem P o fr (shiftU op a y):=by
 unfold shiftU
 split
 ·rintro⟨h0,h1⟩ ρ w hA
  obtain⟨t,k,ht⟩:=key ρ w hA
  rw[ht]
  have hm:min y.toNat IntKind.u64.bits=y.toNat:=by show min y.toNat 64=_;omega
  have hn:¬y<0:=by omega
  have hw:IntKind.u64.wrap ((a.toNat:Int)*2 ^ y.toNat)=((UInt64.ofNat (a.toNat*2 ^ y.toNat)).toNat:Int):=by
   rw[wrap_u64,UInt64.toNat_ofNat']
   have:((a.toNat:Int)*2 ^ y.toNat)=((a.toNat*2 ^ y.toNat:Nat):Int):=by simp
   rw[this];omega
  simp only[binOp,Op.shift,hn,if_false,hm,Sem.run_pure,Result.andThen_ok,SV.den,hw]
 ·rintro⟨h0,h1⟩ ρ w hA
  obtain⟨t,k,ht⟩:=key ρ w hA
  rw[ht]
  have hm:min y.toNat IntKind.u64.bits=y.toNat:=by show min y.toNat 64=_;omega
  have hn:¬y<0:=by omega
  have hlt:a.toNat / 2 ^ y.toNat<2 ^ 64:=Nat.lt_of_le_of_lt (Nat.div_le_self _ _) a.toNat_lt
  have hw:(a.toNat:Int).fdiv (2 ^ y.toNat)=((UInt64.ofNat (a.toNat / 2 ^ y.toNat)).toNat:Int):=by
   rw[UInt64.toNat_ofNat',Nat.mod_eq_of_lt hlt,Int.fdiv_eq_ediv_of_nonneg _ (by exact_mod_cast Nat.zero_le _)]
   simp
  simp only[binOp,Op.shift,hn,if_false,hm,Sem.run_pure,Result.andThen_ok,SV.den,hw]
 ·trivial
theorem qsem_binOp (o:Oper)(fr:Fr)(op:BinOp)(t yt:TypeId)(x y:Operand)(ho:o.op=.binOp op t x y yt):QSem P o fr (qOp P o fr):=by
 have hx:x∈o.op.operands:=by rw[ho];simp[Op.operands]
 have hy:y∈o.op.operands:=by rw[ho];simp[Op.operands]
 have hk:=fun ρ w=>run_binOp_eq (P:=P) ho ρ w
 unfold qOp
 rw[ho]
 simp only[]
 split
 case h_2=>trivial
 rename_i s1 s2 h1 h2
 have key:∀ρ w,Ag o fr ρ->(execOp ρ o).run P w=((do eqGuard op t x y s1.den s2.den;binOp op t s1.den s2.den:Sem Value).run P w).andThen fun v w=>.ok (.value v) w:=by
  intro ρ w hA
  rw[hk ρ w,ag1 hA hx h1,ag1 hA hy h2]
 clear hk
 unfold binQ
 split
 ·rename_i a k n
  cases hs:isSh op with
  | false=>trivial
  | true=>
   refine shiftU_sem fun ρ w hA=>⟨t,k,?_⟩
   rw[key ρ w hA]
   simp only[SV.den,guard_int];rfl
 ·rename_i a b
  cases hs:isSh op with
  | false=>
   refine binU_sem fun ρ w hA=>⟨t,?_⟩
   rw[key ρ w hA]
   simp only[SV.den,guard_int];rfl
  | true=>
   refine shiftU_sem fun ρ w hA=>⟨t,.u64,?_⟩
   rw[key ρ w hA]
   simp only[SV.den,guard_int];rfl
 ·rename_i k a k' b
  cases hs:isSh op with
  | true=>trivial
  | false=>
   cases hkk:(kindEq k k' && !kindEq k .u64) with
   | false=>trivial
   | true=>
    simp only[Bool.and_eq_true,Bool.not_eq_true'] at hkk
    have:=kindEq_eq hkk.1
    subst this
    refine binI_sem (fun h=>by subst h;simp[kindEq] at hkk) fun ρ w hA=>⟨t,?_⟩
    rw[key ρ w hA]
    simp only[SV.den,guard_int];rfl
 ·split
  ·trivial
  ·rename_i neg hneg
   have heq:op=.eql/\neg=false\/op=.neq/\neg=true:=by cases op<;>simp[isEq] at hneg<;>simp[hneg]
   split
   ·rename_i v
    cases hp:isPtrT P t with
    | false=>trivial
    | true=>
     obtain⟨e,he⟩:=isPtrT_und hp
     intro a hv ρ w hA
     subst hv
     rw[key ρ w hA]
     rcases heq with ⟨rfl,rfl⟩|⟨rfl,rfl⟩<;>simp only[SV.den,binOp,eqGuard,Sem.run_bind]<;>simp[run_equal_ptr_nil w he]
   ·cases hp:isPtrT P t with
    | false=>trivial
    | true=>
     obtain⟨e,he⟩:=isPtrT_und hp
     intro ρ w hA
     rw[key ρ w hA]
     rcases heq with ⟨rfl,rfl⟩|⟨rfl,rfl⟩<;>simp only[SV.den,binOp,eqGuard,Sem.run_bind]<;>simp[run_equal_ptr_nil w he,SV.den]
   ·cases hp:isPtrT P t with
    | false=>trivial
    | true=>
     obtain⟨e,he⟩:=isPtrT_und hp
     intro ρ w hA
     rw[key ρ w hA]
     rcases heq with ⟨rfl,rfl⟩|⟨rfl,rfl⟩<;>simp only[SV.den,binOp,eqGuard,Sem.run_bind]<;>simp[run_equal_ptr_nil w he,SV.den]
   ·cases hp:isSlcT P t with
    | false=>trivial
    | true=>
     obtain⟨e,he⟩:=isSlcT_und hp
     intro ρ w hA
     rw[key ρ w hA]
     rcases heq with ⟨rfl,rfl⟩|⟨rfl,rfl⟩<;>simp only[SV.den,binOp,eqGuard,Sem.run_bind]<;>simp[run_equal_slc_nil w he,SV.den]
   ·cases hp:isBoolT P t with
    | false=>trivial
    | true=>
     have he:=isBoolT_und hp
     intro ρ w hA
     rw[key ρ w hA]
     rcases heq with ⟨rfl,rfl⟩|⟨rfl,rfl⟩<;>simp only[SV.den,binOp,eqGuard,Sem.run_bind]<;>simp[run_equal_bool w he,SV.den]
   ·cases hp:isBoolT P t with
    | false=>trivial
    | true=>
     have he:=isBoolT_und hp
     intro ρ w hA
     rw[key ρ w hA]
     rcases heq with ⟨rfl,rfl⟩|⟨rfl,rfl⟩<;>simp only[SV.den,binOp,eqGuard,Sem.run_bind]<;>simp[run_equal_bool w he,SV.den,<-beq_dec',-Bool.decide_iff_dist,-decide_not]<;>exact (beq_dec' _ _).trans (decide_eq_decide.2 Iff.rfl)
   ·intro c hc ρ w hA
    rw[key ρ w hA];unfold cmpS at hc;rw[hc w];rfl
theorem run_fieldPlace {b o:Nat}{f:Field}{n:Nat}(w:World)(h:sizeOfT P f.type=some (n+1)):(fieldPlace ⟨b,o,none⟩ f).run P w=.ok ⟨b,o+f.offset,none⟩ w:=by
 unfold fieldPlace
 simp[run_sizeOfT w h,addr_add]
theorem qsem_fieldAddr (o:Oper)(fr:Fr)(t:TypeId)(x:Operand)(f:Nat)(ho:o.op=.fieldAddr t x f):QSem P o fr (qOp P o fr):=by
 obtain⟨dst,op,ty,pos,after,guard⟩:=o
 simp only at ho;subst ho
 simp only[qOp]
 split
 case h_2=>trivial
 rename_i b off fs hx hf
 obtain⟨a,hu,rfl⟩:=fieldsOf_und hf
 split
 case h_2=>trivial
 rename_i fl hfl
 split
 ·trivial
 ·rename_i n hne hs
  intro ρ w hA
  obtain⟨m,rfl⟩:∃m,n=m+1:=by cases n with
   | zero=>exact (hne rfl).elim
   | succ n=>exact⟨n,rfl⟩
  have h1:=ag1 hA (x:=x) (by simp[Op.operands]) hx
  have hfl':a[f]?=some fl:=by simpa using hfl
  simp only[execOp,h1,Instr.fieldAt,Sem.run_bind,run_und w hu,Result.andThen_ok,hfl',SV.den,Instr.sureAddr,Sem.run_pure,run_fieldPlace w hs]
 ·trivial
theorem qsem_field (o:Oper)(fr:Fr)(t:TypeId)(x:Operand)(f:Nat)(ho:o.op=.field t x f):QSem P o fr (qOp P o fr):=by
 obtain⟨dst,op,ty,pos,after,guard⟩:=o
 simp only at ho;subst ho
 simp only[qOp]
 split
 case h_2=>trivial
 rename_i cs fs hx hf
 obtain⟨a,hu,rfl⟩:=fieldsOf_und hf
 split
 case h_2=>trivial
 rename_i fl hfl
 refine part_run _ _ fun _ ρ w hA=>?_
 have h1:=ag1 hA (x:=x) (by simp[Op.operands]) hx
 have hfl':a[f]?=some fl:=by simpa using hfl
 simp only[execOp,h1,Instr.field,Sem.run_bind,run_und w hu,Result.andThen_ok,hfl',SV.den,asAgg,Sem.run_pure]
theorem qsem_index (o:Oper)(fr:Fr)(t:TypeId)(x y:Operand)(ho:o.op=.index t x y):QSem P o fr (qOp P o fr):=by
 obtain⟨dst,op,ty,pos,after,guard⟩:=o
 simp only at ho;subst ho
 simp only[qOp]
 split
 case h_2=>trivial
 rename_i cs i n e hx hy he
 split
 case h_2=>trivial
 rename_i i' s hi hs
 refine part_run _ _ fun hp ρ w hA=>?_
 have h1:=ag1 hA (x:=x) (by simp[Op.operands]) hx
 have h2:=ag1 hA (x:=y) (by simp[Op.operands]) hy
 obtain⟨k,hk,hden⟩:=idx_asInt (P:=P) w hi
 rcases elemOf_und he with ⟨k',h,hu⟩|⟨h,_⟩
 ·cases h
  have hpi:=hp
  simp only[execOp,h1,h2,Instr.index,Sem.run_bind,hk,run_und w hu,Result.andThen_ok,SV.den,hpi,and_self,if_true,run_sizeOfT w hs]
  rfl
 ·cases h
theorem qsem_move (o:Oper)(fr:Fr)(x:Operand)(ho:o.op=.move x\/o.op=.assign x):QSem P o fr (qOp P o fr):=by
 obtain⟨dst,op,ty,pos,after,guard⟩:=o
 simp only at ho
 rcases ho with rfl|rfl<;>
 ·simp only[qOp]
  split
  ·rename_i v hx
   intro ρ w hA
   have h1:=ag1 hA (x:=x) (by simp[Op.operands]) hx
   simp only[execOp,h1,Sem.run_pure]
  ·trivial
theorem qsem_pick (o:Oper)(fr:Fr)(c x y:Operand)(ho:o.op=.pick c x y):QSem P o fr (qOp P o fr):=by
 obtain⟨dst,op,ty,pos,after,guard⟩:=o
 simp only at ho;subst ho
 simp only[qOp]
 split
 ·rename_i v hc hx
  intro ρ w hA
  have h0:=ag1 hA (x:=c) (by simp[Op.operands]) hc
  have h1:=ag1 hA (x:=x) (by simp[Op.operands]) hx
  simp only[execOp,h0,h1,SV.den,asBool,Sem.run_bind,Sem.run_pure,Result.andThen_ok,if_true]
 ·rename_i v hc hx
  intro ρ w hA
  have h0:=ag1 hA (x:=c) (by simp[Op.operands]) hc
  have h1:=ag1 hA (x:=y) (by simp[Op.operands]) hx
  simp only[execOp,h0,h1,SV.den,asBool,Sem.run_bind,Sem.run_pure,Result.andThen_ok,Bool.false_eq_true,if_false]
 ·rename_i p d u v hc hx hy
  refine⟨fun hp ρ w hA=>?_,fun hp ρ w hA=>?_⟩
  ·have h0:=ag1 hA (x:=c) (by simp[Op.operands]) hc
   have h1:=ag1 hA (x:=x) (by simp[Op.operands]) hx
   simp only[execOp,h0,h1,SV.den,asBool,Sem.run_bind,Sem.run_pure,Result.andThen_ok,decide_eq_true hp,if_true]
  ·have h0:=ag1 hA (x:=c) (by simp[Op.operands]) hc
   have h1:=ag1 hA (x:=y) (by simp[Op.operands]) hy
   simp only[execOp,h0,h1,SV.den,asBool,Sem.run_bind,Sem.run_pure,Result.andThen_ok,decide_eq_false hp,Bool.false_eq_true,if_false]
 ·rename_i c' u v hc hx hy
  refine⟨fun hp ρ w hA=>?_,fun hp ρ w hA=>?_⟩
  ·have h0:=ag1 hA (x:=c) (by simp[Op.operands]) hc
   have h1:=ag1 hA (x:=x) (by simp[Op.operands]) hx
   simp only[execOp,h0,h1,SV.den,asBool,Sem.run_bind,Sem.run_pure,Result.andThen_ok,hp,if_true]
  ·have h0:=ag1 hA (x:=c) (by simp[Op.operands]) hc
   have h1:=ag1 hA (x:=y) (by simp[Op.operands]) hy
   have hp':c'=false:=by simpa using hp
   simp only[execOp,h0,h1,SV.den,asBool,Sem.run_bind,Sem.run_pure,Result.andThen_ok,hp',Bool.false_eq_true,if_false]
 ·trivial
theorem qsem_nilCheck (o:Oper)(fr:Fr)(x:Operand)(ho:o.op=.nilCheck x):QSem P o fr (qOp P o fr):=by
 obtain⟨dst,op,ty,pos,after,guard⟩:=o
 simp only at ho;subst ho
 simp only[qOp]
 split
 ·rename_i b off hx
  intro ρ w hA
  have h1:=ag1 hA (x:=x) (by simp[Op.operands]) hx
  simp only[execOp,h1,SV.den,Sem.run_pure]
 ·rename_i f u v hx
  intro ρ w hA
  have h1:=ag1 hA (x:=x) (by simp[Op.operands]) hx
  simp only[execOp,h1,SV.den,Sem.run_pure]
 ·rename_i v hx
  intro b off hv ρ w hA
  have h1:=ag1 hA (x:=x) (by simp[Op.operands]) hx
  simp only[execOp,h1,SV.den,hv,Sem.run_pure]
 ·trivial
theorem denL_get:∀(l:List SV) (i:Nat),(denL l)[i]?=(l[i]?).map SV.den
 | [],i=>by simp[denL]
 | x ::r,0=>by simp[denL]
 | x ::r,i+1=>by simp[denL,denL_get r i]
theorem qsem_extract (o:Oper)(fr:Fr)(x:Operand)(i:Nat)(ho:o.op=.extract x i):QSem P o fr (qOp P o fr):=by
 obtain⟨dst,op,ty,pos,after,guard⟩:=o
 simp only at ho;subst ho
 simp only[qOp]
 split
 case h_2=>trivial
 rename_i l hx
 split
 case h_2=>trivial
 rename_i v hv
 intro ρ w hA
 have h1:=ag1 hA (x:=x) (by simp[Op.operands]) hx
 have h2:(denL l).toArray[i]?=some v.den:=by rw[List.getElem?_toArray,denL_get,hv];rfl
 simp only[execOp,h1,SV.den,Instr.extract,h2,Sem.run_bind,Sem.run_pure,Result.andThen_ok]
theorem qsem_unOp (o:Oper)(fr:Fr)(op:UnOp)(t:TypeId)(x:Operand)(ho:o.op=.unOp op t x):QSem P o fr (qOp P o fr):=by
 obtain⟨dst,op',ty,pos,after,guard⟩:=o
 simp only at ho;subst ho
 simp only[qOp]
 split
 ·rename_i hx
  intro ρ w hA
  have h1:=ag1 hA (x:=x) (by simp[Op.operands]) hx
  simp only[execOp,h1,SV.den,Op.unary,Sem.run_bind,Sem.run_pure,Result.andThen_ok,Bool.not_true]
 ·rename_i hx
  intro ρ w hA
  have h1:=ag1 hA (x:=x) (by simp[Op.operands]) hx
  simp only[execOp,h1,SV.den,Op.unary,Sem.run_bind,Sem.run_pure,Result.andThen_ok,Bool.not_false]
 ·rename_i p d hx
  intro ρ w hA
  have h1:=ag1 hA (x:=x) (by simp[Op.operands]) hx
  have h2:(!decide p)=decide (¬p):=by by_cases h:p<;>simp[h]
  simp only[execOp,h1,SV.den,Op.unary,Sem.run_bind,Sem.run_pure,Result.andThen_ok,h2]
 ·rename_i c hx
  intro ρ w hA
  have h1:=ag1 hA (x:=x) (by simp[Op.operands]) hx
  simp only[execOp,h1,SV.den,Op.unary,Sem.run_bind,Sem.run_pure,Result.andThen_ok]
 ·rename_i n hx
  intro hp ρ w hA
  have h1:=ag1 hA (x:=x) (by simp[Op.operands]) hx
  simp only[execOp,h1,SV.den,Op.unary,Op.intArith,Sem.run_bind,Sem.run_pure,Result.andThen_ok,wrap_i64 hp]
 ·rename_i n hx
  intro ρ w hA
  have h1:=ag1 hA (x:=x) (by simp[Op.operands]) hx
  have h2:=u64_sub 0 n
  simp only[UInt64.toNat_zero,Int.natCast_zero] at h2
  simp only[execOp,h1,SV.den,Op.unary,Op.intArith,Sem.run_bind,Sem.run_pure,Result.andThen_ok,h2]
 ·trivial
theorem qsem_convert (o:Oper)(fr:Fr)(s t:TypeId)(x:Operand)(ho:o.op=.convert s t x):QSem P o fr (qOp P o fr):=by
 obtain⟨dst,op',ty,pos,after,guard⟩:=o
 simp only at ho;subst ho
 simp only[qOp]
 split
 case h_2=>trivial
 rename_i v hx
 by_cases hs:undOk P s=true
 case neg=>simp only[hs];trivial
 obtain⟨ds,hds⟩:=undOk_und hs
 simp only[hs,cond_true]
 unfold convQ
 split
 case h_2=>trivial
 rename_i k hk
 have hc:∀w k' n,(convert s t (.int k' n)).run P w=.ok (.int k (k.wrap n)) w:=by
  intro w k' n
  unfold convert
  simp only[Sem.run_bind,run_und w hds,run_und w hk,Result.andThen_ok]
  cases ds<;>simp[Conv.intToInt]
 split
 ·rename_i k' n
  have h:∀ρ w,Ag ⟨dst,.convert s t x,ty,pos,after,guard⟩ fr ρ->(execOp ρ ⟨dst,.convert s t x,ty,pos,after,guard⟩).run P w=.ok (.value (.int k (k.wrap n))) w:=by
   intro ρ w hA
   have h1:=ag1 hA (x:=x) (by simp[Op.operands]) hx
   simp only[execOp,h1,SV.den,Sem.run_bind,hc,Result.andThen_ok,Sem.run_pure]
  split
  ·intro hp ρ w hA;rw[h ρ w hA,wrap_i64 hp];rfl
  ·intro ρ w hA;rw[h ρ w hA,wrap_ofInt];rfl
  ·intro ρ w hA;rw[h ρ w hA];rfl
 ·rename_i n
  have h:∀ρ w,Ag ⟨dst,.convert s t x,ty,pos,after,guard⟩ fr ρ->(execOp ρ ⟨dst,.convert s t x,ty,pos,after,guard⟩).run P w=.ok (.value (.int k (k.wrap (n.toNat:Int)))) w:=by
   intro ρ w hA
   have h1:=ag1 hA (x:=x) (by simp[Op.operands]) hx
   simp only[execOp,h1,SV.den,Sem.run_bind,hc,Result.andThen_ok,Sem.run_pure]
  split
  ·intro hp ρ w hA;rw[h ρ w hA,wrap_i64 (by unfold I64;omega)];rfl
  ·intro ρ w hA;rw[h ρ w hA,u64_small];rfl
  ·intro ρ w hA;rw[h ρ w hA];rfl
 ·trivial
theorem qsem_makeFunc (o:Oper)(fr:Fr)(f:FuncId)(u v:Array Operand)(ho:o.op=.makeFunc (.func f) u v):QSem P o fr (qOp P o fr):=by
 obtain⟨dst,op',ty,pos,after,guard⟩:=o
 simp only at ho;subst ho
 simp only[qOp]
 split
 case h_2=>trivial
 rename_i x y hx hy
 intro ρ w hA
 have h1:=evs_den (ρ:=ρ) u.toList x (fun z hz s hs=>hA z (by simp only[Op.operands];exact Array.mem_append.2 (.inl (by simpa using hz))) s hs) hx
 have h2:=evs_den (ρ:=ρ) v.toList y (fun z hz s hs=>hA z (by simp only[Op.operands];exact Array.mem_append.2 (.inr (by simpa using hz))) s hs) hy
 have e1:u.map ρ=(denL x).toArray:=by rw[<-h1,<-List.map_toArray]
 have e2:v.map ρ=(denL y).toArray:=by rw[<-h2,<-List.map_toArray]
 simp only[execOp,Instr.makeFunc,e1,e2,Sem.run_bind,Sem.run_pure,Result.andThen_ok,SV.den]
theorem evIdx_some {fr:Fr}{x:Option Operand}{i:Int}(h:evIdx fr x=some (some i)):∃y s,x=some y/\ev fr y=some s/\idx s=some i:=by
 unfold evIdx at h
 split at h
 ·cases h
 ·rename_i y
  split at h
  ·rename_i s hs;simp only[Option.some.injEq] at h;exact⟨y,s,rfl,hs,h⟩
  ·cases h
theorem evIdx_none {fr:Fr}{x:Option Operand}(h:evIdx fr x=none):x=none:=by
 unfold evIdx at h
 split at h
 ·rfl
 ·split at h<;>cases h
theorem qsem_slice (o:Oper)(fr:Fr)(t:TypeId)(x:Operand)(lo hi mx:Option Operand)(ho:o.op=.slice t x lo hi mx):QSem P o fr (qOp P o fr):=by
 obtain⟨dst,op',ty,pos,after,guard⟩:=o
 simp only at ho;subst ho
 simp only[qOp]
 split
 case h_3=>trivial
 ·rename_i a l c e hx he
  split
  case h_2=>trivial
  rename_i s hs
  rcases elemOf_und he with ⟨_,h,_⟩|⟨_,hu⟩
  ·cases h
  have hb:∀(y:Operand) (sv:SV) (i:Int) (n:Nat) (code:BoundsCode) (ρ:Operand->Value) (w:World),ρ y=sv.den->idx sv=some i->0<=i/\i<=(n:Int)->
    (Instr.sliceBound (ρ y) n code).run P w=.ok i.toNat w:=by
   intro y sv i n code ρ w hy hi hr
   obtain⟨k,hk,_⟩:=idx_asInt (P:=P) w hi
   unfold Instr.sliceBound
   rw[hy,Sem.run_bind,hk]
   simp only[Result.andThen_ok,hr,and_self,if_true,Sem.run_pure]
  unfold sliceQ
  split
  ·rename_i h1 h2 h3
   rw[evIdx_none h1,evIdx_none h2,evIdx_none h3]
   intro ρ w hA
   have hx1:=ag1 hA (x:=x) (by simp[Op.operands]) hx
   simp only[execOp,hx1,SV.den,Instr.sliceAt,Instr.slice,Instr.sliceBounds,Option.map_none,Sem.run_bind,run_und w hu,Result.andThen_ok,Sem.run_pure,run_sizeOfT w hs]
   congr 3
   split
   ·rfl
   ·cases a<;>simp[Addr.add]
  ·rename_i h h1 h2 h3
   rw[evIdx_none h1,evIdx_none h3]
   obtain⟨y,sv,rfl,hy,hyi⟩:=evIdx_some h2
   intro hp ρ w hA
   have hx1:=ag1 hA (x:=x) (by simp[Op.operands]) hx
   have hy1:=ag1 hA (x:=y) (by simp[Op.operands]) hy
   simp only[execOp,hx1,SV.den,Instr.sliceAt,Instr.slice,Instr.sliceBounds,Option.map_none,Option.map_some,Sem.run_bind,run_und w hu,Result.andThen_ok,Sem.run_pure,run_sizeOfT w hs,
    hb y sv h c _ ρ w hy1 hyi hp]
   congr 3
   split
   ·rfl
   ·cases a<;>simp[Addr.add]
  ·rename_i l' h1 h2 h3
   rw[evIdx_none h2,evIdx_none h3]
   obtain⟨y,sv,rfl,hy,hyi⟩:=evIdx_some h1
   intro hp ρ w hA
   have hx1:=ag1 hA (x:=x) (by simp[Op.operands]) hx
   have hy1:=ag1 hA (x:=y) (by simp[Op.operands]) hy
   simp only[execOp,hx1,SV.den,Instr.sliceAt,Instr.slice,Instr.sliceBounds,Option.map_none,Option.map_some,Sem.run_bind,run_und w hu,Result.andThen_ok,Sem.run_pure,run_sizeOfT w hs,
    hb y sv l' l _ ρ w hy1 hyi hp,slA]
  ·rename_i l' h h1 h2 h3
   rw[evIdx_none h3]
   obtain⟨y,sv,rfl,hy,hyi⟩:=evIdx_some h1
   obtain⟨z,sw,rfl,hz,hzi⟩:=evIdx_some h2
   intro hp ρ w hA
   have hx1:=ag1 hA (x:=x) (by simp[Op.operands]) hx
   have hy1:=ag1 hA (x:=y) (by simp[Op.operands]) hy
   have hz1:=ag1 hA (x:=z) (by simp[Op.operands]) hz
   simp only[execOp,hx1,SV.den,Instr.sliceAt,Instr.slice,Instr.sliceBounds,Option.map_none,Option.map_some,Sem.run_bind,run_und w hu,Result.andThen_ok,Sem.run_pure,run_sizeOfT w hs,
    hb z sw h c _ ρ w hz1 hzi hp.1,hb y sv l' h.toNat _ ρ w hy1 hyi (by omega),slA]
  ·rename_i h m h1 h2 h3
   rw[evIdx_none h1]
   obtain⟨y,sv,rfl,hy,hyi⟩:=evIdx_some h2
   obtain⟨z,sw,rfl,hz,hzi⟩:=evIdx_some h3
   intro hp ρ w hA
   have hx1:=ag1 hA (x:=x) (by simp[Op.operands]) hx
   have hy1:=ag1 hA (x:=y) (by simp[Op.operands]) hy
   have hz1:=ag1 hA (x:=z) (by simp[Op.operands]) hz
   simp only[execOp,hx1,SV.den,Instr.sliceAt,Instr.slice,Instr.sliceBounds,Option.map_none,Option.map_some,Sem.run_bind,run_und w hu,Result.andThen_ok,Sem.run_pure,run_sizeOfT w hs,
    hb z sw m c _ ρ w hz1 hzi hp.1,hb y sv h m.toNat _ ρ w hy1 hyi (by omega)]
   congr 3
   split
   ·rfl
   ·cases a<;>simp[Addr.add]
  ·trivial
 ·rename_i b off n e hx he
  split
  case h_2=>trivial
  rename_i sz hs
  rcases elemOf_und he with ⟨_,h,hu⟩|⟨h,_⟩
  case inr=>cases h
  cases h
  intro ρ w hA
  have hx1:=ag1 hA (x:=x) (by simp[Op.operands]) hx
  simp only[execOp,hx1,SV.den,Instr.sliceAt,Instr.sureAddr,Instr.sliceBounds,Option.map_none,Sem.run_bind,run_und w hu,Result.andThen_ok,Sem.run_pure,run_sizeOfT w hs,Nat.zero_mul,Nat.sub_zero,addr_add,Nat.add_zero]
  congr 4
  split<;>rfl
end Go.VC
namespace Go.VC
variable {P:Program}
theorem lay_fold (off:Nat):∀(vs:List Value) (cs:List Value) (j:Nat),off+j+vs.length<=cs.length->
  (List.zipIdx vs j).foldl (fun (cs:Array Value) x=>cs.setIfInBounds (off+x.2) x.1) cs.toArray=(cs.take (off+j)++vs++cs.drop (off+j+vs.length)).toArray
 | [],cs,j,h=>by simp
 | v ::vs,cs,j,h=>by
  simp only[List.length_cons] at h
  simp only[List.zipIdx_cons,List.foldl_cons,List.setIfInBounds_toArray]
  rw[lay_fold off vs _ (j+1) (by simp;omega)]
  congr 1
  have hlt:off+j<cs.length:=by omega
  rw[List.set_eq_take_append_cons_drop,if_pos hlt]
  have h1:(cs.take (off+j)).length=off+j:=by simp;omega
  rw[show off+(j+1)=(cs.take (off+j)).length+1 from by omega,List.take_length_add_append]
  rw[show (cs.take (off+j)).length+1+vs.length=(cs.take (off+j)).length+(1+vs.length) from by omega,List.drop_length_add_append]
  simp only[List.take_succ_cons,List.take_zero,List.length_cons]
  rw[show 1+vs.length=vs.length+1 from by omega,List.drop_succ_cons,List.drop_drop]
  simp only[List.append_assoc,List.cons_append,List.nil_append]
  rw[show off+j+(vs.length+1)=off+j+1+vs.length from by omega]
theorem lay_part (off:Nat)(vs cs:List Value)(h:off+vs.length<=cs.length) :
  (vs.toArray.zipIdx.foldl (fun (cs:Array Value) x=>cs.setIfInBounds (off+x.2) x.1) cs.toArray)=(cs.take off++vs++cs.drop (off+vs.length)).toArray:=by
 rw[<-Array.foldl_toList,Array.toList_zipIdx]
 exact lay_fold off vs cs 0 (by omega)
theorem cells_one {v:Value}(h:One v):v.cells=[v].toArray:=by
 cases v<;>first|exact h.elim|rfl
theorem fill_splices {fr:Fr}{ρ:Operand->Value}(place pm:Nat->Option (Nat × Nat))(hM:∀i os,place i=some os->pm i=some os):∀(parts:List (Nat × Operand)) (cs:List Value) (p:Option Prop) (cs':List Value),
  (∀x∈parts,∀s,ev fr x.2=some s->ρ x.2=s.den)->(∀i off size,place i=some (off,size)->off+size<=cs.length)->
  splices place fr parts cs=some (p,cs')->(∀q,p=some q->q)->
  Instr.fill pm cs.toArray (parts.map fun x=>(x.1,ρ x.2))=some cs'.toArray
 | [],cs,p,cs',_,_,h,_=>by simp only[splices,Option.some.injEq,Prod.mk.injEq] at h;obtain⟨_,rfl⟩:=h;rfl
 | (i,x) ::r,cs,p,cs',hA,hP,h,hp=>by
  simp only[splices] at h
  have hA':∀y∈r,∀s,ev fr y.2=some s->ρ y.2=s.den:=fun y hy=>hA y (by simp[hy])
  cases hpl:place i with
  | none=>simp[hpl] at h
  | some os=>
   obtain⟨off,size⟩:=os
   have hle:=hP i off size hpl
   have step:∀(vs:List Value),(ρ x).cells=vs.toArray->vs.length=size->
     (Instr.fill pm (cs.take off++vs++cs.drop (off+size)).toArray (r.map fun x=>(x.1,ρ x.2))=some cs'.toArray)->
     Instr.fill pm cs.toArray (((i,x) ::r).map fun x=>(x.1,ρ x.2))=some cs'.toArray:=by
    intro vs hv hl hk
    subst hl
    simp only[List.map_cons,Instr.fill,hM i _ hpl,hv,List.size_toArray,ne_eq,not_true_eq_false]
    rw[if_neg (by simp;omega)]
    rw[lay_part off vs cs hle]
    exact hk
   have hP1:∀(vs:List Value),vs.length=size->∀j o s,place j=some (o,s)->o+s<=(cs.take off++vs++cs.drop (off+size)).length:=by
    intro vs hl j o s hj
    have:=hP j o s hj
    simp;omega
   cases hx:ev fr x with
   | none=>simp[hpl,hx] at h
   | some v=>
    have hρ:=hA (i,x) (by simp) v hx
    simp only at hρ
    have one:∀(q:Option Prop),One v.den->Nat.beq size 1=true->
      (match splices place fr r (cs.set off v.den) with|some (p,cs')=>some (joinP q p,cs')|none=>none)=some (p,cs')->
      Instr.fill pm cs.toArray (((i,x) ::r).map fun x=>(x.1,ρ x.2))=some cs'.toArray:=by
     intro q ho hs h
     have hs:=Nat.eq_of_beq_eq_true hs
     subst hs
     have hset:cs.set off v.den=cs.take off++[v.den]++cs.drop (off+1):=by
      rw[List.set_eq_take_append_cons_drop,if_pos (by omega)];simp
     rw[hset] at h
     split at h
     ·rename_i p1 cs1 h1
      simp only[Option.some.injEq,Prod.mk.injEq] at h
      obtain⟨hq,rfl⟩:=h
      refine step [v.den] (by rw[hρ];exact cells_one ho) rfl ?_
      refine fill_splices place pm hM r _ p1 cs1 hA' (hP1 [v.den] rfl) h1 ?_
      rintro q1 rfl
      subst hq
      cases q with
      | none=>exact hp q1 rfl
      | some q0=>exact (hp _ rfl).2
     ·cases h
    simp only[hpl,hx] at h
    cases v
    case op v=>
     simp only at h
     cases hb:Nat.beq size 1 with
     | false=>rw[hb] at h;cases h
     | true=>
      rw[hb] at h
      simp only[cond_true] at h
      refine one (some (One v)) ?_ hb h
      split at h
      ·rename_i p1 cs1 h1
       simp only[Option.some.injEq,Prod.mk.injEq] at h
       cases p1 with
       | none=>exact hp _ h.1.symm
       | some q=>exact (hp _ h.1.symm).1
      ·cases h
    case agg vs=>
     simp only[splice] at h
     split at h
     ·rename_i p1 cs1 h1
      simp only[Option.some.injEq,Prod.mk.injEq] at h
      obtain⟨hq,rfl⟩:=h
      have hl:vs.length=size:=by
       cases p1 with
       | none=>exact hp _ hq.symm
       | some q=>exact (hp _ hq.symm).1
      refine step vs (by rw[hρ];rfl) hl ?_
      refine fill_splices place pm hM r _ p1 cs1 hA' (hP1 vs hl) h1 ?_
      rintro q1 rfl
      exact (hp _ hq.symm).2
     ·cases h
    case tup l=>simp[splice] at h
    case undef=>simp[splice] at h
    all_goals
     simp only[splice] at h
     cases hb:Nat.beq size 1 with
     | false=>rw[hb] at h;cases h
     | true=>
      rw[hb] at h
      simp only[cond_true] at h
      exact one none (by simp[SV.den,One]) hb h
theorem zeroOf_info {t:TypeId}{z:Value}(h:zeroOf P t=some z):∃i,P.info? t=some i/\i.zero=some z:=by
 unfold zeroOf at h;split at h
 ·rename_i i hi;exact⟨i,hi,h⟩
 ·cases h
theorem run_zero {t:TypeId}{z:Value}(w:World)(h:zeroOf P t=some z):(zeroValue t).run P w=.ok z w:=by
 obtain⟨i,hi,hz⟩:=zeroOf_info h
 simp[zeroValue,typeInfo,hi,hz]
theorem mkObl_sem {o:Oper}{fr:Fr}{p:Option Prop}{v:SV}(h:(∀q,p=some q->q)->∀ρ w,Ag o fr ρ->(execOp ρ o).run P w=.ok (.value v.den) w):QSem P o fr (mkObl p v):=by
 cases p with
 | none=>exact fun ρ w hA=>h (by simp) ρ w hA
 | some q=>exact fun hq ρ w hA=>h (by rintro _ ⟨⟩;exact hq) ρ w hA
theorem mapM_places (w:World)(f:Field->Sem (Nat × Nat)):∀(l:List Field),(∀x∈l,∃s,(f x).run P w=.ok s w)->
  ∃r:List (Nat × Nat),(l.mapM f).run P w=.ok r w/\∀(i:Nat) (x:Field),l[i]?=some x->∃s,r[i]?=some s/\(f x).run P w=.ok s w
 | [],_=>⟨[],by simp,by simp⟩
 | x ::l,h=>by
  obtain⟨s,hs⟩:=h x (by simp)
  obtain⟨r,hr,hg⟩:=mapM_places w f l (fun y hy=>h y (by simp[hy]))
  refine⟨s ::r,by simp[List.mapM_cons,hs,hr],?_⟩
  intro i y hi
  cases i with
  | zero=>simp at hi;subst hi;exact⟨s,by simp,hs⟩
  | succ i=>simpa using hg i y (by simpa using hi)
theorem qsem_build (o:Oper)(fr:Fr)(t:TypeId)(parts:Array (Nat × Operand))(ho:o.op=.build t parts):QSem P o fr (qOp P o fr):=by
 obtain⟨dst,op',ty,pos,after,guard⟩:=o
 simp only at ho;subst ho
 simp only[qOp]
 unfold buildQ
 split
 ·trivial
 rename_i z hz
 have hA':∀ρ,Ag ⟨dst,.build t parts,ty,pos,after,guard⟩ fr ρ->∀x∈parts.toList,∀s,ev fr x.2=some s->ρ x.2=s.den:=by
  intro ρ hA x hx s hs
  exact hA x.2 (by simp only[Op.operands];simpa using ⟨x.1,by simpa using hx⟩) s hs
 have hmap:∀ρ:Operand->Value,(parts.map fun (i,x)=>(i,ρ x)).toList=parts.toList.map fun x=>(x.1,ρ x.2):=by
  intro ρ;simp
 split
 ·rename_i fs hf
  obtain⟨a,hu,rfl⟩:=fieldsOf_und hf
  cases hok:a.toList.all (fun f=>match sizeOfT P f.type with|some _=>true|none=>false) with
  | false=>trivial
  | true=>
  simp only[cond_true]
  split
  case h_2=>trivial
  rename_i p cs hsp
  refine mkObl_sem fun hp ρ w hA=>?_
  obtain⟨r,hr,hg⟩:=mapM_places (P:=P) w (fun f=>do pure (f.offset,<-sizeOf f.type)) a.toList (fun x hx=>by
   have:=List.all_eq_true.1 hok x hx
   cases hs:sizeOfT P x.type with
   | none=>simp[hs] at this
   | some n=>exact⟨(x.offset,n),by simp[run_sizeOfT w hs]⟩)
  have hfill:=fill_splices (ρ:=ρ) _ (fun i=>r[i]?) (fun i os hi=>by
   split at hi
   ·rename_i f hfi
    obtain⟨s,h1,h2⟩:=hg i f hfi
    split at hi
    ·rename_i n hn
     cases hle:Nat.ble (f.offset+n) (zcells z).length with
     | false=>rw[hle] at hi;cases hi
     | true=>
      rw[hle] at hi
      simp only[cond_true,Option.some.injEq] at hi
      subst hi
      rw[h1]
      simp[run_sizeOfT w hn] at h2
      rw[h2]
    ·cases hi
   ·cases hi) parts.toList (zcells z) p cs (hA' ρ hA) (fun i off size hi=>by
   split at hi
   ·rename_i f hfi
    split at hi
    ·rename_i n hn
     cases hle:Nat.ble (f.offset+n) (zcells z).length with
     | false=>rw[hle] at hi;cases hi
     | true=>
      rw[hle] at hi
      simp only[cond_true,Option.some.injEq,Prod.mk.injEq] at hi
      obtain⟨rfl,rfl⟩:=hi
      exact Nat.le_of_ble_eq_true hle
    ·cases hi
   ·cases hi) hsp hp
  have hzc:(Value.cells z)=(zcells z).toArray:=by cases z<;>simp[Value.cells,zcells]
  have hmm:(a.mapM fun f=>(do pure (f.offset,<-sizeOf f.type):Sem (Nat × Nat))).run P w=.ok r.toArray w:=by
   rw[Array.mapM_eq_mapM_toList]
   simp only[Sem.run_map,hr,Result.andThen_ok]
  simp only[execOp,Instr.build,Sem.run_bind,run_zero w hz,Result.andThen_ok,run_und w hu,hmm,hzc,hmap,List.getElem?_toArray,hfill,Sem.run_pure,SV.den]
 ·split
  case h_2=>trivial
  rename_i n e he
  split
  case h_2=>trivial
  rename_i s hs
  rcases elemOf_und he with ⟨_,_,hu⟩|⟨h,_⟩
  case inr=>cases h
  split
  case h_2=>trivial
  rename_i p cs hsp
  refine mkObl_sem fun hp ρ w hA=>?_
  have hfill:=fill_splices (ρ:=ρ) _ (fun i=>some (i*s,s)) (fun i os hi=>by
   cases hle:Nat.ble (i*s+s) (zcells z).length with
   | false=>rw[hle] at hi;cases hi
   | true=>rw[hle] at hi;exact hi) parts.toList (zcells z) p cs (hA' ρ hA) (fun i off size hi=>by
   cases hle:Nat.ble (i*s+s) (zcells z).length with
   | false=>rw[hle] at hi;cases hi
   | true=>
    rw[hle] at hi
    simp only[cond_true,Option.some.injEq,Prod.mk.injEq] at hi
    obtain⟨rfl,rfl⟩:=hi
    exact Nat.le_of_ble_eq_true hle) hsp hp
  have hzc:(Value.cells z)=(zcells z).toArray:=by cases z<;>simp[Value.cells,zcells]
  simp only[execOp,Instr.build,Sem.run_bind,run_zero w hz,Result.andThen_ok,run_und w hu,run_sizeOfT w hs,hzc,hmap,hfill,Sem.run_pure,SV.den]
theorem run_call_builtin {dst:Option Tmp}{c:Call}{ty:TypeId}{pos:String}{after:Array Edge}{guard:Option (Nat × Bool)}{b:Builtin}(hc:c.callee=.builtin b)(ρ:Operand->Value)(w:World) :
  (execOp ρ ⟨dst,.call c,ty,pos,after,guard⟩).run P w=(builtin b c.argTypes ty (c.args.map fun | .const _=>true|_=>false) (c.args.map ρ)).run P w:=by
 simp only[execOp,resolve,hc,Sem.run_bind,Sem.run_pure,Result.andThen_ok,invoke]
 rfl
theorem map_toList_eq {ρ:Operand->Value}{a:Array Operand}{l:List Value}(h:a.toList.map ρ=l):a.map ρ=l.toArray:=by
 rw[<-h,<-List.map_toArray]
theorem max2_int {k:IntKind}{a b:Int}(w:World):(Builtin.max2 (.int k a) (.int k b)).run P w=.ok (.int k (maxI true a b)) w:=by
 simp only[Builtin.max2,Sem.run_pure,maxI,cond_true]
 congr 2
 rw[Int.max_def];split<;>split<;>omega
theorem min2_int {k:IntKind}{a b:Int}(w:World):(Builtin.min2 (.int k a) (.int k b)).run P w=.ok (.int k (maxI false a b)) w:=by
 simp only[Builtin.min2,Sem.run_pure,maxI,cond_false]
 congr 2
 rw[Int.min_def];split<;>split<;>omega
theorem max2_u64 {a b:UInt64}(w:World):(Builtin.max2 (.int .u64 (a.toNat:Int)) (.int .u64 (b.toNat:Int))).run P w=.ok (.int .u64 ((maxU true a b).toNat:Int)) w:=by
 simp only[Builtin.max2,Sem.run_pure,maxU,cond_true]
 by_cases h:a<b
 ·have:(b.toNat:Int) > a.toNat:=by have:=UInt64.lt_iff_toNat_lt.1 h;omega
  simp[h,this]
 ·have:¬(b.toNat:Int) > a.toNat:=by have:=mt UInt64.lt_iff_toNat_lt.2 h;omega
  simp only[h,this,if_false]
theorem min2_u64 {a b:UInt64}(w:World):(Builtin.min2 (.int .u64 (a.toNat:Int)) (.int .u64 (b.toNat:Int))).run P w=.ok (.int .u64 ((maxU false a b).toNat:Int)) w:=by
 simp only[Builtin.min2,Sem.run_pure,maxU,cond_false]
 by_cases h:b<a
 ·have:(b.toNat:Int)<a.toNat:=by have:=UInt64.lt_iff_toNat_lt.1 h;omega
  simp[h,this]
 ·have:¬(b.toNat:Int)<a.toNat:=by have:=mt UInt64.lt_iff_toNat_lt.2 h;omega
  simp only[h,this,if_false]
theorem maxQ_sem {o:Oper}{fr:Fr}{isMax:Bool}{l:List SV}
  (key:∀ρ w,Ag o fr ρ->∀x rest,denL l=x ::rest->(execOp ρ o).run P w=((rest.foldlM (if isMax then Builtin.max2 else Builtin.min2) x:Sem Value).run P w).andThen fun v w=>.ok (.value v) w):QSem P o fr (maxQ isMax l):=by
 have hI:∀k a b w,((if isMax then Builtin.max2 else Builtin.min2) (.int k a) (.int k b)).run P w=.ok (.int k (maxI isMax a b)) w:=by
  intro k a b w;cases isMax
  ·exact min2_int w
  ·exact max2_int w
 have hU:∀(a b:UInt64) w,((if isMax then Builtin.max2 else Builtin.min2) (.int .u64 (a.toNat:Int)) (.int .u64 (b.toNat:Int))).run P w=.ok (.int .u64 ((maxU isMax a b).toNat:Int)) w:=by
  intro a b w;cases isMax
  ·exact min2_u64 w
  ·exact max2_u64 w
 unfold maxQ
 split
 ·rename_i k a k' b
  cases hk:(kindEq k k' && !kindEq k .u64) with
  | false=>trivial
  | true=>
   simp only[Bool.and_eq_true] at hk
   have:=kindEq_eq hk.1;subst this
   intro ρ w hA
   rw[key ρ w hA _ _ rfl]
   simp only[denL,SV.den,List.foldlM_cons,List.foldlM_nil,Sem.run_bind,hI,Result.andThen_ok,Sem.run_pure]
 ·rename_i k a k' b k'' c
  cases hk:(kindEq k k' && kindEq k k'' && !kindEq k .u64) with
  | false=>trivial
  | true=>
   simp only[Bool.and_eq_true] at hk
   have:=kindEq_eq hk.1.1;subst this
   have:=kindEq_eq hk.1.2;subst this
   intro ρ w hA
   rw[key ρ w hA _ _ rfl]
   simp only[denL,SV.den,List.foldlM_cons,List.foldlM_nil,Sem.run_bind,hI,Result.andThen_ok,Sem.run_pure]
 ·intro ρ w hA
  rw[key ρ w hA _ _ rfl]
  simp only[denL,SV.den,List.foldlM_cons,List.foldlM_nil,Sem.run_bind,hU,Result.andThen_ok,Sem.run_pure]
 ·trivial
theorem qsem_call (o:Oper)(fr:Fr)(c:Call)(ho:o.op=.call c):QSem P o fr (qOp P o fr):=by
 obtain⟨dst,op',ty,pos,after,guard⟩:=o
 simp only at ho;subst ho
 simp only[qOp]
 have hops:∀ρ,Ag ⟨dst,.call c,ty,pos,after,guard⟩ fr ρ->∀x∈c.args.toList,∀s,ev fr x=some s->ρ x=s.den:=by
  intro ρ hA x hx s hs
  exact hA x (by simp only[Op.operands,Call.operands];exact Array.mem_append.2 (.inr (by simpa using hx))) s hs
 split
 ·rename_i hc
  split
  case h_2=>trivial
  rename_i t x ht hx
  split
  case h_2=>trivial
  rename_i a l m e hv he
  intro ρ w hA
  rcases elemOf_und he with ⟨_,h,_⟩|⟨_,hu⟩
  ·cases h
  have h1:=hops ρ hA x (by rw[hx];simp) _ hv
  have h2:c.args.map ρ=#[ρ x]:=by rw[map_toList_eq (l:=[ρ x]) (by rw[hx];rfl)]
  have h3:c.argTypes=#[t]:=by rw[<-Array.toArray_toList (xs:=c.argTypes),ht]
  rw[run_call_builtin hc,h2,h3,h1]
  simp only[builtin,Builtin.len_,SV.den,goInt,List.getElem?_toArray,List.getElem?_cons_zero,Sem.run_bind,run_und w hu,Result.andThen_ok,Sem.run_pure]
 ·rename_i hc
  split
  case h_2=>trivial
  rename_i t x ht hx
  split
  case h_2=>trivial
  rename_i a l m e hv he
  intro ρ w hA
  rcases elemOf_und he with ⟨_,h,_⟩|⟨_,hu⟩
  ·cases h
  have h1:=hops ρ hA x (by rw[hx];simp) _ hv
  have h2:c.args.map ρ=#[ρ x]:=by rw[map_toList_eq (l:=[ρ x]) (by rw[hx];rfl)]
  have h3:c.argTypes=#[t]:=by rw[<-Array.toArray_toList (xs:=c.argTypes),ht]
  rw[run_call_builtin hc,h2,h3,h1]
  simp only[builtin,Builtin.cap_,SV.den,goInt,List.getElem?_toArray,List.getElem?_cons_zero,Sem.run_bind,run_und w hu,Result.andThen_ok,Sem.run_pure]
 ·rename_i hc
  split
  case h_2=>trivial
  rename_i l hl
  refine maxQ_sem fun ρ w hA x rest hd=>?_
  have h2:=map_toList_eq (evs_den (ρ:=ρ) _ _ (hops ρ hA) hl)
  rw[run_call_builtin hc,h2]
  simp only[builtin,Builtin.max_,if_true,Sem.run_bind,hd]
  rfl
 ·rename_i hc
  split
  case h_2=>trivial
  rename_i l hl
  refine maxQ_sem fun ρ w hA x rest hd=>?_
  have h2:=map_toList_eq (evs_den (ρ:=ρ) _ _ (hops ρ hA) hl)
  rw[run_call_builtin hc,h2]
  simp only[builtin,Builtin.min_,Bool.false_eq_true,if_false,Sem.run_bind,hd]
  rfl
 ·trivial
theorem qOp_qsem (o:Oper)(fr:Fr):QSem P o fr (qOp P o fr):=by
 cases h:o.op
 case move x=>exact qsem_move o fr x (.inl h)
 case assign x=>exact qsem_move o fr x (.inr h)
 case pick c x y=>exact qsem_pick o fr c x y h
 case load t x=>exact qsem_load o fr t x h
 case nilCheck x=>exact qsem_nilCheck o fr x h
 case fieldAddr t x f=>exact qsem_fieldAddr o fr t x f h
 case field t x f=>exact qsem_field o fr t x f h
 case indexAddr t x y=>exact qsem_indexAddr o fr t x y h
 case index t x y=>exact qsem_index o fr t x y h
 case extract x i=>exact qsem_extract o fr x i h
 case binOp op t x y yt=>exact qsem_binOp o fr op t yt x y h
 case unOp op t x=>exact qsem_unOp o fr op t x h
 case convert s t x=>exact qsem_convert o fr s t x h
 case makeFunc f u v=>
  cases f
  case func f=>exact qsem_makeFunc o fr f u v h
  all_goals
   simp only[qOp,h];trivial
 case build t ps=>exact qsem_build o fr t ps h
 case slice t x lo hi mx=>exact qsem_slice o fr t x lo hi mx h
 case call c=>exact qsem_call o fr c h
 all_goals
  simp only[qOp,h];trivial
theorem quiet_sound {o:Oper}{fr:Fr}{H:Heap}{K:SV->Prop}(h:stepQ P (qOp P o fr) H K) :
  ∃v,K v/\EntOk (qOp P o fr) v H/\Quiet P o fr (qOp P o fr) v:=quiet_of_qsem (qOp_qsem o fr) h
end Go.VC
namespace Go.VC
theorem wr_size (H:Heap)(b o:Nat)(v:Value):(wr H b o v).size=H.size:=by simp[wr]
theorem wr_get (H:Heap)(b o:Nat)(v:Value)(k:Nat):(wr H b o v)[k]?=if k=b then (H[k]?).map (updCell o v) else H[k]?:=by
 unfold wr
 rw[Array.getElem?_modify]
 by_cases h:k=b
 ·subst h;simp
 ·have:¬b=k:=fun e=>h e.symm
  simp[h,this]
theorem wr_other {H:Heap}{b o:Nat}{v:Value}{k:Nat}(h:k≠b):(wr H b o v)[k]?=H[k]?:=by rw[wr_get,if_neg h]
theorem rd_wr (H:Heap)(b o:Nat)(v:Value)(b' o':Nat) :
  rd (wr H b o v) b' o'=if b'=b/\o'=o then (rd H b o).map (fun _=>v) else rd H b' o':=by
 unfold rd
 rw[wr_get]
 by_cases h:b'=b
 ·subst h
  simp only[if_true,true_and]
  cases hx:H[b']? with
  | none=>simp
  | some x=>
   cases x<;>simp[updCell]
   rename_i c e f
   by_cases ho:o'=o
   ·subst ho
    simp only[if_true]
    rcases Nat.lt_or_ge o' c.size with hl|hl
    ·simp[hl]
    ·simp[hl]
   ·rw[if_neg ho,Array.getElem?_setIfInBounds_ne (fun e=>ho e.symm)]
 ·simp[h]
theorem fz_wr (H:Heap)(b o:Nat)(v:Value)(b' o':Nat):fz (wr H b o v) b' o'=fz H b' o':=by
 unfold fz
 rw[wr_get]
 by_cases h:b'=b
 ·subst h
  cases hx:H[b']? with
  | none=>simp
  | some x=>cases x<;>simp[updCell]
 ·simp[h]
theorem rd_wr_same {H:Heap}{b o:Nat}{v:Value}(h:(rd H b o).isSome=true):rd (wr H b o v) b o=some v:=by
 rw[rd_wr,if_pos ⟨rfl,rfl⟩]
 cases hx:rd H b o with
 | none=>simp[hx] at h
 | some x=>rfl
theorem rd_wr_ne {H:Heap}{b o:Nat}{v:Value}{b' o':Nat}(h:¬(b'=b/\o'=o)):rd (wr H b o v) b' o'=rd H b' o':=by rw[rd_wr,if_neg h]
theorem rd_lt {H:Heap}{b o:Nat}{v:Value}(h:rd H b o=some v):b<H.size:=by
 unfold rd at h
 rcases Nat.lt_or_ge b H.size with hl|hl
 ·exact hl
 ·simp[Array.getElem?_eq_none hl] at h
theorem rd_new {H:Heap}{cs:List Value}{t:TypeId}{o:Nat}:rd (H.push (.cells cs.toArray t)) H.size o=cs[o]?:=by
 unfold rd;simp
theorem fz_new {H:Heap}{cs:List Value}{t:TypeId}{o:Nat}:fz (H.push (.cells cs.toArray t)) H.size o=false:=by
 unfold fz;simp
theorem frozen_fz (w:World)(b o:Nat):w.frozen? ⟨b,o,none⟩=fz w.heap b o:=by
 simp only[World.frozen?,fz]
 rfl
theorem setCell_heap (w:World)(b o:Nat)(v:Value):w.setCell ⟨b,o,none⟩ v={ w with heap:=wr w.heap b o v }:=by
 unfold World.setCell wr
 congr 1
def Same (w w':World):Prop:=w'.tape=w.tape/\w'.os=w.os/\w'.output=w.output
theorem Same.refl (w:World):Same w w:=⟨rfl,rfl,rfl⟩
theorem Same.trans {a b c:World}(h:Same a b)(k:Same b c):Same a c:=⟨k.1.trans h.1,k.2.1.trans h.2.1,k.2.2.trans h.2.2⟩
variable {P:Program}
theorem one_store {w:World}{b o:Nat}{v:Value}(ho:One v)(h:(rd w.heap b o).isSome=true)(hf:fz w.heap b o=false) :
  (store ⟨b,o,none⟩ v).run P w=.ok () { w with heap:=wr w.heap b o v }:=by
 have hv:v.oneCell'=true:=by cases v<;>first|exact ho.elim|rfl
 rw[run_store P w _ _ _ hv]
 rw[cell_rd,frozen_fz,hf]
 cases hx:rd w.heap b o with
 | none=>simp[hx] at h
 | some x=>simp[setCell_heap]
theorem run_storeCells:∀(vs:List Value) (w:World) (b o i:Nat),(∀v∈vs,One v)->WOk w.heap b (o+i) vs.length->
  (storeCells ⟨b,o,none⟩ vs i).run P w=.ok () { w with heap:=wrL w.heap b (o+i) vs }
 | [],w,b,o,i,_,_=>by simp[storeCells,wrL]
 | v ::vs,w,b,o,i,ho,h=>by
  have h0:=h 0 (by simp)
  simp only[storeCells,Sem.run_bind,addr_add]
  rw[one_store (ho v (by simp)) (by simpa using h0.1) (by simpa using h0.2)]
  simp only[Result.andThen_ok]
  rw[run_storeCells vs _ b o (i+1) (fun u hu=>ho u (by simp[hu])) (fun j hj=>?_)]
  ·simp only[wrL,Nat.add_assoc]
  ·have:=h (j+1) (by simpa using hj)
   rw[show o+(i+1)+j=o+i+(j+1) from by omega]
   simp only[fz_wr]
   refine⟨?_,this.2⟩
   rw[rd_wr_ne (by omega)]
   exact this.1
end Go.VC
namespace Go.VC
variable {P:Program}
theorem eff_value {o:Oper}{a:Act}{w w':World}{v:Value}{next:Act->World->Prop}{Q:Exit->Act->World->Prop}
  (h:(execOp a.eval o).run P w=.ok (.value v) w') (hn:next (a.put o.dst v) w'):o.wp P a w next Q:=by
 unfold Oper.wp;rw[h];exact hn
theorem idx_den {s:SV}{i:Int}(h:idx s=some i):∃k,s.den=.int k i:=by
 cases s<;>simp only[idx] at h<;>cases h<;>exact⟨_,rfl⟩
theorem rep_range (z:List Value):∀n,(Array.range (n*z.length)).map (fun i=>z.toArray[i % z.toArray.size]!)=(rep n z).toArray:=by
 have key:∀n,(List.range (n*z.length)).map (fun i=>z.toArray[i % z.length]!)=rep n z:=by
  intro n
  induction n with
  | zero=>simp[rep]
  | succ n ih=>
   rw[Nat.succ_mul,Nat.add_comm,List.range_add,List.map_append,List.map_map]
   have h1:(List.range z.length).map (fun i=>z.toArray[i % z.length]!)=z:=by
    apply List.ext_getElem?
    intro i
    rcases Nat.lt_or_ge i z.length with h|h
    ·simp[h,Nat.mod_eq_of_lt h]
    ·simp[h]
   have h2:((fun i=>z.toArray[i % z.length]!) ∘ fun x=>z.length+x)=fun i=>z.toArray[i % z.length]!:=by
    funext i;simp
   rw[h1,h2,ih]
   unfold rep
   rw[List.replicate_succ,List.flatten_cons]
 intro n
 rw[<-key n]
 apply Array.ext'
 simp
theorem rep_length (n:Nat)(z:List Value):(rep n z).length=n*z.length:=by simp[rep]
theorem zeroFits_spec {e:TypeId}{s:Nat}(h:zeroFits P e s=true):∃z,zeroOf P e=some z/\(zcells z).length=s/\sizeOfT P e=some s/\∀v∈zcells z,One v:=by
 unfold zeroFits at h
 split at h
 ·rename_i z n hz hn
  simp only[Bool.and_eq_true,List.all_eq_true] at h
  obtain⟨⟨h1,h2⟩,h3⟩:=h
  have h1:=Nat.eq_of_beq_eq_true h1
  have h2:=Nat.eq_of_beq_eq_true h2
  subst h2
  refine⟨z,hz,h1,hn,fun v hv=>?_⟩
  have:=h3 v hv
  cases v<;>simp_all [One]
 ·cases h
theorem zc (z:Value):z.cells=(zcells z).toArray:=by cases z<;>simp[Value.cells,zcells]
theorem oneP_spec {v:SV}{p:Prop}(h:v.oneP p):One v.den/\v.cells=[v.den]/\p:=by
 cases v<;>first|exact h.elim|exact⟨h.1,rfl,h.2⟩|exact⟨trivial,rfl,h⟩
theorem run_newVar {t:TypeId}{v:Value}{cs:List Value}(w:World)(h:v.cells=cs.toArray) :
  (newVar t v).run P w=.ok ⟨w.heap.size,0,none⟩ { w with heap:=w.heap.push (.cells cs.toArray t) }:=by
 simp[newVar,newRow,h]
section
variable {o:Oper}{fr:Fr}{a:Act}{w:World}{K:SV->Heap->Prop}{next:Act->World->Prop}{Q:Exit->Act->World->Prop}
def Cnt (o:Oper)(a:Act)(w:World)(K:SV->Heap->Prop)(next:Act->World->Prop):Prop:=
 ∀v H' w',K v H'->w'.heap=H'->Same w w'->next (a.put o.dst v.den) w'
theorem eff_alloc (t:TypeId)(ho:o.op=.alloc t)(hk:Cnt o a w K next)(h:stepE P o fr w.heap K):o.wp P a w next Q:=by
 unfold stepE at h
 rw[ho] at h
 simp only at h
 split at h
 ·rename_i z hz
  refine eff_value (w':={ w with heap:=w.heap.push (.cells (zcells z).toArray t) }) (v:=.pointer (some ⟨w.heap.size,0,none⟩)) ?_
   (hk (.ptr w.heap.size 0) _ _ (h _ _ ⟨rfl,rfl⟩) rfl ⟨rfl,rfl,rfl⟩)
  simp only[execOp,ho,Instr.alloc,Sem.run_bind,run_zero w hz,Result.andThen_ok,run_newVar w (zc z),Sem.run_pure]
 ·exact h.elim
theorem eff_box (t:TypeId)(x:Operand)(ho:o.op=.box t x)(hA:Ag o fr a.eval)(hk:Cnt o a w K next)(h:stepE P o fr w.heap K):o.wp P a w next Q:=by
 unfold stepE at h
 rw[ho] at h
 simp only at h
 have hx':x∈o.op.operands:=by rw[ho];simp[Op.operands]
 have key:∀(v:SV) (cs:List Value),ev fr x=some v->v.den.cells=cs.toArray->(∀H' p,New w.heap cs t H' p->K (.ptr p 0) H')->o.wp P a w next Q:=by
  intro v cs hx hc h
  refine eff_value (w':={ w with heap:=w.heap.push (.cells cs.toArray t) }) (v:=.pointer (some ⟨w.heap.size,0,none⟩)) ?_
   (hk (.ptr w.heap.size 0) _ _ (h _ _ ⟨rfl,rfl⟩) rfl ⟨rfl,rfl,rfl⟩)
  have:=ag1 hA hx' hx
  simp only[execOp,ho,Instr.box,this,Sem.run_bind,Result.andThen_ok,run_newVar w hc,Sem.run_pure]
 split at h
 ·rename_i cs hx
  exact key _ cs hx rfl h
 ·rename_i v hne hx
  obtain⟨h1,_,h2⟩:=oneP_spec h
  exact key v [v.den] hx (cells_one h1) h2
 ·exact h.elim
theorem eff_store (t:TypeId)(x y:Operand)(ho:o.op=.store t x y)(hA:Ag o fr a.eval)(hk:Cnt o a w K next)(h:stepE P o fr w.heap K):o.wp P a w next Q:=by
 unfold stepE at h
 rw[ho] at h
 simp only at h
 have hx':x∈o.op.operands:=by rw[ho];simp[Op.operands]
 have hy':y∈o.op.operands:=by rw[ho];simp[Op.operands]
 have key:∀(v:SV) (cs:List Value) (b off n:Nat),ev fr x=some (.ptr b off)->ev fr y=some v->sizeOfT P t=some n->v.den.cells=cs.toArray->cs.length=n->(∀v∈cs,One v)->WOk w.heap b off n->
   K .undef (wrL w.heap b off cs)->o.wp P a w next Q:=by
  intro v cs b off n hx hy hs hc hl h1 hw hK
  have e1:=ag1 hA hx' hx
  have e2:=ag1 hA hy' hy
  have hr:=run_storeCells (P:=P) cs w b off 0 h1 (by simpa [hl] using hw)
  have hrun:(execOp a.eval o).run P w=.ok .skip { w with heap:=wrL w.heap b off cs }:=by
   simp only[execOp,ho,Instr.storeAt,e1,e2,SV.den,Instr.sureAddr,Sem.run_bind,Sem.run_pure,Result.andThen_ok,storeVar,run_sizeOfT w hs]
   rw[hc]
   simp only[List.size_toArray,hl,ne_eq,not_true_eq_false,if_false,hr,Nat.add_zero,Result.andThen_ok]
  unfold Oper.wp
  rw[hrun]
  exact hk .undef _ _ hK rfl ⟨rfl,rfl,rfl⟩
 split at h
 ·rename_i b off cs n hx hy hs
  obtain⟨h1,h2,h3,h4⟩:=h
  exact key _ cs b off n hx hy hs rfl h1 h2 h3 (h4 _ rfl)
 ·rename_i b off v n hne hx hy hs
  cases hb:Nat.beq n 1 with
  | false=>rw[hb] at h;exact h.elim
  | true=>
   rw[hb] at h
   have hn:=Nat.eq_of_beq_eq_true hb
   subst hn
   obtain⟨h1,_,h3,h4⟩:=oneP_spec h
   exact key v [v.den] b off 1 hx hy hs (cells_one h1) rfl (by simpa using h1) h3 (h4 _ rfl)
 ·exact h.elim
theorem fill_elems {ρ:Operand->Value}(size:Nat):∀(parts:List (Nat × Operand)) (i:Nat) (p:Option Prop) (cs pre rest:List Value),
  (∀x∈parts,∀s,ev fr x.2=some s->ρ x.2=s.den)->elems fr size i parts=some (p,cs)->(∀q,p=some q->q)->pre.length=i*size->rest.length=parts.length*size->
  Instr.fill (fun i=>some (i*size,size)) (pre++rest).toArray (parts.map fun x=>(x.1,ρ x.2))=some (pre++cs).toArray
 | [],i,p,cs,pre,rest,_,h,_,hl,hr=>by
  simp only[elems,Option.some.injEq,Prod.mk.injEq] at h
  obtain⟨_,rfl⟩:=h
  simp only[List.length_nil,Nat.zero_mul,List.length_eq_zero_iff] at hr
  subst hr;rfl
 | (j,x) ::r,i,p,cs,pre,rest,hA,h,hp,hl,hr=>by
  simp only[elems] at h
  cases hb:Nat.beq i j with
  | false=>rw[hb] at h;cases h
  | true=>
   have hj:=Nat.eq_of_beq_eq_true hb
   subst hj
   rw[hb] at h
   simp only[cond_true] at h
   have hA':∀y∈r,∀s,ev fr y.2=some s->ρ y.2=s.den:=fun y hy=>hA y (by simp[hy])
   simp only[List.length_cons,Nat.succ_mul] at hr
   have step:∀(v:SV) (vs cs':List Value) (p':Option Prop),ev fr x=some v->v.den.cells=vs.toArray->vs.length=size->elems fr size (i+1) r=some (p',cs')->(∀q,p'=some q->q)->
     Instr.fill (fun i=>some (i*size,size)) (pre++rest).toArray (((i,x) ::r).map fun x=>(x.1,ρ x.2))=some (pre++(vs++cs')).toArray:=by
    intro v vs cs' p' hx hc hv he hp'
    have hρ:=hA (i,x) (by simp) v hx
    simp only at hρ
    simp only[List.map_cons,Instr.fill,hρ,hc,List.size_toArray,hv,ne_eq,not_true_eq_false]
    rw[if_neg (by simp;omega)]
    rw[lay_part _ _ _ (by simp;omega)]
    have h1:(pre++rest).take (i*size)=pre:=by rw[<-hl];simp
    have h2:(pre++rest).drop (i*size+vs.length)=rest.drop size:=by rw[<-hl,hv];simp
    rw[h1,h2]
    rw[fill_elems size r (i+1) p' cs' (pre++vs) (rest.drop size) hA' he hp' (by simp[hl,hv,Nat.succ_mul]) (by simp;omega)]
    simp
   cases hx:ev fr x with
   | none=>simp[hx] at h
   | some v=>
    cases he:elems fr size (i+1) r with
    | none=>cases v<;>simp[hx,he] at h
    | some pc=>
     obtain⟨p',cs'⟩:=pc
     simp only[hx,he] at h
     cases v
     case agg vs=>
      simp only[Option.some.injEq,Prod.mk.injEq] at h
      obtain⟨rfl,rfl⟩:=h
      have hv:vs.length=size:=by cases p' with
       | none=>exact hp _ rfl
       | some q=>exact (hp _ rfl).1
      exact step _ vs cs' p' hx rfl hv he (by rintro q rfl;exact (hp _ rfl).2)
     case op v=>
      cases hs:Nat.beq size 1 with
      | false=>simp[hs] at h
      | true=>
       simp only[hs,cond_true,Option.some.injEq,Prod.mk.injEq] at h
       obtain⟨rfl,rfl⟩:=h
       have hs:=Nat.eq_of_beq_eq_true hs
       have hv:One v:=by cases p' with
        | none=>exact hp _ rfl
        | some q=>exact (hp _ rfl).1
       exact step _ [v] cs' p' hx (cells_one hv) hs.symm he (by rintro q rfl;exact (hp _ rfl).2)
     case tup l=>simp at h
     case undef=>simp at h
     all_goals
      cases hs:Nat.beq size 1 with
      | false=>simp[hs] at h
      | true=>
       simp only[hs,cond_true,Option.some.injEq,Prod.mk.injEq] at h
       obtain⟨rfl,rfl⟩:=h
       have hs:=Nat.eq_of_beq_eq_true hs
       exact step _ [_] cs' _ hx (cells_one trivial) hs.symm he hp
end
end Go.VC
namespace Go.VC
variable {P:Program}{o:Oper}{fr:Fr}{a:Act}{w:World}{K:SV->Heap->Prop}{next:Act->World->Prop}{Q:Exit->Act->World->Prop}
theorem zeros_range (z:List Value)(n size:Nat)(h:z.length=size):(Array.range (n*size)).map (fun i=>z.toArray[i % z.toArray.size]!)=(rep n z).toArray:=by
 subst h;exact rep_range z n
theorem eff_buildSlice (t:TypeId)(len:Nat)(parts:Array (Nat × Operand))(ho:o.op=.buildSlice t len parts)(hA:Ag o fr a.eval)(hk:Cnt o a w K next)(h:stepE P o fr w.heap K):o.wp P a w next Q:=by
 unfold stepE at h
 rw[ho] at h
 simp only at h
 split at h
 case h_2=>exact h.elim
 rename_i e he
 rcases elemOf_und he with ⟨_,h',_⟩|⟨_,hu⟩
 ·cases h'
 split at h
 case h_2=>exact h.elim
 rename_i s hs
 split at h
 case h_2=>exact h.elim
 rename_i p cs hel
 cases hc:(Nat.beq len parts.toList.length && Nat.ble (len*s) 16777216 && zeroFits P e s) with
 | false=>rw[hc] at h;exact h.elim
 | true=>
  rw[hc] at h
  simp only[cond_true] at h
  simp only[Bool.and_eq_true] at hc
  obtain⟨⟨h1,h2⟩,h3⟩:=hc
  have h1:=Nat.eq_of_beq_eq_true h1
  have h2:=Nat.le_of_ble_eq_true h2
  obtain⟨z,hz,hzl,_,_⟩:=zeroFits_spec h3
  have hp:∀q,p=some q->q:=by rintro q rfl;exact h.1
  have hK:∀H' q,New w.heap cs e H' q->K (.slc (some ⟨q,0,none⟩) len len) H':=by
   cases p with
   | none=>exact h
   | some q=>exact h.2
  have hA':∀x∈parts.toList,∀s,ev fr x.2=some s->a.eval x.2=s.den:=by
   intro x hx s hs
   exact hA x.2 (by rw[ho];simp only[Op.operands];simpa using ⟨x.1,by simpa using hx⟩) s hs
  have hfill:=fill_elems (ρ:=a.eval) s parts.toList 0 p cs [] (rep len (zcells z)) hA' hel hp (by simp) (by rw[rep_length,hzl,h1])
  simp only[List.nil_append] at hfill
  have hmap:(parts.map fun (i,x)=>(i,a.eval x)).toList=parts.toList.map fun x=>(x.1,a.eval x.2):=by simp
  have hrun:(execOp a.eval o).run P w=.ok (.value (.slice (some ⟨w.heap.size,0,none⟩) len len)) { w with heap:=w.heap.push (.cells cs.toArray e) }:=by
   simp only[execOp,ho,Instr.buildSlice,Sem.run_bind,run_und w hu,run_sizeOfT w hs,Result.andThen_ok]
   rw[if_neg (by omega)]
   simp only[Sem.run_pure]
   by_cases h0:len*s=0
   ·rw[if_pos h0]
    have hr:rep len (zcells z)=[]:=by rw[<-List.length_eq_zero_iff,rep_length,hzl];exact h0
    rw[hr] at hfill
    simp only[h0,Array.range_zero',List.map_toArray,List.map_nil,hmap]
    simp only[hfill]
    simp[newRow]
   ·rw[if_neg h0]
    simp only[Sem.run_bind,run_zero w hz,Result.andThen_ok,Sem.run_pure,zc,hmap]
    rw[zeros_range _ len s hzl,hfill]
    simp[newRow]
  exact eff_value hrun (hk (.slc (some ⟨w.heap.size,0,none⟩) len len) _ _ (hK _ _ ⟨rfl,rfl⟩) rfl ⟨rfl,rfl,rfl⟩)
theorem eff_makeSlice (t:TypeId)(x y:Operand)(ho:o.op=.makeSlice t x y)(hA:Ag o fr a.eval)(hk:Cnt o a w K next)(h:stepE P o fr w.heap K):o.wp P a w next Q:=by
 unfold stepE at h
 rw[ho] at h
 simp only at h
 split at h
 case h_2=>exact h.elim
 rename_i e sl sc he hx hy
 rcases elemOf_und he with ⟨_,h',_⟩|⟨_,hu⟩
 ·cases h'
 split at h
 case h_2=>exact h.elim
 rename_i l c z by_ hl hc hz hb
 cases hf:zeroFits P e (zcells z).length with
 | false=>rw[hf] at h;exact h.elim
 | true=>
  rw[hf] at h
  simp only[cond_true] at h
  obtain⟨⟨h0,h1,h2,h3⟩,hK⟩:=h
  obtain⟨z',hz',hzl,hs,_⟩:=zeroFits_spec hf
  rw[hz] at hz'
  cases hz'
  have e1:=ag1 hA (x:=x) (by rw[ho];simp[Op.operands]) hx
  have e2:=ag1 hA (x:=y) (by rw[ho];simp[Op.operands]) hy
  obtain⟨k1,d1⟩:=idx_den hl
  obtain⟨k2,d2⟩:=idx_den hc
  have hbytes:(typeInfo e).run P w=.ok ((P.info? e).getD default) w/\((P.info? e).getD default).bytes=by_:=by
   unfold bytesOfT at hb
   split at hb
   ·rename_i i hi;cases hb;simp[typeInfo,hi]
   ·cases hb
  have w1:IntKind.i64.wrap l=l:=wrap_i64 (by unfold I64 at *;omega)
  have w2:IntKind.i64.wrap c=c:=wrap_i64 h3
  have hrun:(execOp a.eval o).run P w=.ok (.value (.slice (some ⟨w.heap.size,0,none⟩) l.toNat c.toNat)) { w with heap:=w.heap.push (.cells (rep c.toNat (zcells z)).toArray e) }:=by
   have t1:¬(c<0):=by omega
   have t2:¬(l<0):=by omega
   have t3:¬(c<l):=by omega
   have t4:¬((by_:Int)*c > 2 ^ 48):=by omega
   simp only[execOp,ho,Instr.makeSlice,e1,e2,d1,d2,asInt,asIntOf,Sem.run_bind,run_und w hu,Result.andThen_ok,Sem.run_pure,hbytes.1,hbytes.2,w1,w2]
   rw[if_neg (by simp[t1,t2];omega)]
   simp only[Sem.run_bind,run_askRoom,Result.andThen_ok,run_sizeOfT w hs]
   by_cases hn:c.toNat*(zcells z).length=0
   ·have hr:rep c.toNat (zcells z)=[]:=by rw[<-List.length_eq_zero_iff,rep_length];exact hn
    simp only[hn,if_true,Array.range_zero',hr]
    simp[newRow]
   ·simp only[hn,if_false,Sem.run_bind,run_zero w hz,Result.andThen_ok,Sem.run_pure,zc]
    rw[zeros_range _ _ _ rfl]
    simp[newRow]
  exact eff_value hrun (hk (.slc (some ⟨w.heap.size,0,none⟩) l.toNat c.toNat) _ _ (hK _ _ ⟨rfl,rfl⟩) rfl ⟨rfl,rfl,rfl⟩)
theorem run_firstCells {x:Option Addr}{len cap:Nat}{cs:List Value}(size n:Nat)(w:World)(hl:cs.length=n*size)(h:SlL w.heap x cs) :
  (Builtin.firstCells size n (.slice x len cap)).run P w=.ok cs.toArray w:=by
 rcases h with rfl|⟨b,off,rfl,hr⟩
 ·cases x with
  | none=>simp[Builtin.firstCells]
  | some x=>
   have h0:n*size=0:=by simpa using hl.symm
   simp[Builtin.firstCells,h0,loadCells,loadCellsFrom]
 ·simp only[Builtin.firstCells]
  rw[<-hl]
  exact run_loadCells_list (P:=P) (w:=w) ⟨b,off,none⟩ cs (fun j v hj=>by rw[addr_add,cell_rd];exact rdL_get hr j v hj)
theorem zeroCells_rep {z:Value}(n:Nat):Builtin.zeroCells z.cells n=(rep n (zcells z)).toArray:=by
 unfold Builtin.zeroCells
 rw[zc]
 simp only[List.size_toArray]
 exact zeros_range _ _ _ rfl
theorem args_two {x y:Operand}{c:Call}{ρ:Operand->Value}(h:c.args.toList=[x,y]):c.args.map ρ=#[ρ x,ρ y]:=by
 rw[map_toList_eq (l:=[ρ x,ρ y]) (by rw[h];rfl)]
theorem run_typeInfo_bytes {e:TypeId}{by_:Nat}(hb:bytesOfT P e=some by_)(w:World):(typeInfo e).run P w=.ok ((P.info? e).getD default) w/\((P.info? e).getD default).bytes=by_:=by
 unfold bytesOfT at hb
 split at hb
 ·rename_i i hi;cases hb;simp[typeInfo,hi]
 ·cases hb
theorem eff_append (c:Call)(ho:o.op=.call c)(hc:c.callee=.builtin .append)(hA:Ag o fr a.eval)(hk:Cnt o a w K next)(h:stepE P o fr w.heap K):o.wp P a w next Q:=by
 unfold stepE at h
 rw[ho] at h
 simp only[hc] at h
 have hops:∀x∈c.args.toList,x∈o.op.operands:=by
  intro x hx
  rw[ho];simp only[Op.operands,Call.operands];exact Array.mem_append.2 (.inr (by simpa using hx))
 split at h
 case h_2=>exact h.elim
 rename_i t tx s x ht hx
 have h2:c.args.map a.eval=#[a.eval s,a.eval x]:=args_two hx
 have h3:c.argTypes=#[t,tx]:=by rw[<-Array.toArray_toList (xs:=c.argTypes),ht]
 split at h
 case h_3=>exact h.elim
 ·rename_i ax l cp bx m cq e hs hv he
  split at h
  case h_2=>exact h.elim
  rename_i e' sz by_ z het hsz hby hz
  cases hf:zeroFits P e sz with
  | false=>rw[hf] at h;exact h.elim
  | true=>
   rw[hf] at h
   simp only[cond_true] at h
   obtain⟨new,hnl,hnr,happ⟩:=h
   rw[mz_eq] at hnl
   rcases elemOf_und he with ⟨_,h',_⟩|⟨_,hu⟩
   ·cases h'
   rcases elemOf_und het with ⟨_,h',_⟩|⟨_,hut⟩
   ·cases h'
   have e1:=ag1 hA (hops s (by rw[hx];simp)) hs
   have e2:=ag1 hA (hops x (by rw[hx];simp)) hv
   obtain⟨dst,op,ty,pos,after,guard⟩:=o
   simp only at ho;subst ho
   have hfc:∀w',w'.heap=w.heap->(Builtin.firstCells sz m (.slice bx m cq)).run P w'=.ok new.toArray w':=fun w' hw'=>run_firstCells sz m w' hnl (by rw[hw'];exact hnr)
   have hrun:(execOp a.eval ⟨dst,.call c,ty,pos,after,guard⟩).run P w=((Builtin.append_ #[t,tx] ty #[.slice ax l cp,.slice bx m cq]).run P w).andThen fun v w=>.ok (.value v) w:=by
    rw[run_call_builtin hc,h2,h3,e1,e2]
    simp only[builtin,SV.den,Sem.run_bind]
    cases (Builtin.append_ #[t,tx] ty #[.slice ax l cp,.slice bx m cq]).run P w<;>simp
   by_cases hle:l+m<=cp
   ·rcases happ.1 hle with ⟨rfl,hK⟩|⟨b,off,rfl,hw,ho1,hK⟩
    ·refine eff_value (w':=w) (v:=.slice ax (l+m) cp) ?_ (hk (.slc ax (l+m) cp) _ _ hK rfl (Same.refl w))
     rw[hrun]
     cases ax<;>simp[Builtin.append_,run_und w hu,run_und w hut,run_sizeOfT w hsz,Builtin.lenOf,hle,hfc w rfl,storeCells]
    ·refine eff_value (w':={ w with heap:=wrL w.heap b (off+l*sz) new }) (v:=.slice (some ⟨b,off,none⟩) (l+m) cp) ?_ (hk (.slc (some ⟨b,off,none⟩) (l+m) cp) _ _ hK rfl ⟨rfl,rfl,rfl⟩)
     rw[hrun]
     have hst:=run_storeCells (P:=P) new w b (off+l*sz) 0 ho1 (by simpa using hw)
     simp[Builtin.append_,run_und w hu,run_und w hut,run_sizeOfT w hsz,Builtin.lenOf,hle,hfc w rfl,addr_add,hst]
   ·obtain⟨hmx,hcap,old,hol,hor,hK⟩:=happ.2 (by omega)
    have hq:(Question.appendCap (l+m) cp e).forced=false:=rfl
    generalize hcut:(Question.appendCap (l+m) cp e).cut (w.tape w.drawn (.appendCap (l+m) cp e))=newCap
    have hge:l+m<=newCap:=by rw[<-hcut];exact Nat.le_add_right _ _
    refine eff_value (w':={ w with drawn:=w.drawn+1,heap:=w.heap.push (.cells (old++new++rep (newCap-(l+m)) (zcells z)).toArray e) }) (v:=.slice (some ⟨w.heap.size,0,none⟩) (l+m) newCap) ?_
     (hk (.slc (some ⟨w.heap.size,0,none⟩) (l+m) newCap) _ _ (hK newCap _ _ hge ⟨rfl,rfl⟩) rfl ⟨rfl,rfl,rfl⟩)
    rw[hrun]
    have hi:¬(9223372036854775807<((l:Int)+m)):=by omega
    have hb:=fun w=>run_typeInfo_bytes (P:=P) hby w
    have hn:¬(281474976710656<Builtin.nextslicecap (l+m) cp*by_):=by omega
    have hz2:=run_zero (P:=P) w.drew hz
    have ho2:=run_firstCells (P:=P) (x:=ax) (len:=l) (cap:=cp) sz l w.drew hol hor
    have hn2:=hfc w.drew rfl
    simp[Builtin.append_,run_und w hu,run_und w hut,run_sizeOfT w hsz,Builtin.lenOf,hle,(hb _).1,(hb w).2,hi,hn,hq,hcut,hz2,ho2,hn2,zeroCells_rep,newRow]
    rfl
 ·rename_i ax l cp n e hs hv he
  split at h
  case h_2=>exact h.elim
  rename_i kk sz by_ z hut hsz hby hz
  cases hf:zeroFits P e sz with
  | false=>rw[hf] at h;exact h.elim
  | true=>
   rw[hf] at h
   simp only[cond_true] at h
   obtain⟨⟨hn0,hnb,hni⟩,happ⟩:=h
   rcases elemOf_und he with ⟨_,h',_⟩|⟨_,hu⟩
   ·cases h'
   obtain⟨z',hz',hzl,_,hzo⟩:=zeroFits_spec hf
   rw[hz] at hz'
   cases hz'
   have e1:=ag1 hA (hops s (by rw[hx];simp)) hs
   have e2:=ag1 hA (hops x (by rw[hx];simp)) hv
   obtain⟨dst,op,ty,pos,after,guard⟩:=o
   simp only at ho;subst ho
   have hrun:(execOp a.eval ⟨dst,.call c,ty,pos,after,guard⟩).run P w=((Builtin.append_ #[t,tx] ty #[.slice ax l cp,.int .i64 n]).run P w).andThen fun v w=>.ok (.value v) w:=by
    rw[run_call_builtin hc,h2,h3,e1,e2]
    simp only[builtin,SV.den,Sem.run_bind]
    cases (Builtin.append_ #[t,tx] ty #[.slice ax l cp,.int .i64 n]).run P w<;>simp
   have hwn:=wrap_i64 hni
   have hb:=fun w=>run_typeInfo_bytes (P:=P) hby w
   have t1:¬n<0:=by omega
   have t2:¬(281474976710656<n*(by_:Int)):=by omega
   have hnew0:n.toNat*sz=0->rep n.toNat (zcells z)=[]:=fun h0=>by rw[<-List.length_eq_zero_iff,rep_length,hzl];exact h0
   have hz1:=run_zero (P:=P) w hz
   by_cases hle:l+n.toNat<=cp
   ·rcases happ.1 hle with ⟨hnil,hK⟩|⟨b,off,rfl,hw,ho1,hK⟩
    ·refine eff_value (w':=w) (v:=.slice ax (l+n.toNat) cp) ?_ (hk (.slc ax (l+n.toNat) cp) _ _ hK rfl (Same.refl w))
     rw[hrun]
     have h0:n.toNat*sz=0:=by rw[<-hzl,<-rep_length,hnil];rfl
     cases ax<;>simp[Builtin.append_,run_und w hu,run_und w hut,run_sizeOfT w hsz,asInt,asIntOf,hwn,t1,(hb _).1,(hb w).2,t2,hle,h0,storeCells]
    ·refine eff_value (w':={ w with heap:=wrL w.heap b (off+l*sz) (rep n.toNat (zcells z)) }) (v:=.slice (some ⟨b,off,none⟩) (l+n.toNat) cp) ?_ (hk (.slc (some ⟨b,off,none⟩) (l+n.toNat) cp) _ _ hK rfl ⟨rfl,rfl,rfl⟩)
     rw[hrun]
     have hst:=run_storeCells (P:=P) (rep n.toNat (zcells z)) w b (off+l*sz) 0 ho1 (by simpa using hw)
     by_cases h0:n.toNat*sz=0
     ·rw[hnew0 h0] at hst ⊢
      simp[Builtin.append_,run_und w hu,run_und w hut,run_sizeOfT w hsz,asInt,asIntOf,hwn,t1,(hb _).1,(hb w).2,t2,hle,h0,addr_add,storeCells,wrL]
     ·simp[Builtin.append_,run_und w hu,run_und w hut,run_sizeOfT w hsz,asInt,asIntOf,hwn,t1,(hb _).1,(hb w).2,t2,hle,h0,hz1,zeroCells_rep,addr_add,hst]
   ·obtain⟨hmx,hcap,old,hol,hor,hK⟩:=happ.2 (by omega)
    have hq:(Question.appendCap (l+n.toNat) cp e).forced=false:=rfl
    generalize hcut:(Question.appendCap (l+n.toNat) cp e).cut (w.tape w.drawn (.appendCap (l+n.toNat) cp e))=newCap
    have hge:l+n.toNat<=newCap:=by rw[<-hcut];exact Nat.le_add_right _ _
    refine eff_value (w':={ w with drawn:=w.drawn+1,heap:=w.heap.push (.cells (old++rep n.toNat (zcells z)++rep (newCap-(l+n.toNat)) (zcells z)).toArray e) }) (v:=.slice (some ⟨w.heap.size,0,none⟩) (l+n.toNat) newCap) ?_
     (hk (.slc (some ⟨w.heap.size,0,none⟩) (l+n.toNat) newCap) _ _ (hK newCap _ _ hge ⟨rfl,rfl⟩) rfl ⟨rfl,rfl,rfl⟩)
    rw[hrun]
    have hi2:¬(9223372036854775807<((l:Int)+max n 0)):=by omega
    have hn:¬(281474976710656<Builtin.nextslicecap (l+n.toNat) cp*by_):=by omega
    have hz2:=run_zero (P:=P) w.drew hz
    have ho2:=run_firstCells (P:=P) (x:=ax) (len:=l) (cap:=cp) sz l w.drew hol hor
    by_cases h0:n.toNat*sz=0
    ·rw[hnew0 h0]
     simp[Builtin.append_,run_und w hu,run_und w hut,run_sizeOfT w hsz,asInt,asIntOf,hwn,t1,(hb _).1,(hb w).2,t2,hle,hi2,hn,hq,hcut,hz2,ho2,h0,zeroCells_rep,newRow]
     rfl
    ·simp[Builtin.append_,run_und w hu,run_und w hut,run_sizeOfT w hsz,asInt,asIntOf,hwn,t1,(hb _).1,(hb w).2,t2,hle,hi2,hn,hq,hcut,hz2,ho2,h0,zeroCells_rep,newRow]
     rfl
end Go.VC
namespace Go.VC
variable {P:Program}{o:Oper}{fr:Fr}{a:Act}{w:World}{K:SV->Heap->Prop}{next:Act->World->Prop}{Q:Exit->Act->World->Prop}
theorem eff_copy (c:Call)(ho:o.op=.call c)(hc:c.callee=.builtin .copy)(hA:Ag o fr a.eval)(hk:Cnt o a w K next)(h:stepE P o fr w.heap K):o.wp P a w next Q:=by
 unfold stepE at h
 rw[ho] at h
 simp only[hc] at h
 have hops:∀x∈c.args.toList,x∈o.op.operands:=by
  intro x hx
  rw[ho];simp only[Op.operands,Call.operands];exact Array.mem_append.2 (.inr (by simpa using hx))
 split at h
 case h_2=>exact h.elim
 rename_i t tx s x ht hx
 have h2:c.args.map a.eval=#[a.eval s,a.eval x]:=args_two hx
 have h3:c.argTypes[0]?=some t:=by rw[<-Array.toArray_toList (xs:=c.argTypes),ht];rfl
 split at h
 case h_2=>exact h.elim
 rename_i ax l cp bx m cq e hs hv he
 split at h
 case h_2=>exact h.elim
 rename_i sz hsz
 rcases elemOf_und he with ⟨_,h',_⟩|⟨_,hu⟩
 ·cases h'
 obtain⟨new,hnl,hnr,h⟩:=h;rw[mz_eq] at hnl
 have e1:=ag1 hA (hops s (by rw[hx];simp)) hs
 have e2:=ag1 hA (hops x (by rw[hx];simp)) hv
 obtain⟨dst,op,ty,pos,after,guard⟩:=o
 simp only at ho;subst ho
 have hrun:(execOp a.eval ⟨dst,.call c,ty,pos,after,guard⟩).run P w=((Builtin.copy_ c.argTypes ty #[.slice ax l cp,.slice bx m cq]).run P w).andThen fun v w=>.ok (.value v) w:=by
  rw[run_call_builtin hc,h2,e1,e2]
  simp only[builtin,SV.den,Sem.run_bind]
  cases (Builtin.copy_ c.argTypes ty #[.slice ax l cp,.slice bx m cq]).run P w<;>simp
 have hfc:(Builtin.firstCells sz (min m l) (.slice bx m cq)).run P w=.ok new.toArray w:=run_firstCells sz _ w hnl hnr
 have hmin:Nat.min m l=min m l:=rfl
 rcases h with ⟨rfl,hK⟩|⟨b,off,hat,hw,ho1,hK⟩
 ·refine eff_value (w':=w) (v:=.int .i64 ((min m l:Nat):Int)) ?_ (hk (.int .i64 ((min m l:Nat):Int)) _ _ hK rfl (Same.refl w))
  rw[hrun]
  cases ax<;>simp[Builtin.copy_,h3,run_und w hu,run_sizeOfT w hsz,Builtin.lenOf,hfc,storeCells,goInt,hmin]
 ·unfold At at hat
  subst hat
  refine eff_value (w':={ w with heap:=wrL w.heap b off new }) (v:=.int .i64 ((min m l:Nat):Int)) ?_ (hk (.int .i64 ((min m l:Nat):Int)) _ _ (hK _ rfl) rfl ⟨rfl,rfl,rfl⟩)
  rw[hrun]
  have hst:=run_storeCells (P:=P) new w b off 0 ho1 (by simpa using hw)
  simp[Builtin.copy_,h3,run_und w hu,run_sizeOfT w hsz,Builtin.lenOf,hfc,goInt,hmin,hst]
theorem callable_run {g:FuncId}(h:callable P g=true)(args:Array Value)(w:World):(callFunc g args).run P w=.ok (.enter g args) w:=by
 unfold callable at h
 split at h
 ·rename_i fn hfn
  simp only[Bool.and_eq_true,Bool.not_eq_true'] at h
  have hb:fn.body.isNone=false:=by cases hx:fn.body<;>simp_all
  unfold callFunc
  simp only[Sem.run_bind,run_program,Result.andThen_ok,hfn]
  rw[if_neg (by rw[h.2];simp),if_neg (by rw[hb];simp)]
  rfl
 ·cases h
theorem openT_elim:∀{ts:List TypeId} {K:List SV->Prop},openT P ts K->∃svs,K svs
 | [],K,h=>⟨[],h⟩
 | t ::ts,K,h=>by
  simp only[openT] at h
  split at h
  ·obtain⟨n,h⟩:=h;obtain⟨svs,h⟩:=openT_elim h;exact⟨_,h⟩
  ·obtain⟨n,h⟩:=h;obtain⟨svs,h⟩:=openT_elim h;exact⟨_,h⟩
  ·obtain⟨n,h⟩:=h;obtain⟨svs,h⟩:=openT_elim h;exact⟨_,h⟩
  ·obtain⟨_,_,_,h⟩:=h;obtain⟨svs,h⟩:=openT_elim h;exact⟨_,h⟩
  ·obtain⟨_,_,h⟩:=h;obtain⟨svs,h⟩:=openT_elim h;exact⟨_,h⟩
  ·obtain⟨n,h⟩:=h;obtain⟨svs,h⟩:=openT_elim h;exact⟨_,h⟩
  ·exact h.elim
theorem resE_elim {t:TypeId}{r:Value}{K:SV->Prop}(h:resE P t r K):∃s,K s/\s.den=r:=by
 unfold resE at h
 split at h
 ·split at h
  ·exact⟨_,h,rfl⟩
  ·obtain⟨svs,hr,hk⟩:=openT_elim h
   exact⟨_,hk,by rw[hr];rfl⟩
 ·split at h
  ·exact openV_elim h
  ·exact⟨_,h,rfl⟩
theorem eff_runs {g:FuncId}{args:List Value}(hrun:(execOp a.eval o).run P w=.ok (.enter g args.toArray) w)(hk:Cnt o a w K next)
  (h:Runs P g args w.heap fun r H'=>resE P o.type r fun s=>K s H'):o.wp P a w next Q:=by
 unfold Oper.wp
 rw[hrun]
 refine Calls.mono (h w rfl) ?_
 rintro e w' ⟨v,rfl,hr,hs⟩
 obtain⟨s,hK,rfl⟩:=resE_elim hr
 exact hk s _ _ hK rfl hs
theorem eff_call (c:Call)(f:Operand)(ho:o.op=.call c)(hc:c.callee=.value f)(hA:Ag o fr a.eval)(hk:Cnt o a w K next)(h:stepE P o fr w.heap K):o.wp P a w next Q:=by
 unfold stepE at h
 rw[ho] at h
 simp only[hc] at h
 have hf:f∈o.op.operands:=by rw[ho];simp[Op.operands,Call.operands,hc]
 have hops:∀x∈c.args.toList,∀s,ev fr x=some s->a.eval x=s.den:=by
  intro x hx s hs
  exact hA x (by rw[ho];simp only[Op.operands,Call.operands];exact Array.mem_append.2 (.inr (by simpa using hx))) s hs
 split at h
 ·rename_i g u v l hg hl
  cases hcl:callable P g with
  | false=>rw[hcl] at h;exact h.elim
  | true=>
   rw[hcl] at h
   simp only[cond_true] at h
   have e1:=ag1 hA hf hg
   have e2:=map_toList_eq (evs_den (ρ:=a.eval) _ _ hops hl)
   refine eff_runs (args:=u++denL l++v) ?_ hk h
   simp only[execOp,ho,resolve,hc,e1,e2,SV.den,Deferred.ofValue,Sem.run_bind,Sem.run_pure,Result.andThen_ok,invoke,callable_run hcl]
   simp
 ·rename_i x l hg hl
  obtain⟨g,u,v,rfl,hcl,h⟩:=h
  have e1:=ag1 hA hf hg
  have e2:=map_toList_eq (evs_den (ρ:=a.eval) _ _ hops hl)
  refine eff_runs (args:=u.toList++denL l++v.toList) ?_ hk h
  simp only[execOp,ho,resolve,hc,e1,e2,SV.den,Deferred.ofValue,Sem.run_bind,Sem.run_pure,Result.andThen_ok,invoke,callable_run hcl]
  simp
 ·exact h.elim
theorem stepE_sound (hA:Ag o fr a.eval)(hk:Cnt o a w K next)(h:stepE P o fr w.heap K):o.wp P a w next Q:=by
 cases ho:o.op
 case alloc t=>exact eff_alloc t ho hk h
 case box t x=>exact eff_box t x ho hA hk h
 case store t x y=>exact eff_store t x y ho hA hk h
 case buildSlice t len ps=>exact eff_buildSlice t len ps ho hA hk h
 case makeSlice t x y=>exact eff_makeSlice t x y ho hA hk h
 case call c=>
  cases hc:c.callee
  case value f=>exact eff_call c f ho hc hA hk h
  case builtin b=>
   cases b
   case append=>exact eff_append c ho hc hA hk h
   case copy=>exact eff_copy c ho hc hA hk h
   all_goals
    unfold stepE at h;rw[ho] at h;simp only[hc] at h
  case invoke r m=>unfold stepE at h;rw[ho] at h;simp only[hc] at h
 all_goals
  unfold stepE at h;rw[ho] at h;exact h.elim
theorem opE_sound (hA:Ag o fr a.eval)(hk:Cnt o a w K next)(h:opE P o fr w.heap K):o.wp P a w next Q:=by
 unfold opE at h
 have key:stepQ P (qOp P o fr) w.heap (fun v=>K v w.heap)->o.wp P a w next Q:=by
  intro h
  obtain⟨v,hK,hE,hq⟩:=quiet_sound h
  exact eff_value (hq a.eval w hA hE) (hk v _ _ hK rfl (Same.refl w))
 split at h
 ·exact stepE_sound hA hk h
 ·exact key h
end Go.VC
namespace Go.VC
variable {P:Program}
def wideR (ro:Option Nat):Fence:={ Fence.wide with round:=ro }
theorem callsR {ro:Option Nat}{n:Nat}{f:FuncId}{args:Array Value}{w:World}{R:Ending->World->Prop}(h:Calls P f args w R):CallsIn (wideR ro) n P f args w R:=by
 have h':CallsIn Fence.wide n P f args w R:=callsIn_wide.2 h
 exact h'
theorem rowsR {ro:Option Nat}{n:Nat}{row:String}{args:Array Value}{w:World}{R:Value->World->Prop}(h:Rows P row args w R):RowsIn (wideR ro) n P row args w R:=by
 have h':RowsIn Fence.wide n P row args w R:=fun c cs _=>let ⟨v,w',r,s⟩:=h c cs;⟨v,w',r,stepsIn_wide.2 s⟩
 exact h'
theorem wpIn_of_wp {ro:Option Nat}{n:Nat}{o:Oper}{a:Act}{w:World}{next:Act->World->Prop}{Q:Exit->Act->World->Prop}(hd:∀c,o.op≠.defer c)(h:o.wp P a w next Q):o.wpIn (wideR ro) n P a w next Q:=by
 refine⟨fun _ _=>trivial,?_⟩
 rw[Oper.semAt_plain _ _ _ hd]
 unfold Oper.wp at h
 revert h
 generalize (execOp a.eval o).run P w=r
 intro h
 have h1:((wideR ro).depth.isSome=true->1<=n):=fun h=>by cases h
 cases r with
 | ok x w'=>
  cases x<;>first|exact h|exact⟨h1,callsR h⟩|exact⟨h1,rowsR h⟩|exact h.elim
 | halt x w'=>
  cases x<;>first|exact h|exact h.elim
theorem opE_plain {o:Oper}{fr:Fr}{H:Heap}{K:SV->Heap->Prop}(h:opE P o fr H K):∀c,o.op≠.defer c:=by
 intro c hc
 unfold opE at h
 simp[qOp,stepE,hc] at h
theorem value_plain {o:Oper}{ρ:Operand->Value}{w w':World}{v:Value}(h:(execOp ρ o).run P w=.ok (.value v) w'):∀c,o.op≠.defer c:=by
 intro c hc
 simp only[execOp,hc,Sem.run_bind,Sem.run_pure] at h
 generalize (resolve ρ c o.type).run P w=r at h
 cases r<;>simp[Result.andThen] at h
end Go.VC
namespace Go.VC
variable {P:Program}
def dl (fr:Fr)(t:Nat):Option Value:=(look fr t).map SV.den
inductive Reach (ops:List Oper):Nat->Nat->Prop
 | edge {j:Nat} {o:Oper} {e:Edge}:ops[j]?=some o->e∈o.after->Region.binds .any e=true->Reach ops e.on j
 | step {i j:Nat} {o:Oper} {e:Edge}:Reach ops i e.on->ops[j]?=some o->e∈o.after->Region.binds .any e=true->Reach ops i j
theorem maskOf_spec {ms:List Nat}{q:Nat}:∀(es:List Edge) (s:Nat),(es.foldl (fun s e=>cond (Region.binds .any e) (Nat.lor s (Nat.lor (Nat.shiftLeft 1 e.on) ((ms[e.on]?).getD 0))) s) s).testBit q=true->
  s.testBit q=true\/∃e∈es,Region.binds .any e=true/\(q=e.on\/((ms[e.on]?).getD 0).testBit q=true)
 | [],s,h=>.inl h
 | e ::es,s,h=>by
  simp only[List.foldl_cons] at h
  rcases maskOf_spec es _ h with h|⟨e',he,hb,hq⟩
  ·cases hb:Region.binds .any e with
   | false=>rw[hb] at h;exact .inl h
   | true=>
    rw[hb] at h
    simp only[cond_true] at h
    change (s ||| (1 <<< e.on ||| _)).testBit q=true at h
    rw[Nat.testBit_or,Nat.testBit_or,Bool.or_eq_true,Bool.or_eq_true] at h
    rcases h with h|h|h
    ·exact .inl h
    ·refine .inr ⟨e,by simp,hb,.inl ?_⟩
     rw[Nat.shiftLeft_eq,Nat.one_mul,Nat.testBit_two_pow] at h
     have:=of_decide_eq_true h
     exact this.symm
    ·exact .inr ⟨e,by simp,hb,.inr h⟩
  ·exact .inr ⟨e',by simp[he],hb,hq⟩
theorem masksFrom_spec (all:List Oper):∀(l:List Oper) (ms:List Nat),(∀j,l[j]?=all[ms.length+j]?)->(∀j m q,ms[j]?=some m->m.testBit q=true->Reach all q j)->
  (masksFrom l ms).length=ms.length+l.length/\∀j m q,(masksFrom l ms)[j]?=some m->m.testBit q=true->Reach all q j
 | [],ms,_,h=>⟨by simp[masksFrom],h⟩
 | o ::r,ms,hl,h=>by
  have h0:all[ms.length]?=some o:=by simpa using (hl 0).symm
  have:=masksFrom_spec all r (ms++[maskOf ms o.after.toList]) (fun j=>by
   have:=hl (j+1)
   simp only[List.getElem?_cons_succ] at this
   rw[this];simp;congr 1;omega) (fun j m q hj hq=>by
   rcases Nat.lt_or_ge j ms.length with hlt|hge
   ·exact h j m q (by rwa [List.getElem?_append_left hlt] at hj) hq
   ·rw[List.getElem?_append_right hge] at hj
    have hj0:j-ms.length=0:=by
     rcases Nat.eq_zero_or_pos (j-ms.length) with h|h
     ·exact h
     ·rw[List.getElem?_eq_none (by simp;omega)] at hj;cases hj
    have hj1:j=ms.length:=by omega
    subst hj1
    rw[hj0] at hj
    simp only[List.getElem?_cons_zero,Option.some.injEq] at hj
    subst hj
    rcases maskOf_spec _ _ hq with hz|⟨e,he,hb,hq⟩
    ·simp at hz
    ·have he':e∈o.after:=by simpa using he
     rcases hq with rfl|hq
     ·exact .edge h0 he' hb
     ·cases hm:ms[e.on]? with
      | none=>rw[hm] at hq;simp at hq
      | some m'=>rw[hm] at hq;exact .step (h _ m' q hm hq) h0 he' hb)
  simp only[masksFrom]
  refine⟨by rw[this.1];simp;omega,this.2⟩
theorem masks_length (l:List Oper):(masks l).length=l.length:=by
 have:=(masksFrom_spec l l [] (by simp) (by simp)).1
 simpa [masks] using this
theorem masks_spec {l:List Oper}{j m q:Nat}(h:(masks l)[j]?=some m)(hq:m.testBit q=true):Reach l q j:=
 (masksFrom_spec l l [] (by simp) (by simp)).2 j m q h hq
theorem soloAt_spec {all:List Oper}{ms0:List Nat}{i:Nat}{d:Tmp}:∀(l:List Oper) (ms:List Nat) (k:Nat),soloAt all ms0 i d k l ms=true->ms.length=l.length->
  ∀j o m,l[j]?=some o->ms[j]?=some m->i=k+j\/names all o d=false\/m.testBit i=true:=by
 intro l
 induction l with
 | nil=>intro ms k _ _ j o m ho;simp at ho
 | cons x l ih=>
  intro ms k h hl j o m ho hm
  cases ms with
  | nil=>simp at hl
  | cons y ms=>
   simp only[soloAt,Bool.and_eq_true,Bool.or_eq_true,Bool.not_eq_true'] at h
   cases j with
   | zero=>
    simp at ho hm;subst ho;subst hm
    rcases h.1 with (h1|h1)|h1
    ·exact .inl (Nat.eq_of_beq_eq_true h1)
    ·exact .inr (.inl h1)
    ·exact .inr (.inr h1)
   | succ j=>
    rcases ih ms (k+1) h.2 (by simpa using hl) j o m (by simpa using ho) (by simpa using hm) with h1|h1
    ·exact .inl (by omega)
    ·exact .inr h1
theorem pairAt_spec {all:List Oper}{ms0:List Nat}{i mi:Nat}{d:Tmp}:∀(l:List Oper) (ms:List Nat) (k:Nat),pairAt all ms0 i mi d k l ms=true->ms.length=l.length->
  ∀j o m,l[j]?=some o->ms[j]?=some m->i=k+j\/names all o d=false\/m.testBit i=true\/mi.testBit (k+j)=true:=by
 intro l
 induction l with
 | nil=>intro ms k _ _ j o m ho;simp at ho
 | cons x l ih=>
  intro ms k h hl j o m ho hm
  cases ms with
  | nil=>simp at hl
  | cons y ms=>
   simp only[pairAt,Bool.and_eq_true,Bool.or_eq_true,Bool.not_eq_true'] at h
   cases j with
   | zero=>
    simp at ho hm;subst ho;subst hm
    rcases h.1 with ((h1|h1)|h1)|h1
    ·exact .inl (Nat.eq_of_beq_eq_true h1)
    ·exact .inr (.inl h1)
    ·exact .inr (.inr (.inl h1))
    ·exact .inr (.inr (.inr h1))
   | succ j=>
    rcases ih ms (k+1) h.2 (by simpa using hl) j o m (by simpa using ho) (by simpa using hm) with h1|h1|h1|h1
    ·exact .inl (by omega)
    ·exact .inr (.inl h1)
    ·exact .inr (.inr (.inl h1))
    ·exact .inr (.inr (.inr (by rwa [show k+1+j=k+(j+1) from by omega] at h1)))
theorem pairsAt_spec {all:List Oper}{ms0:List Nat}(h0:ms0.length=all.length):∀(l:List Oper) (ms:List Nat) (k:Nat),pairsAt all ms0 k l ms=true->ms.length=l.length->
  ∀i o m d,l[i]?=some o->ms[i]?=some m->o.dst=some d->∀j o' m',all[j]?=some o'->ms0[j]?=some m'->k+i=j\/names all o' d=false\/m'.testBit (k+i)=true\/m.testBit j=true:=by
 intro l
 induction l with
 | nil=>intro ms k _ _ j o m d ho;simp at ho
 | cons x l ih=>
  intro ms k h hl i o m d ho hm hd j o' m' hj hj'
  cases ms with
  | nil=>simp at hl
  | cons y ms=>
   simp only[pairsAt,Bool.and_eq_true] at h
   cases i with
   | zero=>
    simp at ho hm;subst ho;subst hm
    rw[hd] at h
    have:=pairAt_spec (ms0:=ms0) all ms0 0 h.1 h0 j o' m' hj hj'
    simpa using this
   | succ i=>
    have:=ih ms (k+1) h.2 (by simpa using hl) i o m d (by simpa using ho) (by simpa using hm) hd j o' m' hj hj'
    rwa [show k+1+i=k+(i+1) from by omega] at this
theorem edgesAt_spec {all:List Oper}:∀(l:List Oper) (k:Nat),edgesAt all k l=true->∀i o,l[i]?=some o->
  (∀e∈o.after,Region.binds .any e=true->e.on<k+i)/\(∀g b,o.guard=some (g,b)->∃e∈o.after,Region.binds .any e=true/\e.on=g)/\(∀cs b,o.op≠.select cs b)/\(∀c,o.op≠.defer c):=by
 intro l
 induction l with
 | nil=>intro k _ i o ho;simp at ho
 | cons x l ih=>
  intro k h i o ho
  simp only[edgesAt,Bool.and_eq_true] at h
  cases i with
  | zero=>
   simp at ho;subst ho
   obtain⟨⟨⟨h1,h2⟩,h3⟩,_⟩:=h
   refine⟨fun e he hb=>?_,fun g b hg=>?_,?_,?_⟩
   ·have:=List.all_eq_true.1 h1 e (by simpa using he)
    simp only[hb,Bool.not_true,Bool.false_or] at this
    have h':(e.on).blt k=true:=this
    rw[Nat.blt_eq] at h'
    omega
   ·rw[hg] at h2
    obtain⟨e,he,hb⟩:=List.any_eq_true.1 h2
    simp only[Bool.and_eq_true] at hb
    exact⟨e,by simpa using he,hb.1,Nat.eq_of_beq_eq_true hb.2⟩
   ·intro cs b heq;rw[heq] at h3;cases h3
   ·intro c heq;rw[heq] at h3;cases h3
  | succ i=>
   have:=ih (k+1) h.2 i o (by simpa using ho)
   rwa [show k+1+i=k+(i+1) from by omega] at this
end Go.VC
namespace Go.VC
variable {P:Program}
structure Agree (n:Nat)(fr:Fr)(a:Act):Prop where
 size:a.tmps.size=n
 at_:∀t v,dl fr t=some v->a.tmps[t]?=some v
theorem dl_set (fr:Fr)(d:Nat)(v:SV)(t:Nat):dl ((d,v) ::fr) t=if t=d then some v.den else dl fr t:=by
 unfold dl
 simp only[look]
 by_cases h:t=d
 ·subst h;simp
 ·have:Nat.beq d t=false:=by
   cases hb:Nat.beq d t with
   | false=>rfl
   | true=>exact absurd (Nat.eq_of_beq_eq_true hb).symm h
  simp[this,h]
theorem put_get {a:Act}{d t:Nat}{v:Value}(hd:d<a.tmps.size):(a.put (some d) v).tmps[t]?=if t=d then some v else a.tmps[t]?:=by
 simp only[Act.put]
 by_cases h:t=d
 ·subst h;simp[hd]
 ·rw[if_neg h,Array.getElem?_setIfInBounds_ne (fun e=>h e.symm)]
theorem Agree.put {n:Nat}{fr:Fr}{a:Act}(h:Agree n fr a){d:Option Nat}(hd:∀t,d=some t->t<n)(v:SV):Agree n (setFr fr d v) (a.put d v.den):=by
 cases d with
 | none=>exact h
 | some d=>
  have hd:=hd d rfl
  refine⟨by simp[Act.put,h.size],fun t u hu=>?_⟩
  rw[put_get (by rw[h.size];exact hd)]
  simp only[setFr] at hu
  rw[dl_set] at hu
  by_cases e:t=d
  ·rw[if_pos e] at hu ⊢;exact hu
  ·rw[if_neg e] at hu ⊢;exact h.at_ t u hu
theorem Agree.same {n:Nat}{fr fr':Fr}{a:Act}(h:Agree n fr a)(hs:∀t,dl fr' t=dl fr t):Agree n fr' a:=
 ⟨h.size,fun t v hv=>h.at_ t v (by rw[<-hs];exact hv)⟩
theorem eval_of {fr:Fr}{a:Act}{x:Operand}{s:SV}(h:∀t v,x=.tmp t->dl fr t=some v->a.tmps[t]?=some v)(hx:ev fr x=some s):a.eval x=s.den:=by
 cases x with
 | tmp t=>
  have:=h t s.den rfl (by unfold dl;simp only[ev] at hx;rw[hx];rfl)
  simp only[Act.eval];rw[Array.getD_eq_getD_getElem?,this];rfl
 | const c=>exact (lit_den c s hx).symm
 | global g=>cases hx
 | func f=>cases hx;rfl
theorem Agree.ag {n:Nat}{fr:Fr}{a:Act}(h:Agree n fr a)(o:Oper):Ag o fr a.eval:=fun _ _ _ hs=>eval_of (fun t v _ hv=>h.at_ t v hv) hs
theorem dl_split {fr:Fr}{d:Nat}{p:Prop}{i:Decidable p}{v:SV}(h:look fr d=some (.pr p i))(hv:v.den=.bool (decide p)):∀t,dl ((d,v) ::fr) t=dl fr t:=by
 intro t
 rw[dl_set]
 by_cases e:t=d
 ·subst e;rw[if_pos rfl,hv];unfold dl;rw[h];rfl
 ·rw[if_neg e]
theorem guardE_spec {ops:Array Oper}{o:Oper}{fr:Fr}{run pass:Fr->Prop}(h:guardE ops.toList o fr run pass) :
  ∃fr',(∀t,dl fr' t=dl fr t)/\(∃b:Bool,(b=true->run fr')/\(b=false->pass fr')/\
   ∀tmps:Array Value,(∀t v,guardTmp ops.toList o=some t->dl fr t=some v->tmps[t]?=some v)->Region.wanted o (yielded ops tmps)=b):=by
 unfold guardE at h
 cases hg:o.guard with
 | none=>
  rw[hg] at h
  exact⟨fr,fun _=>rfl,true,fun _=>h,fun e=>(by cases e),fun _ _=>by simp[Region.wanted,hg]⟩
 | some gw=>
  obtain⟨j,want⟩:=gw
  rw[hg] at h
  simp only at h
  cases hj:ops.toList[j]? with
  | none=>rw[hj] at h;exact h.elim
  | some oj=>
   rw[hj] at h
   simp only at h
   cases hd:oj.dst with
   | none=>rw[hd] at h;exact h.elim
   | some d=>
    rw[hd] at h
    simp only at h
    have hgt:guardTmp ops.toList o=some d:=by simp only[guardTmp,hg,hj,hd]
    have hw:∀(c:Bool) (tmps:Array Value),tmps[d]?=some (.bool c)->Region.wanted o (yielded ops tmps)=(c == want):=by
     intro c tmps ht
     have hj':ops[j]?=some oj:=by rw[<-Array.getElem?_toList];exact hj
     simp[Region.wanted,hg,yielded,hj',hd,ht]
    cases hl:look fr d with
    | none=>rw[hl] at h;exact h.elim
    | some v=>
     rw[hl] at h
     have hdl:dl fr d=some v.den:=by unfold dl;rw[hl];rfl
     cases v<;>simp only at h
     case pr p i=>
      rcases Classical.em p with hp|hp
      ·refine⟨(d,.tt) ::fr,dl_split hl (by simp[SV.den,hp]),true == want,?_,?_,fun tmps ht=>?_⟩
       ·intro e;cases want
        ·cases e
        ·exact h.1 hp
       ·intro e;cases want
        ·exact h.1 hp
        ·cases e
       ·exact hw true tmps (by rw[ht d _ hgt hdl];simp[SV.den,hp])
      ·refine⟨(d,.ff) ::fr,dl_split hl (by simp[SV.den,hp]),false == want,?_,?_,fun tmps ht=>?_⟩
       ·intro e;cases want
        ·exact h.2 hp
        ·cases e
       ·intro e;cases want
        ·cases e
        ·exact h.2 hp
       ·exact hw false tmps (by rw[ht d _ hgt hdl];simp[SV.den,hp])
     case bl c=>
      have hdb:∀v:SV,v.den=.bool c->∀t,dl ((d,v) ::fr) t=dl fr t:=by
       intro v hv t
       rw[dl_set]
       by_cases e:t=d
       ·subst e;rw[if_pos rfl,hv,hdl];rfl
       ·rw[if_neg e]
      cases c with
      | true=>
       refine⟨(d,.tt) ::fr,hdb .tt rfl,true == want,?_,?_,fun tmps ht=>hw true tmps (ht d _ hgt hdl)⟩
       ·intro e;cases want
        ·cases e
        ·exact h.1 rfl
       ·intro e;cases want
        ·exact h.1 rfl
        ·cases e
      | false=>
       refine⟨(d,.ff) ::fr,hdb .ff rfl,false == want,?_,?_,fun tmps ht=>hw false tmps (ht d _ hgt hdl)⟩
       ·intro e;cases want
        ·exact h.2 rfl
        ·cases e
       ·intro e;cases want
        ·cases e
        ·exact h.2 rfl
     case undef=>
      refine⟨fr,fun _=>rfl,false,(fun e=>by cases e),fun _=>h,fun tmps ht=>?_⟩
      have ht':=ht d _ hgt hdl
      have hj':ops[j]?=some oj:=by rw[<-Array.getElem?_toList];exact hj
      simp[Region.wanted,hg,yielded,hj',hd,ht',SV.den,Go.undef]
     case tt=>
      refine⟨fr,fun _=>rfl,true == want,?_,?_,fun tmps ht=>hw true tmps (ht d _ hgt hdl)⟩
      ·intro e;cases want
       ·cases e
       ·exact h
      ·intro e;cases want
       ·exact h
       ·cases e
     case ff=>
      refine⟨fr,fun _=>rfl,false == want,?_,?_,fun tmps ht=>hw false tmps (ht d _ hgt hdl)⟩
      ·intro e;cases want
       ·exact h
       ·cases e
      ·intro e;cases want
       ·cases e
       ·exact h
theorem opsE_sound {ro:Option Nat}{m:Nat}{ops:Array Oper}{n:Nat}{Q:Exit->Act->World->Prop}{w0:World}{K:Fr->Heap->Prop}{Z:Act->Prop}
  (hK:∀fr a w,K fr w.heap->Agree n fr a->Same w0 w->Z a->Q .normal a w):∀(l:List Oper) (fr:Fr) (a:Act) (w:World),
  (∀o∈l,∀d,o.dst=some d->d<n)->(∀o∈l,∀a v,Z a->Z (a.put o.dst v))->opsE P ops.toList l fr w.heap K->Agree n fr a->Same w0 w->Z a->wpListIn (wideR ro) m P ops Q l a w
 | [],fr,a,w,_,_,h,hA,hS,hz=>hK fr a w h hA hS hz
 | o ::rest,fr,a,w,hd,hZ,h,hA,hS,hz=>by
  simp only[opsE] at h
  obtain⟨fr',hdl,b,h1,h2,h3⟩:=guardE_spec h
  have hA':=hA.same hdl
  have hw:=h3 a.tmps (fun t v _ hv=>hA.at_ t v hv)
  unfold wpListIn
  rw[hw]
  have hdo:∀t,o.dst=some t->t<n:=fun t ht=>hd o (by simp) t ht
  cases b with
  | true=>
   rw[if_pos rfl]
   refine wpIn_of_wp (opE_plain (h1 rfl)) (opE_sound (hA'.ag o) ?_ (h1 rfl))
   intro v H' w' hk hw' hs
   subst hw'
   exact opsE_sound hK rest _ _ w' (fun o ho=>hd o (by simp[ho])) (fun o ho=>hZ o (by simp[ho])) hk (hA'.put hdo v) (hS.trans hs) (hZ o (by simp) _ _ hz)
  | false=>
   rw[if_neg (by simp)]
   refine⟨fun _ _=>trivial,?_⟩
   exact opsE_sound hK rest _ _ w (fun o ho=>hd o (by simp[ho])) (fun o ho=>hZ o (by simp[ho])) (h2 rfl) (hA'.put hdo .undef) hS (hZ o (by simp) _ _ hz)
end Go.VC
namespace Go.VC
variable {P:Program}
abbrev Lst (listed:Array Bool)(i:Nat):Prop:=listed.getD i false=true
theorem reach_listed {ops:Array Oper}{listed:Array Bool}(hcl:∀i o,Lst listed i->ops[i]?=some o->∀e∈o.after,Region.binds .any e=true->Lst listed e.on)
  {i j:Nat} (h:Reach ops.toList i j):(∀o,ops[j]?=some o->∀e∈o.after,Region.binds .any e=true->Lst listed e.on)->Lst listed i:=by
 induction h with
 | edge ho he hb=>exact fun h=>h _ (by rw[<-Array.getElem?_toList];exact ho) _ he hb
 | step _ ho he hb ih=>
  intro h
  have hl:=h _ (by rw[<-Array.getElem?_toList];exact ho) _ he hb
  exact ih fun o' ho' e' he' hb'=>hcl _ o' hl ho' e' he' hb'
theorem reach_virt {ops:Array Oper}{V:Nat}(hcl:∀i o,V.testBit i=true->ops[i]?=some o->∀e∈o.after,Region.binds .any e=true->V.testBit e.on=true)
  {i j:Nat} (h:Reach ops.toList i j):V.testBit j=true->V.testBit i=true:=by
 induction h with
 | edge ho he hb=>exact fun h=>hcl _ _ h (by rw[<-Array.getElem?_toList];exact ho) _ he hb
 | step _ ho he hb ih=>exact fun h=>ih (hcl _ _ h (by rw[<-Array.getElem?_toList];exact ho) _ he hb)
def Pend (P:Program)(ops:Array Oper)(ms:List Nat)(fr:Fr)(fl:Fl)(i:Nat):Prop:=
 ∃o d v,ops[i]?=some o/\o.dst=some d/\solo ops.toList ms i o=true/\dl fr d=some v/\
  ∀(a':Act) (w':World),(∀t u,looks ops.toList o t=true->dl fr t=some u->a'.tmps[t]?=some u)->(∀e,(i,e)∈fl->e.holds w'.heap)->
   (Region.wanted o (yielded ops a'.tmps)=true/\(execOp a'.eval o).run P w'=.ok (.value v) w')\/(Region.wanted o (yielded ops a'.tmps)=false/\v=undef)
structure Inv (P:Program)(ops:Array Oper)(n:Nat)(V:Nat)(listed:Array Bool)(fr:Fr)(a:Act)(H:Heap)(fl:Fl):Prop where
 lsize:listed.size=ops.size
 sub:∀i,Lst listed i->V.testBit i=true
 clV:∀i o,V.testBit i=true->ops[i]?=some o->∀e∈o.after,Region.binds .any e=true->V.testBit e.on=true
 clL:∀i o,Lst listed i->ops[i]?=some o->∀e∈o.after,Region.binds .any e=true->Lst listed e.on
 pend:∀i,V.testBit i=true->¬Lst listed i->Pend P ops (masks ops.toList) fr fl i
 keep:∀q e,(q,e)∈fl->¬Lst listed q->e.holds H
 flV:∀q e,(q,e)∈fl->V.testBit q=true
 agree:∀t u,dl fr t=some u->(∀i o,V.testBit i=true->¬Lst listed i->ops[i]?=some o->o.dst≠some t)->a.tmps[t]?=some u
 size:a.tmps.size=n
theorem bit_test (i k:Nat):(bit i).testBit k=decide (i=k):=by
 unfold bit
 show (1 <<< i).testBit k=_
 rw[Nat.shiftLeft_eq,Nat.one_mul,Nat.testBit_two_pow]
theorem lor_test (V i k:Nat):(Nat.lor V (bit i)).testBit k=(V.testBit k || decide (i=k)):=by
 show (V ||| bit i).testBit k=_
 rw[Nat.testBit_or,bit_test]
theorem looks_names {ops:List Oper}{o:Oper}{t:Tmp}(h:looks ops o t=true):names ops o t=true:=by simp[names,h]
theorem dst_names {ops:List Oper}{o:Oper}{t:Tmp}(h:o.dst=some t):names ops o t=true:=by simp[names,h,Nat.beq_refl]
theorem operand_looks {ops:List Oper}{o:Oper}{t:Tmp}(h:Operand.tmp t∈o.op.operands):looks ops o t=true:=by
 simp only[looks,Bool.or_eq_true]
 refine .inl (List.any_eq_true.2 ⟨t,?_,Nat.beq_refl t⟩)
 exact List.mem_filterMap.2 ⟨.tmp t,by simpa using h,rfl⟩
theorem guard_looks {ops:List Oper}{o:Oper}{t:Tmp}(h:guardTmp ops o=some t):looks ops o t=true:=by
 simp[looks,h,Nat.beq_refl]
theorem solo_spec {ops:Array Oper}{i:Nat}{o:Oper}{d:Tmp}(h:solo ops.toList (masks ops.toList) i o=true)(hd:o.dst=some d) :
  looks ops.toList o d=false/\∀j o',ops[j]?=some o'->i≠j->names ops.toList o' d=true->Reach ops.toList i j:=by
 unfold solo at h
 simp only[hd,Bool.and_eq_true,Bool.not_eq_true'] at h
 refine⟨h.2.1,fun j o' hj hne hn=>?_⟩
 have hj':ops.toList[j]?=some o':=by rw[Array.getElem?_toList];exact hj
 have hjl:j<ops.toList.length:=(List.getElem?_eq_some_iff.1 hj').1
 have hm:∃m,(masks ops.toList)[j]?=some m:=⟨_,List.getElem?_eq_getElem (by rw[masks_length];exact hjl)⟩
 obtain⟨m,hm⟩:=hm
 rcases soloAt_spec _ _ 0 h.2.2 (masks_length _) j o' m hj' hm with h1|h1|h1
 ·omega
 ·rw[hn] at h1;cases h1
 ·exact masks_spec hm h1
theorem solo_dst {ops:List Oper}{ms:List Nat}{i:Nat}{o:Oper}(h:solo ops ms i o=true):∃d,o.dst=some d:=by
 unfold solo at h
 cases hd:o.dst with
 | none=>rw[hd] at h;simp at h
 | some d=>exact⟨d,rfl⟩
theorem pairs_spec {ops:Array Oper}(hok:drawOk ops.toList=true){i j:Nat}{o o':Oper}{d:Tmp}(hi:ops[i]?=some o)(hd:o.dst=some d)(hj:ops[j]?=some o')(hne:i≠j)
  (hn:names ops.toList o' d=true):Reach ops.toList i j\/Reach ops.toList j i:=by
 unfold drawOk at hok
 simp only[Bool.and_eq_true] at hok
 have hi':ops.toList[i]?=some o:=by rw[Array.getElem?_toList];exact hi
 have hj':ops.toList[j]?=some o':=by rw[Array.getElem?_toList];exact hj
 have hil:i<ops.toList.length:=(List.getElem?_eq_some_iff.1 hi').1
 have hjl:j<ops.toList.length:=(List.getElem?_eq_some_iff.1 hj').1
 obtain⟨m,hm⟩:∃m,(masks ops.toList)[i]?=some m:=⟨_,List.getElem?_eq_getElem (by rw[masks_length];exact hil)⟩
 obtain⟨m',hm'⟩:∃m,(masks ops.toList)[j]?=some m:=⟨_,List.getElem?_eq_getElem (by rw[masks_length];exact hjl)⟩
 rcases pairsAt_spec (masks_length _) _ _ 0 hok.2 (masks_length _) i o m d hi' hm hd j o' m' hj' hm' with h|h|h|h
 ·omega
 ·rw[hn] at h;cases h
 ·rw[Nat.zero_add] at h;exact .inl (masks_spec hm' h)
 ·exact .inr (masks_spec hm h)
theorem firstQ_spec {all:List Oper}{ms:List Nat}{V:Nat}:∀(l:List Oper) (k:Nat),(∀i o,firstQ all ms V k l=some (i,o)->k<=i/\l[i-k]?=some o/\readyIn V i o=true/\solo all ms i o=true)/\
  (firstQ all ms V k l=none->∀j o,l[j]?=some o->readyIn V (k+j) o=true->solo all ms (k+j) o=false):=by
 intro l
 induction l with
 | nil=>intro k;exact⟨by simp[firstQ],by simp⟩
 | cons x l ih=>
  intro k
  simp only[firstQ]
  cases hc:(readyIn V k x && solo all ms k x) with
  | true=>
   simp only[cond_true]
   refine⟨fun i o h=>?_,fun h=>by cases h⟩
   simp only[Option.some.injEq,Prod.mk.injEq] at h
   obtain⟨rfl,rfl⟩:=h
   simp only[Bool.and_eq_true] at hc
   exact⟨Nat.le_refl _,by simp,hc.1,hc.2⟩
  | false=>
   simp only[cond_false]
   refine⟨fun i o h=>?_,fun h j o hj hr=>?_⟩
   ·obtain⟨h1,h2,h3⟩:=(ih (k+1)).1 i o h
    refine⟨by omega,?_,h3⟩
    rw[show i-k=(i-(k+1))+1 from by omega]
    simpa using h2
   ·cases j with
    | zero=>
     simp at hj;subst hj
     simp only[Nat.add_zero] at hr ⊢
     rw[hr] at hc
     simpa using hc
    | succ j=>
     have:=(ih (k+1)).2 h j o (by simpa using hj)
     rw[show k+1+j=k+(j+1) from by omega] at this
     exact this hr
theorem readies_spec {V:Nat}:∀(l:List Oper) (k j:Nat) (o:Oper),l[j]?=some o->readyIn V (k+j) o=true->(k+j,o)∈readies V k l:=by
 intro l
 induction l with
 | nil=>intro k j o h;simp at h
 | cons x l ih=>
  intro k j o h hr
  simp only[readies]
  cases j with
  | zero=>simp at h;subst h;rw[Nat.add_zero] at hr ⊢;rw[hr];simp
  | succ j=>
   have:=ih (k+1) j o (by simpa using h) (by rwa [show k+1+j=k+(j+1) from by omega])
   rw[show k+1+j=k+(j+1) from by omega] at this
   cases readyIn V k x<;>simp[this]
theorem readies_nil {V:Nat}:∀(l:List Oper) (k:Nat),(∀j o,l[j]?=some o->V.testBit (k+j)=true)->readies V k l=[]:=by
 intro l
 induction l with
 | nil=>intro k _;rfl
 | cons x l ih=>
  intro k h
  have h0:=h 0 x (by simp)
  rw[Nat.add_zero] at h0
  simp only[readies,readyIn,h0,Bool.not_true,Bool.false_and,cond_false]
  exact ih (k+1) fun j o hj=>by
   have:=h (j+1) o (by simpa using hj)
   rwa [show k+1+j=k+(j+1) from by omega]
theorem eachE_mem {f:Nat->Oper->Prop}:∀(l:List (Nat × Oper)),eachE f l->∀i o,(i,o)∈l->f i o
 | [],_,i,o,h=>by cases h
 | [(j,x)],hf,i,o,h=>by simp at h;obtain⟨rfl,rfl⟩:=h;exact hf
 | (j,x) ::y ::r,hf,i,o,h=>by
  simp only[eachE] at hf
  rcases List.mem_cons.1 h with h|h
  ·simp only[Prod.mk.injEq] at h;obtain⟨rfl,rfl⟩:=h;exact hf.1
  ·exact eachE_mem (y ::r) hf.2 i o h
theorem keep_spec {m:Nat}{H:Heap}{p:Prop}:∀(fl:Fl),Keep m H fl p->(∀q e,(q,e)∈fl->m.testBit q=false->e.holds H)/\p
 | [],h=>⟨fun _ _ h=>(by cases h),h⟩
 | (q,e) ::r,h=>by
  simp only[Keep] at h
  cases hb:Nat.testBit m q with
  | true=>
   rw[hb] at h
   obtain⟨h1,h2⟩:=keep_spec r h
   refine⟨fun q' e' hq hm=>?_,h2⟩
   rcases List.mem_cons.1 hq with hq|hq
   ·simp only[Prod.mk.injEq] at hq;obtain⟨rfl,rfl⟩:=hq;rw[hb] at hm;cases hm
   ·exact h1 q' e' hq hm
  | false=>
   rw[hb] at h
   obtain⟨h0,h⟩:=h
   obtain⟨h1,h2⟩:=keep_spec r h
   refine⟨fun q' e' hq hm=>?_,h2⟩
   rcases List.mem_cons.1 hq with hq|hq
   ·simp only[Prod.mk.injEq] at hq;obtain⟨rfl,rfl⟩:=hq;exact h0
   ·exact h1 q' e' hq hm
theorem readyIn_spec {V i:Nat}{o:Oper}(h:readyIn V i o=true):V.testBit i=false/\∀e∈o.after,Region.binds .any e=true->V.testBit e.on=true:=by
 unfold readyIn at h
 simp only[Bool.and_eq_true,Bool.not_eq_true'] at h
 refine⟨h.1,fun e he hb=>?_⟩
 have:=List.all_eq_true.1 h.2 e (by simpa using he)
 simpa [hb] using this
theorem readyIn_mk {V i:Nat}{o:Oper}(h0:V.testBit i=false)(h:∀e∈o.after,Region.binds .any e=true->V.testBit e.on=true):readyIn V i o=true:=by
 unfold readyIn
 simp only[Bool.and_eq_true,Bool.not_eq_true']
 refine⟨h0,List.all_eq_true.2 fun e he=>?_⟩
 cases hb:Region.binds .any e with
 | false=>rfl
 | true=>simpa using h e (by simpa using he) hb
section
variable {ops:Array Oper}{n:Nat}
theorem Inv.at_ready {V:Nat}{listed:Array Bool}{fr:Fr}{a:Act}{H:Heap}{fl:Fl}(I:Inv P ops n V listed fr a H fl){i:Nat}{o:Oper}(hi:ops[i]?=some o)
  (hr:∀e∈o.after,Region.binds .any e=true->Lst listed e.on) {t:Tmp} {u:Value} (ht:names ops.toList o t=true) (hself:V.testBit i=true->looks ops.toList o t=true)
  (hu:dl fr t=some u):a.tmps[t]?=some u:=by
 refine I.agree t u hu fun k ok hk hkl hok hkd=>?_
 obtain⟨o2,d2,v2,h1,h2,h3,_⟩:=I.pend k hk hkl
 rw[hok] at h1;cases h1
 obtain⟨hs1,hs2⟩:=solo_spec h3 hkd
 by_cases hki:k=i
 ·subst hki
  rw[hi] at hok;cases hok
  rw[hself hk] at hs1;cases hs1
 ·have:=hs2 i o hi hki ht
  exact hkl (reach_listed I.clL this fun o' ho'=>by rw[hi] at ho';cases ho';exact hr)
theorem Inv.take {V:Nat}{listed:Array Bool}{fr fr':Fr}{a:Act}{H:Heap}{fl fl':Fl}(I:Inv P ops n V listed fr a H fl){i:Nat}{o:Oper}{d:Tmp}{v:SV}
  (hi:ops[i]?=some o) (hd:o.dst=some d) (hr:readyIn V i o=true) (hso:solo ops.toList (masks ops.toList) i o=true) (hdl:∀t,dl fr' t=dl fr t)
  (hfl:∀q e,(q,e)∈fl'->(q,e)∈fl\/(q=i/\e.holds H)) (hsub:∀x∈fl,x∈fl')
  (hp:∀(a':Act) (w':World),(∀t u,looks ops.toList o t=true->dl fr t=some u->a'.tmps[t]?=some u)->(∀e,(i,e)∈fl'->e.holds w'.heap)->
   (Region.wanted o (yielded ops a'.tmps)=true/\(execOp a'.eval o).run P w'=.ok (.value v.den) w')\/(Region.wanted o (yielded ops a'.tmps)=false/\v.den=undef)) :
  Inv P ops n (Nat.lor V (bit i)) listed ((d,v) ::fr') a H fl':=by
 obtain⟨hV,hE⟩:=readyIn_spec hr
 obtain⟨hs1,hs2⟩:=solo_spec hso hd
 have hnl:¬Lst listed i:=fun h=>by rw[I.sub i h] at hV;cases hV
 have hdl2:∀t,dl ((d,v) ::fr') t=if t=d then some v.den else dl fr t:=fun t=>by rw[dl_set,hdl]
 refine⟨I.lsize,?_,?_,I.clL,?_,?_,?_,?_,I.size⟩
 ·intro k hk;rw[lor_test,I.sub k hk];rfl
 ·intro k ok hk hok e he hb
  rw[lor_test,Bool.or_eq_true] at hk
  rw[lor_test]
  rcases hk with hk|hk
  ·rw[I.clV k ok hk hok e he hb];rfl
  ·have:=of_decide_eq_true hk;subst this
   rw[hi] at hok;cases hok
   rw[hE e he hb];rfl
 ·intro k hk hkl
  by_cases hki:i=k
  ·subst hki
   refine⟨o,d,v.den,hi,hd,hso,by rw[hdl2,if_pos rfl],fun a' w' h1 h2=>hp a' w' (fun t u ht hu=>h1 t u ht ?_) h2⟩
   rw[hdl2,if_neg]
   ·exact hu
   ·rintro rfl;rw[ht] at hs1;cases hs1
  ·have hkV:V.testBit k=true:=by
    rw[lor_test,Bool.or_eq_true] at hk
    rcases hk with hk|hk
    ·exact hk
    ·exact absurd (of_decide_eq_true hk) hki
   obtain⟨ok,dk,vk,h1,h2,h3,h4,h5⟩:=I.pend k hkV hkl
   have hno:∀t,names ops.toList ok t=true->t≠d:=by
    rintro t ht rfl
    have:=hs2 k ok h1 hki ht
    have:=reach_virt I.clV this hkV
    rw[this] at hV;cases hV
   refine⟨ok,dk,vk,h1,h2,h3,by rw[hdl2,if_neg (hno dk (dst_names h2))];exact h4,fun a' w' h6 h7=>h5 a' w' (fun t u ht hu=>h6 t u ht ?_) (fun e he=>h7 e (hsub _ he))⟩
   rw[hdl2,if_neg (hno t (looks_names ht))];exact hu
 ·intro q e he hq
  rcases hfl q e he with h|⟨_,h⟩
  ·exact I.keep q e h hq
  ·exact h
 ·intro q e he
  rw[lor_test]
  rcases hfl q e he with h|⟨h,_⟩
  ·rw[I.flV q e h];rfl
  ·simp[h]
 ·intro t u hu hno
  rw[hdl2] at hu
  by_cases htd:t=d
  ·exfalso
   exact hno i o (by rw[lor_test];simp) hnl hi (by rw[hd,htd])
  ·rw[if_neg htd] at hu
   exact I.agree t u hu fun k ok hk hkl hok=>hno k ok (by rw[lor_test,hk];rfl) hkl hok
end
end Go.VC
namespace Go.VC
variable {P:Program}{ops:Array Oper}{n:Nat}
theorem toList_get {ops:Array Oper}{i:Nat}{o:Oper}(h:ops.toList[i]?=some o):ops[i]?=some o:=by rw[<-Array.getElem?_toList];exact h
theorem saturate {listed:Array Bool}{a:Act}{H:Heap}{K:Fr->Heap->Prop}:∀(f V:Nat) (fr:Fr) (fl:Fl),Inv P ops n V listed fr a H fl->drawE P ops.toList (masks ops.toList) f V fr H fl K->
  ∃f' V' fr' fl',Inv P ops n V' listed fr' a H fl'/\firstQ ops.toList (masks ops.toList) V' 0 ops.toList=none/\
   (match readies V' 0 ops.toList with
   | []=>K fr' H
   | rs=>eachE (fun i o=>guardE ops.toList o fr'
     (fun fr=>opE P o fr H fun v H'=>Keep (((masks ops.toList)[i]?).getD 0) H' fl' (drawE P ops.toList (masks ops.toList) f' (Nat.lor V' (bit i)) (setFr fr o.dst v) H' fl' K))
     (fun fr=>drawE P ops.toList (masks ops.toList) f' (Nat.lor V' (bit i)) (setFr fr o.dst .undef) H fl' K)) rs):=by
 intro f
 induction f with
 | zero=>intro V fr fl _ h;exact h.elim
 | succ f ih=>
  intro V fr fl I h
  simp only[drawE] at h
  cases hq:firstQ ops.toList (masks ops.toList) V 0 ops.toList with
  | none=>
   rw[hq] at h
   exact⟨f,V,fr,fl,I,hq,h⟩
  | some io=>
   obtain⟨i,o⟩:=io
   rw[hq] at h
   simp only at h
   obtain⟨_,hi,hr,hso⟩:=(firstQ_spec ops.toList 0).1 i o hq
   have hi:ops[i]?=some o:=toList_get (by simpa using hi)
   obtain⟨d,hd⟩:=solo_dst hso
   obtain⟨fr',hdl,b,h1,h2,h3⟩:=guardE_spec h
   cases b with
   | true=>
    have h1:=h1 rfl
    have key:stepQ P (qOp P o fr') H (fun v=>drawE P ops.toList (masks ops.toList) f (Nat.lor V (bit i)) (setFr fr' o.dst v) H (addFl i (qOp P o fr') v fl) K):=by
     revert h1
     cases hqo:qOp P o fr'<;>simp only<;>intro h1
     case no=>exact h1.elim
     all_goals exact h1
    obtain⟨v,hk,hE,hqt⟩:=quiet_sound key
    rw[hd] at hk
    refine ih _ _ _ (I.take (v:=v) hi hd hr hso hdl ?_ ?_ ?_) hk
    ·intro q e he
     unfold addFl at he
     split at he
     ·rename_i e' he'
      rcases List.mem_cons.1 he with h|h
      ·simp only[Prod.mk.injEq] at h;obtain⟨rfl,rfl⟩:=h;exact .inr ⟨rfl,hE _ he'⟩
      ·exact .inl h
     ·exact .inl he
    ·intro x hx
     unfold addFl
     split
     ·exact List.mem_cons_of_mem _ hx
     ·exact hx
    ·intro a' w' hl hf
     refine .inl ⟨h3 a'.tmps (fun t u ht hu=>hl t u (guard_looks ht) hu),?_⟩
     refine hqt a'.eval w' (fun x hx s hs=>eval_of (fun t u hxt hu=>hl t u (operand_looks (by rw[<-hxt];exact hx)) (by rw[<-hdl];exact hu)) hs) ?_
     intro e he
     refine hf e ?_
     unfold addFl
     rw[he]
     exact List.mem_cons_self ..
   | false=>
    have h2:=h2 rfl
    rw[hd] at h2
    refine ih _ _ _ (I.take (v:=.undef) hi hd hr hso hdl (fun q e he=>.inl he) (fun x hx=>hx) ?_) h2
    intro a' w' hl _
    exact .inr ⟨h3 a'.tmps (fun t u ht hu=>hl t u (guard_looks ht) hu),rfl⟩
theorem count_set {l:List Bool}{i:Nat}(h:l[i]?=some false):(l.set i true).count false+1=l.count false:=by
 induction l generalizing i with
 | nil=>simp at h
 | cons x l ih=>
  cases i with
  | zero=>simp at h;subst h;simp
  | succ i=>
   have:=ih (i:=i) (by simpa using h)
   cases x<;>simp<;>omega
theorem any_sound {ro:Option Nat}{m:Nat}(hok:drawOk ops.toList=true){Q:Exit->Act->World->Prop}{w0:World}{K:Fr->Heap->Prop}{Z:Act->Prop}(hZ:∀(i:Nat) (o:Oper),ops[i]?=some o->∀a v,Z a->Z (a.put o.dst v))
  (hdst:∀(i:Nat) (o:Oper) (d:Tmp),ops[i]?=some o->o.dst=some d->d<n)
  (hK:∀fr a w,K fr w.heap->Agree n fr a->Same w0 w->Z a->Q .normal a w):∀(g:Nat) (listed:Array Bool) (f V:Nat) (fr:Fr) (fl:Fl) (a:Act) (w:World),listed.toList.count false=g->
  Inv P ops n V listed fr a w.heap fl->Same w0 w->Z a->drawE P ops.toList (masks ops.toList) f V fr w.heap fl K->wpAnyIn (wideR ro) m P .any ops Q g listed a w:=by
 have hedge:=fun i o (h:ops[i]?=some o)=>edgesAt_spec ops.toList 0 (by unfold drawOk at hok;simp only[Bool.and_eq_true] at hok;exact hok.1) i o (by rw[Array.getElem?_toList];exact h)
 have hall:∀(listed:Array Bool),listed.size=ops.size->Region.ready .any ops listed=[]->∀i,i<ops.size->Lst listed i:=by
  intro listed hs hr i
  induction i using Nat.strongRecOn with
  | _ i ih=>
   intro hi
   cases hb:listed.getD i false with
   | true=>exact hb
   | false=>
    exfalso
    have hlt:i<listed.size:=by omega
    have ho:ops[i]?=some ops[i]:=Array.getElem?_eq_getElem hi
    have:i∈Region.ready .any ops listed:=by
     rw[mem_ready]
     refine⟨?_,_,ho,fun e he hbd=>?_⟩
     ·simp[hlt] at hb ⊢;exact hb
     ·have:=(hedge i _ ho).1 e he hbd
      exact ih e.on (by omega) (by omega)
    rw[hr] at this;cases this
 have hdone:∀(listed:Array Bool) (f V:Nat) (fr:Fr) (fl:Fl) (a:Act) (w:World),Inv P ops n V listed fr a w.heap fl->Same w0 w->Z a->drawE P ops.toList (masks ops.toList) f V fr w.heap fl K->
   Region.ready .any ops listed=[]->Q .normal a w:=by
  intro listed f V fr fl a w I hS hz h hr
  obtain⟨f',V',fr',fl',I',hq,hm⟩:=saturate f V fr fl I h
  have hl:=hall listed I.lsize hr
  have hnil:readies V' 0 ops.toList=[]:=readies_nil _ 0 fun j o hj=>by
   rw[Nat.zero_add]
   refine I'.sub j (hl j ?_)
   have:=(List.getElem?_eq_some_iff.1 hj).1
   simpa using this
  rw[hnil] at hm
  refine hK fr' a w hm ⟨I'.size,fun t u hu=>I'.agree t u hu fun i o hi hno hio=>?_⟩ hS hz
  exact absurd (hl i (Array.getElem?_eq_some_iff.1 hio).1) hno
 intro g
 induction g with
 | zero=>
  intro listed f V fr fl a w hg I hS hz h
  have hr:Region.ready .any ops listed=[]:=by
   rw[List.eq_nil_iff_forall_not_mem]
   intro i hi
   obtain⟨h0,o,ho,_⟩:=mem_ready.1 hi
   have hlt:i<listed.size:=by rw[I.lsize];exact (Array.getElem?_eq_some_iff.1 ho).1
   have:false∈listed.toList:=by
    have:listed[i]=false:=by simpa [hlt] using h0
    rw[<-this];simp
   exact absurd hg (by have:=List.count_pos_iff.2 this;omega)
  exact⟨hr,hdone listed f V fr fl a w I hS hz h hr⟩
 | succ g ih=>
  intro listed f V fr fl a w hg I hS hz h
  refine⟨hdone listed f V fr fl a w I hS hz h,fun i hi=>?_⟩
  obtain⟨h0,o,ho,hE⟩:=mem_ready.1 hi
  have hil:i<ops.size:=(Array.getElem?_eq_some_iff.1 ho).1
  have hlt:i<listed.size:=by rw[I.lsize];exact hil
  have hli:listed[i]=false:=by simpa [hlt] using h0
  have hnl:¬Lst listed i:=by simp[Lst,hlt,hli]
  have hcount:(listed.setIfInBounds i true).toList.count false=g:=by
   have:=count_set (l:=listed.toList) (i:=i) (by simp[hlt,hli])
   simp only[Array.toList_setIfInBounds]
   omega
  have hset:∀k,Lst (listed.setIfInBounds i true) k<->(k=i\/Lst listed k):=by
   intro k
   by_cases hk:i=k
   ·subst hk;simp[Lst,hlt]
   ·simp only[Lst]
    rw[getD_set_ne false hk]
    constructor
    ·exact .inr
    ·rintro (h|h)
     ·exact absurd h.symm hk
     ·exact h
  obtain⟨f',V',fr',fl',I',hq,hm⟩:=saturate f V fr fl I h
  have hclL':∀k ok,Lst (listed.setIfInBounds i true) k->ops[k]?=some ok->∀e∈ok.after,Region.binds .any e=true->Lst (listed.setIfInBounds i true) e.on:=by
   intro k ok hk hok e he hb
   rw[hset] at hk ⊢
   rcases hk with rfl|hk
   ·rw[ho] at hok;cases hok;exact .inr (hE e he hb)
   ·exact .inr (I'.clL k ok hk hok e he hb)
  unfold Go.wpOpIn
  simp only[ho]
  cases hV:V'.testBit i with
  | true=>
   obtain⟨o',d,v,h1,h2,h3,h4,h5⟩:=I'.pend i hV hnl
   rw[ho] at h1;cases h1
   have hnext:Inv P ops n V' (listed.setIfInBounds i true) fr' (a.put (some d) v) w.heap fl':=by
    refine⟨by simp[I'.lsize],?_,I'.clV,hclL',?_,?_,I'.flV,?_,by simp[Act.put,I'.size]⟩
    ·intro k hk;rcases (hset k).1 hk with rfl|hk
     ·exact hV
     ·exact I'.sub k hk
    ·intro k hk hkl;exact I'.pend k hk fun hc=>hkl ((hset k).2 (.inr hc))
    ·intro q e he hq';exact I'.keep q e he fun hc=>hq' ((hset q).2 (.inr hc))
    ·intro t u hu hno
     rw[put_get (by rw[I'.size];exact hdst i o d ho h2)]
     by_cases htd:t=d
     ·subst htd;rw[if_pos rfl];rw[h4] at hu;exact hu
     ·rw[if_neg htd]
      refine I'.agree t u hu fun k ok hk hkl hok=>?_
      by_cases hki:k=i
      ·subst hki;rw[ho] at hok;cases hok;rw[h2];exact fun e=>htd (Option.some.inj e).symm
      ·exact hno k ok hk (fun hc=>by rcases (hset k).1 hc with h|h;exact hki h;exact hkl h) hok
   have hres:=h5 a w (fun t u ht hu=>I'.at_ready ho hE (looks_names ht) (fun _=>ht) hu) (fun e he=>I'.keep i e he hnl)
   have hform:∃f2,drawE P ops.toList (masks ops.toList) f2 V' fr' w.heap fl' K:=⟨f'+1,by simp only[drawE,hq];exact hm⟩
   obtain⟨f2,hform⟩:=hform
   have hgo:=ih _ f2 V' fr' fl' _ w hcount hnext hS (by have:=hZ i o ho a v hz;rw[h2] at this;exact this) hform
   rcases hres with ⟨hw,hrun⟩|⟨hw,rfl⟩
   ·rw[hw,if_pos rfl]
    exact wpIn_of_wp (value_plain hrun) (eff_value hrun (by rw[h2];exact hgo))
   ·rw[hw,if_neg (by simp),h2]
    exact⟨fun _ _=>trivial,hgo⟩
  | false=>
   have hrV:readyIn V' i o=true:=readyIn_mk hV fun e he hb=>I'.sub _ (hE e he hb)
   have hmem:=readies_spec (V:=V') ops.toList 0 i o (by rw[Array.getElem?_toList];exact ho) (by rwa [Nat.zero_add])
   rw[Nat.zero_add] at hmem
   have hform:guardE ops.toList o fr'
     (fun fr=>opE P o fr w.heap fun v H'=>Keep (((masks ops.toList)[i]?).getD 0) H' fl' (drawE P ops.toList (masks ops.toList) f' (Nat.lor V' (bit i)) (setFr fr o.dst v) H' fl' K))
     (fun fr=>drawE P ops.toList (masks ops.toList) f' (Nat.lor V' (bit i)) (setFr fr o.dst .undef) w.heap fl' K):=by
    revert hm
    cases hrs:readies V' 0 ops.toList with
    | nil=>rw[hrs] at hmem;cases hmem
    | cons x r=>intro hm;rw[hrs] at hmem;exact eachE_mem _ hm i o hmem
   obtain⟨fr2,hdl,b,h1,h2,h3⟩:=guardE_spec hform
   have hat:∀t u,names ops.toList o t=true->dl fr' t=some u->a.tmps[t]?=some u:=fun t u ht hu=>I'.at_ready ho hE ht (fun hc=>by rw[hV] at hc;cases hc) hu
   have hw:=h3 a.tmps (fun t v ht hv=>hat t v (looks_names (guard_looks ht)) hv)
   have hinv:∀(v:SV) (H':Heap),(∀q e,(q,e)∈fl'->(((masks ops.toList)[i]?).getD 0).testBit q=false->¬Lst listed q->e.holds H')->
     Inv P ops n (Nat.lor V' (bit i)) (listed.setIfInBounds i true) (setFr fr2 o.dst v) (a.put o.dst v.den) H' fl':=by
    intro v H' hkeep
    have hdl2:∀t,dl (setFr fr2 o.dst v) t=if o.dst=some t then some v.den else dl fr' t:=by
     intro t
     cases hd:o.dst with
     | none=>simp[setFr,hdl]
     | some d=>
      simp only[setFr]
      rw[dl_set,hdl]
      by_cases htd:t=d
      ·simp[htd]
      ·have:¬d=t:=fun e=>htd e.symm
       simp[htd,this]
    refine⟨by simp[I'.lsize],?_,?_,hclL',?_,?_,?_,?_,?_⟩
    ·intro k hk
     rw[lor_test]
     rcases (hset k).1 hk with rfl|hk
     ·simp
     ·rw[I'.sub k hk];rfl
    ·intro k ok hk hok e he hb
     rw[lor_test,Bool.or_eq_true] at hk
     rw[lor_test]
     rcases hk with hk|hk
     ·rw[I'.clV k ok hk hok e he hb];rfl
     ·have:=of_decide_eq_true hk;subst this
      rw[ho] at hok;cases hok
      rw[I'.sub _ (hE e he hb)];rfl
    ·intro k hk hkl
     have hki:k≠i:=fun e=>hkl ((hset k).2 (.inl e))
     have hkl':¬Lst listed k:=fun hc=>hkl ((hset k).2 (.inr hc))
     have hkV:V'.testBit k=true:=by
      rw[lor_test,Bool.or_eq_true] at hk
      rcases hk with hk|hk
      ·exact hk
      ·exact absurd (of_decide_eq_true hk).symm hki
     obtain⟨ok,dk,vk,p1,p2,p3,p4,p5⟩:=I'.pend k hkV hkl'
     have hno:∀t,names ops.toList ok t=true->o.dst≠some t:=by
      intro t ht hd
      rcases pairs_spec hok ho hd p1 (fun e=>hki e.symm) ht with hreach|hreach
      ·have:=reach_virt I'.clV hreach hkV
       rw[this] at hV;cases hV
      ·exact hkl' (reach_listed I'.clL hreach fun o' ho'=>by rw[ho] at ho';cases ho';exact hE)
     refine⟨ok,dk,vk,p1,p2,p3,by rw[hdl2,if_neg (hno dk (dst_names p2))];exact p4,fun a' w' h6 h7=>p5 a' w' (fun t u ht hu=>h6 t u ht ?_) h7⟩
     rw[hdl2,if_neg (hno t (looks_names ht))];exact hu
    ·intro q e he hq'
     have hql:¬Lst listed q:=fun hc=>hq' ((hset q).2 (.inr hc))
     refine hkeep q e he ?_ hql
     cases hb:(((masks ops.toList)[i]?).getD 0).testBit q with
     | false=>rfl
     | true=>
      exfalso
      cases hmi:(masks ops.toList)[i]? with
      | none=>rw[hmi] at hb;simp at hb
      | some m=>
       rw[hmi] at hb
       exact hql (reach_listed I'.clL (masks_spec hmi hb) fun o' ho'=>by rw[ho] at ho';cases ho';exact hE)
    ·intro q e he;rw[lor_test,I'.flV q e he];rfl
    ·intro t u hu hno
     rw[hdl2] at hu
     cases hd:o.dst with
     | none=>
      rw[hd] at hu
      simp only[reduceCtorEq,if_false] at hu
      exact I'.agree t u hu fun k ok hk hkl hok=>hno k ok (by rw[lor_test,hk];rfl) (fun hc=>by rcases (hset k).1 hc with h|h;exact (by subst h;rw[hV] at hk;cases hk);exact hkl h) hok
     | some d=>
      rw[hd] at hu
      rw[put_get (by rw[I'.size];exact hdst i o d ho hd)]
      by_cases htd:t=d
      ·subst htd;rw[if_pos rfl] at hu ⊢;exact hu
      ·rw[if_neg htd]
       rw[if_neg (fun e=>htd (Option.some.inj e).symm)] at hu
       exact I'.agree t u hu fun k ok hk hkl hok=>hno k ok (by rw[lor_test,hk];rfl) (fun hc=>by rcases (hset k).1 hc with h|h;exact (by subst h;rw[hV] at hk;cases hk);exact hkl h) hok
    ·cases o.dst<;>simp[Act.put,I'.size]
   cases b with
   | true=>
    rw[hw,if_pos rfl]
    refine wpIn_of_wp (opE_plain (h1 rfl)) (opE_sound (fun x hx s hs=>eval_of (fun t u hxt hu=>hat t u (looks_names (operand_looks (by rw[<-hxt];exact hx))) (by rw[<-hdl];exact hu)) hs) ?_ (h1 rfl))
    intro v H' w' hk hw' hs
    subst hw'
    obtain⟨hk1,hk2⟩:=keep_spec fl' hk
    exact ih _ _ _ _ _ _ w' hcount (hinv v _ fun q e he hb _=>hk1 q e he hb) (hS.trans hs) (hZ i o ho _ _ hz) hk2
   | false=>
    rw[hw,if_neg (by simp)]
    refine⟨fun _ _=>trivial,?_⟩
    exact ih _ _ _ _ _ _ w hcount (hinv .undef _ fun q e he _ hql=>I'.keep q e he hql) hS (hZ i o ho _ _ hz) (h2 rfl)
end Go.VC
namespace Go.VC
variable {P:Program}{n:Nat}
theorem start_inv (ops:Array Oper){fr:Fr}{a:Act}{H:Heap}(hA:Agree n fr a):Inv P ops n 0 (Array.replicate ops.size false) fr a H []:=by
 have hno:∀i,¬Lst (Array.replicate ops.size false) i:=by
  intro i h
  simp only[Lst,Array.getD_eq_getD_getElem?,Array.getElem?_replicate] at h
  split at h<;>simp at h
 refine⟨by simp,fun i h=>(hno i h).elim,fun i o h=>?_,fun i o h=>(hno i h).elim,fun i h=>?_,fun q e h=>?_,fun q e h=>?_,fun t u hu _=>hA.at_ t u hu,hA.size⟩
 ·simp at h
 ·simp at h
 ·cases h
 ·cases h
theorem mem_writesOps {d:Nat}:∀(l:List Oper) (acc:List Nat),d∈writesOps l acc<->(∃o∈l,o.dst=some d)\/d∈acc
 | [],acc=>by simp[writesOps]
 | o ::r,acc=>by
  simp only[writesOps]
  rw[mem_writesOps r]
  cases hd:o.dst with
  | none=>simp[hd]
  | some x=>
   simp only[List.mem_cons,exists_eq_or_imp,hd,Option.some.injEq]
   constructor
   ·rintro (h|h|h)
    ·exact .inl (.inr h)
    ·exact .inl (.inl h.symm)
    ·exact .inr h
   ·rintro ((h|h)|h)
    ·exact .inr (.inl h.symm)
    ·exact .inl h
    ·exact .inr (.inr h)
theorem mem_writes {d:Nat}:∀(c:Code) (acc:List Nat),d∈writes c acc<->d∈writes c []\/d∈acc:=by
 intro c
 induction c with
 | region id ops dr=>intro acc;simp only[writes];rw[mem_writesOps,mem_writesOps _ []];simp
 | seq a b iha ihb=>intro acc;simp only[writes];rw[iha,ihb,iha (writes b [])];simp[or_assoc]
 | cond x a b iha ihb=>intro acc;simp only[writes];rw[iha,ihb,iha (writes b [])];simp[or_assoc]
 | block id c ih=>intro acc;simp only[writes];exact ih acc
 | loop c ih=>intro acc;simp only[writes];exact ih acc
 | scope c ih=>intro acc;simp only[writes];exact ih acc
 | rangeFunc f ps a b iha ihb=>intro acc;simp only[writes];rw[iha,ihb,iha (writes b [])];simp[or_assoc]
 | _=>intro acc;simp[writes]
def WB (n:Nat)(c:Code):Prop:=∀d∈writes c [],d<n
theorem WB.left {a b:Code}{acc:List Nat}(h:∀d∈writes a (writes b acc),d<n):WB n a:=fun d hd=>h d ((mem_writes a _).2 (.inl hd))
theorem WB.right {a b:Code}(h:∀d∈writes a (writes b []),d<n):WB n b:=fun d hd=>h d ((mem_writes a _).2 (.inr hd))
def toExit:Ex->Exit
 | .normal=>.normal
 | .exit id=>.exit id
 | .goto l=>.goto l
 | .ret=>.ret
def Rel (n:Nat)(w0:World)(Z:Act->Prop)(K:Cont)(Q:Exit->Act->World->Prop):Prop:=
 ∀e fr a w,K e fr w.heap->Agree n fr a->Same w0 w->Z a->Q (toExit e) a w
def ZC (Z:Act->Prop)(c:Code):Prop:=∀d∈writes c [],∀a v,Z a->Z (a.put (some d) v)
theorem mem_spec {k:Nat}:∀(l:List Nat),VC.mem k l=true<->k∈l
 | []=>by simp[VC.mem]
 | x ::r=>by
  simp only[VC.mem,Bool.or_eq_true,List.mem_cons,mem_spec r]
  constructor
  ·rintro (h|h)
   ·exact .inl (Nat.eq_of_beq_eq_true h)
   ·exact .inr h
  ·rintro (h|h)
   ·subst h;exact .inl (Nat.beq_refl _)
   ·exact .inr h
theorem dl_keepFr:∀(fr:Fr) (ws:List Nat) (t:Nat) (u:Value),dl (keepFr ws fr) t=some u->t∉ws/\dl fr t=some u
 | [],ws,t,u,h=>by simp[keepFr,dl,look] at h
 | (s,v) ::r,ws,t,u,h=>by
  simp only[keepFr] at h
  cases hm:VC.mem s ws with
  | true=>
   rw[hm] at h
   obtain⟨h1,h2⟩:=dl_keepFr r ws t u h
   refine⟨h1,?_⟩
   rw[dl_set,if_neg]
   ·exact h2
   ·rintro rfl;exact h1 ((mem_spec ws).1 hm)
  | false=>
   rw[hm] at h
   simp only[cond_false] at h
   rw[dl_set] at h
   by_cases hts:t=s
   ·subst hts
    rw[if_pos rfl] at h
    refine⟨fun hc=>?_,by rw[dl_set,if_pos rfl];exact h⟩
    rw[(mem_spec ws).2 hc] at hm;cases hm
   ·rw[if_neg hts] at h
    obtain⟨h1,h2⟩:=dl_keepFr r (s ::ws) t u h
    refine⟨fun hc=>h1 (List.mem_cons_of_mem _ hc),by rw[dl_set,if_neg hts];exact h2⟩
theorem allTy_use {T:Type}{dead:T}{K:Fr->T->Prop}:∀(l:List (Nat × Sl)) (fr fr0:Fr) (I:Ty T l) (a:Act),(∀t u,dl fr t=some u->a.tmps[t]?=some u)->(∀t u,dl fr0 t=some u->a.tmps[t]?=some u)->
  allTy K l fr0 I->(appTy fr dead l I=dead)\/∃fr1,(∀t u,dl fr1 t=some u->a.tmps[t]?=some u)/\K fr1 (appTy fr dead l I)
 | [],fr,fr0,I,a,h,h0,hk=>.inr ⟨fr0,h0,hk⟩
 | (t,.int k) ::r,fr,fr0,I,a,h,h0,hk=>by
  simp only[appTy]
  cases hl:look fr t with
  | none=>exact .inl rfl
  | some v=>
   cases v<;>try exact .inl rfl
   rename_i k' m
   cases hke:kindEq k k' with
   | false=>exact .inl (by simp[hke])
   | true=>
    have:=kindEq_eq hke;subst this
    simp only[hke,cond_true]
    refine allTy_use r fr _ (I m) a h (fun s u hu=>?_) (hk m)
    rw[dl_set] at hu
    by_cases e:s=t
    ·subst e;rw[if_pos rfl] at hu;exact h s u (by unfold dl;rw[hl];exact hu)
    ·rw[if_neg e] at hu;exact h0 s u hu
 | (t,.u64) ::r,fr,fr0,I,a,h,h0,hk=>by
  simp only[appTy]
  cases hl:look fr t with
  | none=>exact .inl rfl
  | some v=>
   cases v<;>try exact .inl rfl
   rename_i m
   refine allTy_use r fr _ (I m) a h (fun s u hu=>?_) (hk m)
   rw[dl_set] at hu
   by_cases e:s=t
   ·subst e;rw[if_pos rfl] at hu;exact h s u (by unfold dl;rw[hl];exact hu)
   ·rw[if_neg e] at hu;exact h0 s u hu
 | (t,.bool) ::r,fr,fr0,I,a,h,h0,hk=>by
  simp only[appTy]
  cases hl:look fr t with
  | none=>exact .inl rfl
  | some v=>
   have key:∀c:Bool,v.den=.bool c->∀s u,dl ((t,.bl c) ::fr0) s=some u->a.tmps[s]?=some u:=by
    intro c hc s u hu
    rw[dl_set] at hu
    by_cases e:s=t
    ·subst e;rw[if_pos rfl] at hu;refine h s u ?_;unfold dl;rw[hl]
     simp only[Option.map_some,hc]
     exact hu
    ·rw[if_neg e] at hu;exact h0 s u hu
   cases v<;>try exact .inl rfl
   case pr p d=>exact allTy_use r fr _ (I (decP p d)) a h (key (decP p d) rfl) (hk _)
   case bl c=>exact allTy_use r fr _ (I c) a h (key c rfl) (hk c)
   case tt=>exact allTy_use r fr _ (I true) a h (key true rfl) (hk true)
   case ff=>exact allTy_use r fr _ (I false) a h (key false rfl) (hk false)
 | (t,.slc) ::r,fr,fr0,I,a,h,h0,hk=>by
  simp only[appTy]
  cases hl:look fr t with
  | none=>exact .inl rfl
  | some v=>
   cases v<;>try exact .inl rfl
   rename_i x l c
   refine allTy_use r fr _ (I x l c) a h (fun s u hu=>?_) (hk x l c)
   rw[dl_set] at hu
   by_cases e:s=t
   ·subst e;rw[if_pos rfl] at hu;exact h s u (by unfold dl;rw[hl];exact hu)
   ·rw[if_neg e] at hu;exact h0 s u hu
 | (t,.ptr) ::r,fr,fr0,I,a,h,h0,hk=>by
  simp only[appTy]
  cases hl:look fr t with
  | none=>exact .inl rfl
  | some v=>
   cases v<;>try exact .inl rfl
   rename_i b o
   refine allTy_use r fr _ (I b o) a h (fun s u hu=>?_) (hk b o)
   rw[dl_set] at hu
   by_cases e:s=t
   ·subst e;rw[if_pos rfl] at hu;exact h s u (by unfold dl;rw[hl];exact hu)
   ·rw[if_neg e] at hu;exact h0 s u hu
 | (t,.val) ::r,fr,fr0,I,a,h,h0,hk=>by
  simp only[appTy]
  cases hl:look fr t with
  | none=>exact .inl rfl
  | some v=>
   have key:∀s u,dl ((t,.op v.den) ::fr0) s=some u->a.tmps[s]?=some u:=by
    intro s u hu
    rw[dl_set] at hu
    by_cases e:s=t
    ·subst e;rw[if_pos rfl] at hu;refine h s u ?_;unfold dl;rw[hl];exact hu
    ·rw[if_neg e] at hu;exact h0 s u hu
   cases v<;>first|exact .inl rfl|exact allTy_use r fr _ (I _) a h key (hk _)
 | (t,.agg) ::r,fr,fr0,I,a,h,h0,hk=>by
  simp only[appTy]
  cases hl:look fr t with
  | none=>exact .inl rfl
  | some v=>
   cases v<;>try exact .inl rfl
   rename_i cs
   refine allTy_use r fr _ (I cs) a h (fun s u hu=>?_) (hk cs)
   rw[dl_set] at hu
   by_cases e:s=t
   ·subst e;rw[if_pos rfl] at hu;exact h s u (by unfold dl;rw[hl];exact hu)
   ·rw[if_neg e] at hu;exact h0 s u hu
theorem appTy_pair {A B:Type}{da:A}{db:B}{fr:Fr}:∀(l:List (Nat × Sl)) (x:Ty A l) (y:Ty B l),appTy fr (da,db) l (pairTy l x y)=(appTy fr da l x,appTy fr db l y)
 | [],x,y=>rfl
 | (t,.int k) ::r,x,y=>by
  simp only[appTy]
  cases look fr t with
  | none=>rfl
  | some v=>
   cases v<;>try rfl
   rename_i k' m
   simp only
   cases kindEq k k'
   ·rfl
   ·exact appTy_pair r _ _
 | (t,.u64) ::r,x,y=>by
  simp only[appTy]
  cases look fr t with
  | none=>rfl
  | some v=>cases v<;>first|rfl|exact appTy_pair r _ _
 | (t,.bool) ::r,x,y=>by
  simp only[appTy]
  cases look fr t with
  | none=>rfl
  | some v=>cases v<;>first|rfl|exact appTy_pair r _ _
 | (t,.slc) ::r,x,y=>by
  simp only[appTy]
  cases look fr t with
  | none=>rfl
  | some v=>cases v<;>first|rfl|exact appTy_pair r _ _
 | (t,.ptr) ::r,x,y=>by
  simp only[appTy]
  cases look fr t with
  | none=>rfl
  | some v=>cases v<;>first|rfl|exact appTy_pair r _ _
 | (t,.val) ::r,x,y=>by
  simp only[appTy]
  cases look fr t with
  | none=>rfl
  | some v=>cases v<;>first|rfl|exact appTy_pair r _ _
 | (t,.agg) ::r,x,y=>by
  simp only[appTy]
  cases look fr t with
  | none=>rfl
  | some v=>cases v<;>first|rfl|exact appTy_pair r _ _
theorem ZC.left {Z:Act->Prop}{a b:Code}{acc:List Nat}(h:∀d∈writes a (writes b acc),∀x v,Z x->Z (x.put (some d) v)):ZC Z a:=fun d hd=>h d ((mem_writes a _).2 (.inl hd))
theorem ZC.right {Z:Act->Prop}{a b:Code}(h:∀d∈writes a (writes b []),∀x v,Z x->Z (x.put (some d) v)):ZC Z b:=fun d hd=>h d ((mem_writes a _).2 (.inr hd))
theorem stepR_scope {b:Frame}{a:Act}{k:List Item}{cs:List Frame}{w:World}{c:Code}:step P (lone (b.atR a (.code (.scope c) ::k)) cs w)=.next (lone (b.atR a (.code c :: .inScope c ::k)) cs w):=
 step_lone_go (by simp[stepG,stepG.exec,Frame.atR])
theorem stepR_inScope {b:Frame}{a:Act}{k:List Item}{cs:List Frame}{w:World}{c:Code}:step P (lone (b.atR a (.inScope c ::k)) cs w)=.next (lone (b.atR a k) cs w):=
 step_lone_go (by simp[stepG,stepG.exec,Frame.atR])
section
variable {F:Fence}{m:Nat}
theorem wpIn_loop_g {c:Code}{Q:Exit->Act->World->Prop}(I:Nat->Act->World->Prop)
  (round:∀j a w,I j a w->c.wpIn F m P (Exit.then (fun a' w'=>∃j',j'<j/\I j' a' w') Q) a w):∀j a w,I j a w->(Code.loop c).wpIn F m P Q a w:=by
 intro j a w h0 b k cs hro hb hr
 have key:∀j a w,I j a w->
   ∃e a' w',Q e a' w'/\ArrivesIn (Machine.fenced P F) P (lone (b.atR a (.code c :: .inLoop c ::k)) cs w) b k cs e a' w':=by
  intro j
  induction j using Nat.strongRecOn with
  | _ j ih=>
   intro a w hI
   obtain⟨e,a₁,w₁,hq,harr⟩:=round j a w hI b (.inLoop c ::k) cs hro hb hr
   cases e with
   | normal=>
    obtain⟨j',hlt,hI₁⟩:=hq
    obtain⟨e₂,a₂,w₂,hq₂,harr₂⟩:=ih j' hlt a₁ w₁ hI₁
    exact⟨e₂,a₂,w₂,hq₂,.of_steps (StepsIn.trans harr (.one (fenced_calm hb hr rfl) stepR_inLoop)) harr₂⟩
   | exit id=>exact⟨_,a₁,w₁,hq,.pass (x:=.inLoop c) rfl (fun _ _=>.inl (by simp)) harr⟩
   | goto l=>exact⟨_,a₁,w₁,hq,.pass (x:=.inLoop c) rfl (fun _ _=>.inl (by simp)) harr⟩
   | ret=>exact⟨_,a₁,w₁,hq,.pass (x:=.inLoop c) rfl (fun _ _=>.inl (by simp)) harr⟩
   | panic ch=>exact⟨_,a₁,w₁,hq,.pass (x:=.inLoop c) rfl (fun _ _=>.inl (by simp)) harr⟩
   | outgrown=>exact⟨_,a₁,w₁,hq,.pass (x:=.inLoop c) rfl (fun _ _=>.inl (by simp)) harr⟩
 obtain⟨e,a',w',hq,harr⟩:=key j a w h0
 exact⟨e,a',w',hq,.of_steps (.one (fenced_calm hb hr rfl) stepR_loop) harr⟩
theorem wpIn_scope_straight {c:Code}{Q:Exit->Act->World->Prop}{a:Act}{w:World}(h:c.wpIn F m P (Exit.noGoto Q) a w):(Code.scope c).wpIn F m P Q a w:=by
 intro b k cs hro hb hr
 have h0:(lone (b.atR a (.code (.scope c) ::k)) cs w).fenced P F:=fenced_calm hb hr rfl
 obtain⟨e,a₁,w₁,hq,harr⟩:=h b (.inScope c ::k) cs hro hb hr
 cases e with
 | normal=>exact⟨.normal,a₁,w₁,hq,.head h0 stepR_scope (StepsIn.trans harr (.one (fenced_calm hb hr rfl) stepR_inScope))⟩
 | exit id=>
  have hx:exitTo id (.inScope c ::k)=exitTo id k:=by simp[exitTo]
  exact⟨.exit id,a₁,w₁,hq,fun k' hk=>.head h0 stepR_scope (harr.1 k' (by rw[hx];exact hk)),
   fun hr' hk=>let ⟨k₁,h1,h2⟩:=harr.2 hr' (by rw[hx];exact hk);⟨k₁,h1,.head h0 stepR_scope h2⟩⟩
 | goto l=>exact hq.elim
 | ret=>exact⟨_,a₁,w₁,hq,.of_steps (.one h0 stepR_scope) harr⟩
 | panic ch=>exact⟨_,a₁,w₁,hq,.of_steps (.one h0 stepR_scope) harr⟩
 | outgrown=>exact⟨_,a₁,w₁,hq,.of_steps (.one h0 stepR_scope) harr⟩
theorem wpIn_scope_g {c rest:Code}{Q:Exit->Act->World->Prop}{a0:Act}{w0:World}(l:Nat)(J:Nat->Act->World->Prop)(hf:findLabel c l=some rest)
  (first:c.wpIn F m P (Exit.jump l (fun a w=>∃j,J j a w) Q) a0 w0)
  (pass:∀j a w,J j a w->rest.wpIn F m P (Exit.jump l (fun a' w'=>∃j',j'<j/\J j' a' w') Q) a w):(Code.scope c).wpIn F m P Q a0 w0:=by
 intro b k cs hro hb hr
 have h0:(lone (b.atR a0 (.code (.scope c) ::k)) cs w0).fenced P F:=fenced_calm hb hr rfl
 have hg:gotoIn l (.inScope c ::k)=some (.code rest :: .inScope c ::k):=by simp[gotoIn,hf]
 have hx:∀id,exitTo id (.inScope c ::k)=exitTo id k:=fun id=>by simp[exitTo]
 have key:∀n a w,J n a w->∃e a' w',Q e a' w'/\ArrivesIn (Machine.fenced P F) P (lone (b.atR a (.code rest :: .inScope c ::k)) cs w) b k cs e a' w':=by
  intro n
  induction n using Nat.strongRecOn with
  | _ n ih=>
   intro a w hJ
   obtain⟨e,a₁,w₁,hq,harr⟩:=pass n a w hJ b (.inScope c ::k) cs hro hb hr
   cases e with
   | normal=>exact⟨.normal,a₁,w₁,hq,StepsIn.trans harr (.one (fenced_calm hb hr rfl) stepR_inScope)⟩
   | exit id=>exact⟨.exit id,a₁,w₁,hq,fun k' hk=>harr.1 k' (by rw[hx];exact hk),fun hr' hk=>harr.2 hr' (by rw[hx];exact hk)⟩
   | goto l'=>
    obtain⟨rfl,m',hlt,hJ'⟩:=hq
    obtain⟨e₂,a₂,w₂,hq₂,harr₂⟩:=ih m' hlt a₁ w₁ hJ'
    exact⟨e₂,a₂,w₂,hq₂,.of_steps (harr.1 _ hg) harr₂⟩
   | ret=>exact⟨_,a₁,w₁,hq,harr⟩
   | panic ch=>exact⟨_,a₁,w₁,hq,harr⟩
   | outgrown=>exact⟨_,a₁,w₁,hq,harr⟩
 obtain⟨e,a₁,w₁,hq,harr⟩:=first b (.inScope c ::k) cs hro hb hr
 cases e with
 | normal=>exact⟨.normal,a₁,w₁,hq,.head h0 stepR_scope (StepsIn.trans harr (.one (fenced_calm hb hr rfl) stepR_inScope))⟩
 | exit id=>
  exact⟨.exit id,a₁,w₁,hq,fun k' hk=>.head h0 stepR_scope (harr.1 k' (by rw[hx];exact hk)),
   fun hr' hk=>let ⟨k₁,h1,h2⟩:=harr.2 hr' (by rw[hx];exact hk);⟨k₁,h1,.head h0 stepR_scope h2⟩⟩
 | goto l'=>
  obtain⟨rfl,j,hJ⟩:=hq
  obtain⟨e₂,a₂,w₂,hq₂,harr₂⟩:=key j a₁ w₁ hJ
  exact⟨e₂,a₂,w₂,hq₂,.of_steps (.head h0 stepR_scope (harr.1 _ hg)) harr₂⟩
 | ret=>exact⟨_,a₁,w₁,hq,.of_steps (.one h0 stepR_scope) harr⟩
 | panic ch=>exact⟨_,a₁,w₁,hq,.of_steps (.one h0 stepR_scope) harr⟩
 | outgrown=>exact⟨_,a₁,w₁,hq,.of_steps (.one h0 stepR_scope) harr⟩
end
end Go.VC
namespace Go.VC
variable {P:Program}{n:Nat}{ann:Ann}{ro:Option Nat}{rm:Nat}
structure Good (P:Program)(ro:Option Nat)(rm:Nat)(n:Nat)(ann:Ann)(w0:World)(c:Code):Prop where
 whole:∀(Z:Act->Prop) fr K a w Q,ZC Z c->exec P ann .whole c fr w.heap K->Agree n fr a->Same w0 w->Z a->Rel n w0 Z K Q->c.wpIn (wideR ro) rm P Q a w
 upto:∀(Z:Act->Prop) l fr Ku a w Q (J:Act->World->Prop),ZC Z c->exec P ann (.upto l) c fr w.heap Ku->Agree n fr a->Same w0 w->Z a->
  (∀e fr a w,e≠.normal->Ku e fr w.heap->Agree n fr a->Same w0 w->Z a->Q (toExit e) a w)->
  (∀fr a w,Ku .normal fr w.heap->Agree n fr a->Same w0 w->Z a->J a w)->
  (∀a w,J a w->Same w0 w/\Z a/\∃fr Kf,Agree n fr a/\exec P ann (.from_ l) c fr w.heap Kf/\Rel n w0 Z Kf Q)->c.wpIn (wideR ro) rm P Q a w
 from_:∀(Z:Act->Prop) l rest fr K a w Q,ZC Z c->findLabel c l=some rest->exec P ann (.from_ l) c fr w.heap K->Agree n fr a->Same w0 w->Z a->Rel n w0 Z K Q->rest.wpIn (wideR ro) rm P Q a w
theorem then_rel {w0:World}{Z:Act->Prop}{K:Cont}{Q:Exit->Act->World->Prop}{f:Fr->Heap->Prop}{next:Act->World->Prop}
  (h:Rel n w0 Z K Q) (hf:∀fr a w,f fr w.heap->Agree n fr a->Same w0 w->Z a->next a w):Rel n w0 Z (K.on f) (Exit.then next Q):=by
 intro e fr a w hk hA hS hz
 cases e with
 | normal=>exact hf fr a w hk hA hS hz
 | exit id=>exact h (.exit id) fr a w hk hA hS hz
 | goto l=>exact h (.goto l) fr a w hk hA hS hz
 | ret=>exact h .ret fr a w hk hA hS hz
theorem lies_spec {l:Nat}{c:Code}:(lies l c=true<->∃r,findLabel c l=some r):=by
 unfold lies
 cases findLabel c l<;>simp
theorem keep_agree {fr:Fr}{ws:List Nat}{a:Act}(h:∀t u,dl (keepFr ws fr) t=some u->a.tmps[t]?=some u){d:Nat}(hd:d∈ws)(v:Value) :
  ∀t u,dl (keepFr ws fr) t=some u->(a.put (some d) v).tmps[t]?=some u:=by
 intro t u hu
 have hne:t≠d:=by rintro rfl;exact (dl_keepFr fr ws t u hu).1 hd
 simp only[Act.put]
 rw[Array.getElem?_setIfInBounds_ne (fun e=>hne e.symm)]
 exact h t u hu
theorem good_seq {w0:World}{x y:Code}(hx:WB n x->Good P ro rm n ann w0 x)(hy:WB n y->Good P ro rm n ann w0 y)(hb:WB n (.seq x y)):Good P ro rm n ann w0 (.seq x y):=by
 have gx:=hx (WB.left hb)
 have gy:=hy (WB.right hb)
 refine⟨?_,?_,?_⟩
 ·intro Z fr K a w Q hZ h hA hS hz hR
  simp only[exec] at h
  split at h
  ·refine wpIn_seq (gx.whole Z _ _ _ _ _ (ZC.left hZ) h hA hS hz (then_rel hR fun fr a w hk hA hS hz=>gy.whole Z _ _ _ _ _ (ZC.right hZ) hk hA hS hz hR))
  ·rename_i l _
   obtain⟨J,h1,h2⟩:=h
   let Z':Act->Prop:=fun a'=>Z a'/\∀t u,dl (keepFr (writes x []) fr) t=some u->a'.tmps[t]?=some u
   have hZ':ZC Z' x:=fun d hd a v hz=>⟨ZC.left hZ d hd a v hz.1,keep_agree hz.2 hd v⟩
   have hz':Z' a:=⟨hz,fun t u hu=>hA.at_ t u (dl_keepFr fr _ t u hu).2⟩
   refine wpIn_seq (gx.whole Z' _ _ _ _ _ hZ' h1 hA hS hz' ?_)
   intro e fr' a' w' hk hA' hS' hz'
   cases e with
   | normal=>
    rcases allTy_use (dead:=fun _=>False) l fr' _ J a' hA'.at_ hz'.2 (h2 w'.heap) with hd|⟨fr1,hfr,hcode⟩
    ·have hk':appTy fr' (fun _=>False) l J w'.heap:=hk
     rw[hd] at hk';exact hk'.elim
    ·exact gy.whole Z _ _ _ _ _ (ZC.right hZ) (hcode hk) ⟨hA'.size,hfr⟩ hS' hz'.1 hR
   | exit id=>exact hR (.exit id) fr' a' w' hk hA' hS' hz'.1
   | goto l=>exact hR (.goto l) fr' a' w' hk hA' hS' hz'.1
   | ret=>exact hR .ret fr' a' w' hk hA' hS' hz'.1
 ·intro Z l fr Ku a w Q J hZ h hA hS hz he hn hJ
  simp only[exec] at h
  cases hl:lies l x with
  | true=>
   rw[hl] at h
   simp only[cond_true] at h
   refine wpIn_seq (gx.upto Z l _ _ _ _ _ J (ZC.left hZ) h hA hS hz ?_ hn ?_)
   ·intro e fr a w hne hk hA hS hz
    cases e with
    | normal=>exact absurd rfl hne
    | exit id=>exact he (.exit id) fr a w hne hk hA hS hz
    | goto l=>exact he (.goto l) fr a w hne hk hA hS hz
    | ret=>exact he .ret fr a w hne hk hA hS hz
   ·intro a w hj
    obtain⟨hS,hz,fr,Kf,hA,h,hR⟩:=hJ a w hj
    simp only[exec,hl,cond_true] at h
    exact⟨hS,hz,fr,_,hA,h,then_rel hR fun fr a w hk hA hS hz=>gy.whole Z _ _ _ _ _ (ZC.right hZ) hk hA hS hz hR⟩
  | false=>
   rw[hl] at h
   simp only[cond_false] at h
   refine wpIn_seq (gx.whole Z _ _ _ _ _ (ZC.left hZ) h hA hS hz ?_)
   intro e fr a w hk hA hS hz
   cases e with
   | normal=>
    refine gy.upto Z l _ _ _ _ _ J (ZC.right hZ) hk hA hS hz he hn ?_
    intro a w hj
    obtain⟨hS,hz,fr,Kf,hA,h,hR⟩:=hJ a w hj
    simp only[exec,hl,cond_false] at h
    exact⟨hS,hz,fr,Kf,hA,h,hR⟩
   | exit id=>exact he (.exit id) fr a w (by simp) hk hA hS hz
   | goto l=>exact he (.goto l) fr a w (by simp) hk hA hS hz
   | ret=>exact he .ret fr a w (by simp) hk hA hS hz
 ·intro Z l rest fr K a w Q hZ hf h hA hS hz hR
  simp only[exec] at h
  simp only[findLabel] at hf
  cases hl:findLabel x l with
  | some r=>
   rw[hl] at hf
   simp only[Option.some.injEq] at hf
   subst hf
   rw[lies_spec.2 ⟨r,hl⟩] at h
   simp only[cond_true] at h
   exact wpIn_seq (gx.from_ Z l r _ _ _ _ _ (ZC.left hZ) hl h hA hS hz (then_rel hR fun fr a w hk hA hS hz=>gy.whole Z _ _ _ _ _ (ZC.right hZ) hk hA hS hz hR))
  | none=>
   rw[hl] at hf
   have:lies l x=false:=by unfold lies;rw[hl]
   rw[this] at h
   simp only[cond_false] at h
   exact gy.from_ Z l rest _ _ _ _ _ (ZC.right hZ) hf h hA hS hz hR
theorem good_region (hm:P.follows .mixedOrders=true){w0:World}{id:Nat}{ops:Array Oper}{draw:Bool}(hb:WB n (.region id ops draw)):Good P ro rm n ann w0 (.region id ops draw):=by
 have hdst:∀o∈ops.toList,∀d,o.dst=some d->d∈writes (.region id ops draw) []:=fun o ho d hd=>(mem_writesOps _ _).2 (.inl ⟨o,ho,hd⟩)
 have hput:∀{Z:Act->Prop},ZC Z (.region id ops draw)->∀o∈ops.toList,∀a v,Z a->Z (a.put o.dst v):=by
  intro Z hZ o ho a v hz
  cases hd:o.dst with
  | none=>exact hz
  | some d=>exact hZ d (hdst o ho d hd) a v hz
 refine⟨?_,?_,?_⟩
 ·intro Z fr K a w Q hZ h hA hS hz hR
  simp only[exec] at h
  cases draw with
  | false=>
   simp only[cond_false] at h
   exact wpIn_region_list (opsE_sound (Z:=Z) (fun fr a w hk hA hS hz=>hR .normal fr a w hk hA hS hz) ops.toList fr a w (fun o ho d hd=>hb d (hdst o ho d hd)) (hput hZ) h hA hS hz)
  | true=>
   simp only[cond_true] at h
   cases hok:drawOk ops.toList with
   | false=>rw[hok] at h;exact h.elim
   | true=>
    rw[hok] at h
    simp only[cond_true] at h
    have hmem:∀(i:Nat) (o:Oper),ops[i]?=some o->o∈ops.toList:=fun i o ho=>by
     have:=Array.mem_of_getElem? ho;simpa using this
    refine wpIn_region_any hm (any_sound (Z:=Z) hok (fun i o ho=>hput hZ o (hmem i o ho)) (fun i o d ho hd=>hb d (hdst o (hmem i o ho) d hd)) (fun fr a w hk hA hS hz=>hR .normal fr a w hk hA hS hz)
     ops.size (Array.replicate ops.size false) _ 0 fr [] a { w with drawn:=w.drawn+1 } (by simp) (start_inv ops hA) (hS.trans ⟨rfl,rfl,rfl⟩) hz h)
 ·intro Z l fr Ku a w Q J hZ h
  simp only[exec] at h
 ·intro Z l rest fr K a w Q hZ hf
  simp[findLabel] at hf
theorem good_plain {w0:World}{c:Code}(hnl:∀l,findLabel c l=none)(hup:∀l fr H K,exec P ann (.upto l) c fr H K=False)
  (h:∀(Z:Act->Prop) fr K a w Q,ZC Z c->exec P ann .whole c fr w.heap K->Agree n fr a->Same w0 w->Z a->Rel n w0 Z K Q->c.wpIn (wideR ro) rm P Q a w):Good P ro rm n ann w0 c:=by
 refine⟨h,?_,?_⟩
 ·intro Z l fr Ku a w Q J hZ h
  rw[hup] at h;exact h.elim
 ·intro Z l rest fr K a w Q hZ hf
  rw[hnl] at hf;cases hf
theorem ifE_spec {fr:Fr}{c:Operand}{A B:Fr->Prop}(h:ifE fr c A B){a:Act}(hA:Agree n fr a) :
  ∃fr' b,(∀t,dl fr' t=dl fr t)/\a.eval c=.bool b/\(b=true->A fr')/\(b=false->B fr'):=by
 unfold ifE at h
 split at h
 ·rename_i hc
  exact⟨fr,true,fun _=>rfl,eval_of (fun t v _ hv=>hA.at_ t v hv) hc,fun _=>h,fun e=>by cases e⟩
 ·rename_i hc
  exact⟨fr,false,fun _=>rfl,eval_of (fun t v _ hv=>hA.at_ t v hv) hc,fun e=>(by cases e),fun _=>h⟩
 ·rename_i b hc
  split at h
  ·rename_i t
   have hl:look fr t=some (.bl b):=hc
   have he:=eval_of (a:=a) (fun t v _ hv=>hA.at_ t v hv) hc
   have hdb:∀v:SV,v.den=.bool b->∀s,dl ((t,v) ::fr) s=dl fr s:=by
    intro v hv s
    rw[dl_set]
    by_cases e:s=t
    ·subst e;rw[if_pos rfl,hv];unfold dl;rw[hl];rfl
    ·rw[if_neg e]
   cases b with
   | true=>exact⟨(t,.tt) ::fr,true,hdb .tt rfl,he,fun _=>h.1 rfl,fun e=>by cases e⟩
   | false=>exact⟨(t,.ff) ::fr,false,hdb .ff rfl,he,fun e=>(by cases e),fun _=>h.2 rfl⟩
  ·exact h.elim
 ·rename_i p d hc
  split at h
  ·rename_i t
   have hl:look fr t=some (.pr p d):=hc
   have he:=eval_of (a:=a) (fun t v _ hv=>hA.at_ t v hv) hc
   rcases Classical.em p with hp|hp
   ·exact⟨(t,.tt) ::fr,true,dl_split hl (by simp[SV.den,hp]),by rw[he];simp[SV.den,hp],fun _=>h.1 hp,fun e=>by cases e⟩
   ·exact⟨(t,.ff) ::fr,false,dl_split hl (by simp[SV.den,hp]),by rw[he];simp[SV.den,hp],fun e=>(by cases e),fun _=>h.2 hp⟩
  ·exact h.elim
 ·exact h.elim
def Head (n:Nat)(w0:World)(Z:Act->Prop)(l:List (Nat × Sl))(I:Ty (Heap->Prop) l)(μ:Ty (Heap->Nat) l)(fr0:Fr)(m:Nat)(a:Act)(w:World):Prop:=
 Same w0 w/\Z a/\(∀t u,dl fr0 t=some u->a.tmps[t]?=some u)/\∃frc,Agree n frc a/\appTy frc (fun _=>False) l I w.heap/\m=appTy frc (fun _=>0) l μ w.heap
theorem head_use {w0:World}{Z:Act->Prop}{l:List (Nat × Sl)}{I:Ty (Heap->Prop) l}{μ:Ty (Heap->Nat) l}{fr0:Fr}{m:Nat}{a:Act}{w:World}
  (hh:Head n w0 Z l I μ fr0 m a w) {K:Fr->(Heap->Prop) × (Heap->Nat)->Prop} (hk:allTy K l fr0 (pairTy l I μ)) :
  ∃fr1 J ν,Agree n fr1 a/\K fr1 (J,ν)/\J w.heap/\ν w.heap=m:=by
 obtain⟨_,_,h0,frc,hA,hI,rfl⟩:=hh
 rcases allTy_use (dead:=((fun _=>False,fun _=>0):(Heap->Prop) × (Heap->Nat))) l frc fr0 _ a hA.at_ h0 hk with hd|⟨fr1,hfr,hK⟩
 ·rw[appTy_pair] at hd
  simp only[Prod.mk.injEq] at hd
  rw[hd.1] at hI;exact hI.elim
 ·rw[appTy_pair] at hK
  exact⟨fr1,_,_,⟨hA.size,hfr⟩,hK,hI,rfl⟩
theorem good_all (hm:P.follows .mixedOrders=true)(w0:World):∀(c:Code),WB n c->Good P ro rm n ann w0 c:=by
 intro c
 induction c with
 | skip=>
  intro _
  exact good_plain (fun _=>rfl) (fun _ _ _ _=>rfl) fun Z fr K a w Q hZ h hA hS hz hR=>wpIn_skip (hR .normal fr a w h hA hS hz)
 | label l'=>
  intro _
  refine⟨fun Z fr K a w Q hZ h hA hS hz hR=>wpIn_label (hR .normal fr a w h hA hS hz),?_,?_⟩
  ·intro Z l fr Ku a w Q J hZ h hA hS hz he hn hJ
   have hj:=hn fr a w h hA hS hz
   obtain⟨hS,hz,fr2,Kf,hA2,h2,hR⟩:=hJ a w hj
   exact wpIn_label (hR .normal fr2 a w h2 hA2 hS hz)
  ·intro Z l rest fr K a w Q hZ hf h hA hS hz hR
   simp only[findLabel] at hf
   split at hf
   ·cases hf;exact wpIn_skip (hR .normal fr a w h hA hS hz)
   ·cases hf
 | exit id=>
  intro _
  exact good_plain (fun _=>rfl) (fun _ _ _ _=>rfl) fun Z fr K a w Q hZ h hA hS hz hR=>wpIn_exit (hR (.exit id) fr a w h hA hS hz)
 | goto l=>
  intro _
  exact good_plain (fun _=>rfl) (fun _ _ _ _=>rfl) fun Z fr K a w Q hZ h hA hS hz hR=>wpIn_goto (hR (.goto l) fr a w h hA hS hz)
 | ret=>
  intro _
  exact good_plain (fun _=>rfl) (fun _ _ _ _=>rfl) fun Z fr K a w Q hZ h hA hS hz hR=>wpIn_ret (hR .ret fr a w h hA hS hz)
 | region id ops draw=>intro hb;exact good_region hm hb
 | seq x y ihx ihy=>intro hb;exact good_seq ihx ihy hb
 | cond c x y ihx ihy=>
  intro hb
  refine good_plain (fun _=>rfl) (fun _ _ _ _=>rfl) fun Z fr K a w Q hZ h hA hS hz hR=>?_
  simp only[exec] at h
  obtain⟨fr',b,hdl,hev,h1,h2⟩:=ifE_spec h hA
  cases b with
  | true=>exact wpIn_cond_true hev ((ihx (WB.left hb)).whole Z fr' K a w Q (ZC.left hZ) (h1 rfl) (hA.same hdl) hS hz hR)
  | false=>exact wpIn_cond_false hev ((ihy (WB.right hb)).whole Z fr' K a w Q (ZC.right hZ) (h2 rfl) (hA.same hdl) hS hz hR)
 | block id c ih=>
  intro hb
  refine good_plain (fun _=>rfl) (fun _ _ _ _=>rfl) fun Z fr K a w Q hZ h hA hS hz hR=>?_
  simp only[exec] at h
  refine wpIn_block ((ih hb).whole Z fr _ a w _ hZ h hA hS hz ?_)
  intro e fr a w hk hA hS hz
  cases e with
  | normal=>exact hR .normal fr a w hk hA hS hz
  | exit i=>
   simp only[toExit,Exit.inBlock]
   simp only[Cont.blk] at hk
   cases hi:Nat.beq i id with
   | true=>
    rw[hi] at hk
    rw[if_pos (Nat.eq_of_beq_eq_true hi)]
    exact hR .normal fr a w hk hA hS hz
   | false=>
    rw[hi] at hk
    rw[if_neg (fun e=>by subst e;rw[Nat.beq_refl] at hi;cases hi)]
    exact hR (.exit i) fr a w hk hA hS hz
  | goto l=>exact hR (.goto l) fr a w hk hA hS hz
  | ret=>exact hR .ret fr a w hk hA hS hz
 | loop c ih=>
  intro hb
  refine good_plain (fun _=>rfl) (fun _ _ _ _=>rfl) fun Z fr K a w Q hZ h hA hS hz hR=>?_
  simp only[exec] at h
  split at h
  ·exact h.elim
  rename_i l _
  obtain⟨I,μ,hI,hround⟩:=h
  let fr0:=keepFr (writes c []) fr
  refine wpIn_loop_g (Head n w0 Z l I μ fr0) ?_ (appTy fr (fun _=>0) l μ w.heap) a w ⟨hS,hz,fun t u hu=>hA.at_ t u (dl_keepFr fr _ t u hu).2,fr,hA,hI,rfl⟩
  intro m a w hh
  obtain⟨fr1,J,ν,hA1,hK,hJ,rfl⟩:=head_use hh (hround w.heap)
  obtain⟨hS1,hz1,h01,_⟩:=hh
  let Z':Act->Prop:=fun a'=>Z a'/\∀t u,dl fr0 t=some u->a'.tmps[t]?=some u
  have hZ':ZC Z' c:=fun d hd a v hz=>⟨hZ d hd a v hz.1,keep_agree hz.2 hd v⟩
  refine (ih hb).whole Z' fr1 _ a w _ hZ' (hK hJ) hA1 hS1 ⟨hz1,h01⟩ ?_
  intro e fr' a' w' hk hA' hS' hz'
  cases e with
  | normal=>exact⟨_,hk.2,hS',hz'.1,hz'.2,fr',hA',hk.1,rfl⟩
  | exit id=>exact hR (.exit id) fr' a' w' hk hA' hS' hz'.1
  | goto l=>exact hR (.goto l) fr' a' w' hk hA' hS' hz'.1
  | ret=>exact hR .ret fr' a' w' hk hA' hS' hz'.1
 | scope c ih=>
  intro hb
  have straight:∀(Z:Act->Prop) fr K a w Q,ZC Z c->exec P ann .whole c fr w.heap (Cont.noGoto K)->Agree n fr a->Same w0 w->Z a->Rel n w0 Z K Q->(Code.scope c).wpIn (wideR ro) rm P Q a w:=by
   intro Z fr K a w Q hZ h hA hS hz hR
   refine wpIn_scope_straight ((ih hb).whole Z fr _ a w _ hZ h hA hS hz ?_)
   intro e fr a w hk hA hS hz
   cases e with
   | normal=>exact hR .normal fr a w hk hA hS hz
   | exit id=>exact hR (.exit id) fr a w hk hA hS hz
   | goto l=>exact hk.elim
   | ret=>exact hR .ret fr a w hk hA hS hz
  refine good_plain (fun _=>rfl) (fun _ _ _ _=>rfl) fun Z fr K a w Q hZ h hA hS hz hR=>?_
  simp only[exec] at h
  split at h
  ·exact straight Z fr K a w Q hZ h hA hS hz hR
  rename_i lb _
  cases hg:hasGoto lb c with
  | false=>rw[hg] at h;exact straight Z fr K a w Q hZ h hA hS hz hR
  | true=>
   rw[hg] at h
   simp only[cond_true] at h
   split at h
   ·exact h.elim
   rename_i rest hf
   split at h
   ·exact h.elim
   rename_i l _
   obtain⟨I,μ,hfirst,hround⟩:=h
   let fr0:=keepFr (writes c []) fr
   let Z':Act->Prop:=fun a'=>Z a'/\∀t u,dl fr0 t=some u->a'.tmps[t]?=some u
   have hZ':ZC Z' c:=fun d hd a v hz=>⟨hZ d hd a v hz.1,keep_agree hz.2 hd v⟩
   have hz':Z' a:=⟨hz,fun t u hu=>hA.at_ t u (dl_keepFr fr _ t u hu).2⟩
   have hrelJ:∀m,Rel n w0 Z' (K.jump lb fun fr' H'=>appTy fr' (fun _=>False) l I H'/\appTy fr' (fun _=>0) l μ H'<m)
     (Exit.jump lb (fun a' w'=>∃m',m'<m/\Head n w0 Z l I μ fr0 m' a' w') Q):=by
    intro m e fr' a' w' hk hA' hS' hz'
    cases e with
    | normal=>exact hR .normal fr' a' w' hk hA' hS' hz'.1
    | exit id=>exact hR (.exit id) fr' a' w' hk hA' hS' hz'.1
    | ret=>exact hR .ret fr' a' w' hk hA' hS' hz'.1
    | goto i=>
     simp only[Cont.jump] at hk
     cases hi:Nat.beq i lb with
     | false=>rw[hi] at hk;exact hk.elim
     | true=>
      rw[hi] at hk
      exact⟨Nat.eq_of_beq_eq_true hi,_,hk.2,hS',hz'.1,hz'.2,fr',hA',hk.1,rfl⟩
   have hpass:∀m a w,Head n w0 Z l I μ fr0 m a w->rest.wpIn (wideR ro) rm P (Exit.jump lb (fun a' w'=>∃m',m'<m/\Head n w0 Z l I μ fr0 m' a' w') Q) a w:=by
    intro m a w hh
    obtain⟨fr1,J,ν,hA1,hK,hJ,rfl⟩:=head_use hh (hround w.heap)
    obtain⟨hS1,hz1,h01,_⟩:=hh
    exact (ih hb).from_ Z' lb rest fr1 _ a w _ hZ' hf (hK hJ) hA1 hS1 ⟨hz1,h01⟩ (hrelJ _)
   refine wpIn_scope_g lb (Head n w0 Z l I μ fr0) hf ?_ hpass
   refine (ih hb).upto Z' lb fr _ a w _ (fun a w=>∃m,Head n w0 Z l I μ fr0 m a w) hZ' hfirst hA hS hz' ?_ ?_ ?_
   ·intro e fr' a' w' hne hk hA' hS' hz'
    cases e with
    | normal=>exact absurd rfl hne
    | exit id=>exact hR (.exit id) fr' a' w' hk hA' hS' hz'.1
    | goto i=>exact hk.elim
    | ret=>exact hR .ret fr' a' w' hk hA' hS' hz'.1
   ·intro fr' a' w' hk hA' hS' hz'
    exact⟨_,hS',hz'.1,hz'.2,fr',hA',hk,rfl⟩
   ·rintro a' w' ⟨m,hh⟩
    obtain⟨fr1,J,ν,hA1,hK,hJ,rfl⟩:=head_use hh (hround w'.heap)
    obtain⟨hS1,hz1,h01,_⟩:=hh
    refine⟨hS1,⟨hz1,h01⟩,fr1,_,hA1,hK hJ,?_⟩
    intro e fr2 a2 w2 hk hA2 hS2 hz2
    have:=hrelJ _ e fr2 a2 w2 hk hA2 hS2 hz2
    cases e with
    | goto i=>exact⟨this.1,let ⟨m',_,h⟩:=this.2;⟨m',h⟩⟩
    | normal=>exact this
    | exit id=>exact this
    | ret=>exact this
 | rangeFunc f ps x y ihx ihy=>
  intro _
  exact good_plain (fun _=>rfl) (fun _ _ _ _=>rfl) fun Z fr K a w Q hZ h=>h.elim
 | refuse why=>
  intro _
  exact good_plain (fun _=>rfl) (fun _ _ _ _=>rfl) fun Z fr K a w Q hZ h=>h.elim
theorem dl_append (fr gr:Fr)(t:Nat):dl (fr++gr) t=(match dl fr t with|some v=>some v|none=>dl gr t):=by
 induction fr with
 | nil=>simp[dl,look]
 | cons x r ih=>
  obtain⟨s,v⟩:=x
  rw[List.cons_append,dl_set,dl_set]
  by_cases h:t=s
  ·simp[h]
  ·simp[h,ih]
theorem entry_dl:∀(l:List SV) (i t:Nat) (u:Value),dl (entry i l) t=some u->i<=t/\(denL l)[t-i]?=some u
 | [],i,t,u,h=>by simp[entry,dl,look] at h
 | v ::r,i,t,u,h=>by
  simp only[entry] at h
  rw[dl_append] at h
  cases h1:dl (entry (i+1) r) t with
  | some u'=>
   rw[h1] at h
   simp only[Option.some.injEq] at h
   subst h
   obtain⟨h2,h3⟩:=entry_dl r (i+1) t u' h1
   refine⟨by omega,?_⟩
   rw[show t-i=(t-(i+1))+1 from by omega]
   simpa [denL] using h3
  | none=>
   rw[h1] at h
   simp only at h
   rw[dl_set] at h
   by_cases e:t=i
   ·subst e;rw[if_pos rfl] at h;simpa [denL] using h
   ·rw[if_neg e] at h;simp[dl,look] at h
theorem denL_length:∀l:List SV,(denL l).length=l.length
 | []=>rfl
 | _ ::r=>by simp[denL,denL_length r]
def resOne (tmps:Array Value):ResultVar->Sem Value
 | .tmp t=>pure (tmps.getD t undef)
 | .cell x t=>do loadVar t (<-asAddr (tmps.getD x undef))
theorem loadQ_run {t:TypeId}{b off:Nat}{H:Heap}{K:SV->Prop}(h:stepQ P (loadQ P t b off) H K):∃v,K v/\∀w:World,w.heap=H->(loadVar t ⟨b,off,none⟩).run P w=.ok v.den w:=by
 have e : qOp P ⟨none, .load t (.tmp 0), 0, "", #[], none⟩ [(0, .ptr b off)] = loadQ P t b off := rfl
 rw[<-e] at h
 obtain⟨v,hk,hE,hq⟩:=quiet_sound h
 refine⟨v,hk,fun w hw=>?_⟩
 subst hw
 have:=hq (fun _=>.pointer (some ⟨b,off,none⟩)) w (fun x hx s hs=>by
  simp only[Op.operands] at hx
  have:x=.tmp 0:=by simpa using hx
  subst this
  have:s=.ptr b off:=by
   have h2:some (SV.ptr b off)=some s:=hs
   exact (Option.some.inj h2).symm
  subst this;rfl) hE
 simp only[execOp,Instr.loadAt,Instr.sureAddr,Sem.run_bind,Sem.run_pure,Result.andThen_ok] at this
 cases hr:(loadVar t ⟨b,off,none⟩).run P w with
 | ok u w'=>
  rw[hr] at this
  simp only[Result.andThen_ok,Result.ok.injEq,Next.value.injEq] at this
  rw[this.1,this.2]
 | halt x w'=>rw[hr] at this;simp at this
theorem resultsE_spec {a:Act}{w:World}{fr:Fr}(hA:∀t u,dl fr t=some u->a.tmps[t]?=some u):∀(rs:List ResultVar) (acc:List Value) (K:List Value->Prop),resultsE P rs acc fr w.heap K->
  ∃vs:List Value,K (acc++vs)/\(rs.mapM (resOne a.tmps)).run P w=.ok vs w
 | [],acc,K,h=>⟨[],by rw[List.append_nil];exact h,by simp⟩
 | .tmp t ::r,acc,K,h=>by
  simp only[resultsE] at h
  split at h
  ·rename_i v hv
   obtain⟨vs,hk,hr⟩:=resultsE_spec hA r _ K h
   have ht:=hA t v.den (by unfold dl;rw[hv];rfl)
   refine⟨v.den ::vs,by simpa using hk,?_⟩
   rw[List.mapM_cons]
   simp only[resOne,Sem.run_bind,Sem.run_pure,Result.andThen_ok,hr]
   rw[Array.getD_eq_getD_getElem?,ht];rfl
  ·exact h.elim
 | .cell x t ::r,acc,K,h=>by
  simp only[resultsE] at h
  split at h
  ·rename_i b off hv
   have ht:=hA x (.pointer (some ⟨b,off,none⟩)) (by unfold dl;rw[hv];rfl)
   obtain⟨v,h,hrun⟩:=loadQ_run h
   obtain⟨vs,hk,hr⟩:=resultsE_spec hA r _ K h
   refine⟨v.den ::vs,by simpa using hk,?_⟩
   have hg:a.tmps.getD x undef=.pointer (some ⟨b,off,none⟩):=by rw[Array.getD_eq_getD_getElem?,ht];rfl
   rw[List.mapM_cons]
   simp only[resOne,hg,asAddr,Sem.run_bind,Sem.run_pure,Result.andThen_ok,hrun w rfl,hr]
  ·exact h.elim
theorem results_run {fn:Func}{a:Act}{w:World}{vs:List Value}(h:(fn.results.toList.mapM (resOne a.tmps)).run P w=.ok vs w):(results fn a.tmps).run P w=.ok (oneOrTuple vs) w:=by
 have hm:(fn.results.mapM (resOne a.tmps)).run P w=.ok vs.toArray w:=by
  rw[Array.mapM_eq_mapM_toList]
  simp only[Sem.run_map,h,Result.andThen_ok]
 have e:results fn a.tmps=(do let vs <-fn.results.mapM (resOne a.tmps);pure (if h:vs.size=1 then vs[0] else .tuple vs)):=by
  unfold results
  congr 1
 rw[e]
 simp only[Sem.run_bind,hm,Result.andThen_ok,Sem.run_pure]
 congr 1
 match vs with
 | []=>rfl
 | [v]=>rfl
 | u ::v ::r=>simp[oneOrTuple]
def vcOk (P:Program)(f:FuncId)(k:Nat):Bool:=
 match P.funcs[f]? with
 | some fn=>match fn.body with
  | some c=>Nat.ble k fn.ntmps && (writes c []).all fun d=>Nat.blt d fn.ntmps
  | none=>false
 | none=>false
theorem vc_sound (hm:P.follows .mixedOrders=true)(ann:Ann){f:FuncId}(args:List SV){H:Heap}{R:Value->Heap->Prop}
  (hok:vcOk P f args.length=true) (h:vc P ann f args H R):Runs P f (denL args) H R:=by
 intro w hw
 subst hw
 unfold vc at h
 unfold vcOk at hok
 split at h
 case h_2=>exact h.elim
 rename_i fn hfn
 split at h
 case h_2=>exact h.elim
 rename_i c hc
 rw[hfn] at hok
 simp only[hc,Bool.and_eq_true] at hok
 have hle:=Nat.le_of_ble_eq_true hok.1
 have hwb:WB fn.ntmps c:=fun d hd=>by
  have:=List.all_eq_true.1 hok.2 d hd
  rwa [Nat.blt_eq] at this
 refine calls_of_wp hfn hc ?_
 refine (wpIn_wide (n:=0)).1 ?_
 have hsz:((denL args).toArray++Array.replicate (fn.ntmps-(denL args).toArray.size) undef).size=fn.ntmps:=by
  simp[denL_length];omega
 refine (good_all (ro:=none) (rm:=0) hm w c hwb).whole (fun a=>a.defers=[]) (entry 0 args) _ _ w _ (fun _ _ _ _ h=>h) h ⟨hsz,fun t u hu=>?_⟩ (Same.refl w) rfl ?_
 ·obtain⟨_,h2⟩:=entry_dl args 0 t u hu
  rw[Nat.sub_zero] at h2
  have hlt:=(List.getElem?_eq_some_iff.1 h2).1
  rw[Array.getElem?_append_left (by simpa using hlt)]
  simpa using h2
 ·intro e fr a w' hk hA hS hz
  have key:resultsE P fn.results.toList [] fr w'.heap (fun vs=>R (oneOrTuple vs) w'.heap)->a.defers=[]/\∃v,(results fn a.tmps).run P w'=.ok v w'/\∃u,Ending.returned v=.returned u/\R u w'.heap/\w'.tape=w.tape/\w'.os=w.os/\w'.output=w.output:=by
   intro hk
   obtain⟨vs,hR,hr⟩:=resultsE_spec hA.at_ _ [] _ hk
   exact⟨hz,_,results_run hr,_,rfl,by simpa using hR,hS⟩
  cases e with
  | normal=>
   obtain⟨h1,v,h2,h3⟩:=key hk
   exact bodyPost_end h2 h1 h3
  | ret=>
   obtain⟨h1,v,h2,h3⟩:=key hk
   exact bodyPost_ret h2 h1 h3
  | exit id=>exact hk.elim
  | goto l=>exact hk.elim
end Go.VC
namespace Go.VC
open Go.Proofs
variable {H:Heap}{R:Value->Heap->Prop}
theorem mixed:Tryz.prog.follows .mixedOrders=true:=by kernel_rfl
abbrev Ru (f:FuncId)(args:List Value)(H:Heap)(R:Value->Heap->Prop):Prop:=Runs Tryz.prog f args H R
def nn:Ann:=⟨fun _=>none,fun _=>none⟩
theorem vcr0 {P:Program}(hm:P.follows .mixedOrders=true)(ann:Ann){f:FuncId}(args:List SV){H:Heap}{R:Value->Heap->Prop}{F:Prop}(hok:vcOk P f args.length=true)(he:vc P ann f args H R=F)(h:F):Runs P f (denL args) H R:=vc_sound hm ann args hok (he ▸ h)
theorem vcr (ann:Ann){f:FuncId}(args:List SV){H:Heap}{R:Value->Heap->Prop}{F:Prop}(h:F)(hok:vcOk Tryz.prog f args.length=true:=by kernel_rfl)(he:vc Tryz.prog ann f args H R=F:=by kernel_rfl):Runs Tryz.prog f (denL args) H R:=vcr0 mixed ann args hok he h
end Go.VC
