/- Texts that the claim rests on: VWords, VProg, HLib, CMeter, CArena, PProg, CNest, CRowL, CMatch, COp, CLook, CReads, CForm, PSize. No condition. -/
import Derived.ChangeArms
import Derived.OpenShut
import Derived.ProofKit
import Derived.Test.YthenlgnbegeliaaGreatRows
import Derived.WalkKit
import Derived.WideKeyArgs
import Derived.Test.YthenlgnbegeliaaGreatM01
set_option linter.unusedVariables false
namespace Go.VC
open Go Go.Proofs
set_option maxRecDepth 100000
variable {H:Heap}{R:Value->Heap->Prop}
theorem v49 (x0:List Value)(h:∀H' p,New H x0 27 H' p->∃cs:List Value,cs.length=9/\RdL H' p 0 cs/\Ru 105 [.agg cs.toArray] H' fun r H'=>∃v n,r=.tuple #[v,.i n]/\(¬n=0->R (.tuple #[.pointer none,.i n]) H')/\(¬¬n=0->∃n,rd H' p 8=some (.i n)/\Ru 106 [.i n] H' fun r H'=>∃v_1 n,r=.tuple #[v_1,.i n]/\∃b o,v=.p b o/\One v_1/\WOk H' b (o+14) 1/\∀H'_1,H'_1=wr H' b (o+14) v_1->∃n,rd H'_1 p 8=some (.i n)/\Ru 107 [.i n] H'_1 fun r H'=>∃v_2 n,r=.tuple #[v_2,.i n]/\∃b o,v=.p b o/\One v_2/\WOk H' b (o+16) 1/\∀H'_2,H'_2=wr H' b (o+16) v_2->∃b o,v=.p b o/\∃v_3,rd H'_2 b (o+16)=some v_3/\∃b o,v=.p b o/\∃n,rd H'_2 b o=some (.i n)/\Ru 108 [v_3,.i n] H'_2 fun r H'=>∃n,r=.i n/\∃b o,v=.p b o/\∃v_4,rd H' b (o+14)=some v_4/\∃b o,v=.p b o/\∃a l c,rd H' b (o+13)=some (.slice a l c)/\∃b o,At a b o/\((0:Int)<=(8:Int)/\(8:Int)<(↑l:Int))/\∃n,rd H' b (o+8)=some (.i n)/\Ru 109 [v_4,.i n] H' fun r H'=>∃n n_1,r=.tuple #[.i n,.i n_1]/\Ru 110 [v] H' fun r H'=>∃c,r=.bool c/\(c=true->∃b o,v=.p b o/\∃v_5,rd H' b (o+14)=some v_5/\∃b o,v=.p b o/\∃n,rd H' b (o+3)=some (.i n)/\∃b o,v=.p b o/\∃n_2,rd H' b (o+2)=some (.i n_2)/\I64 (n*n_2)/\Ru 109 [v_5,.i (n*n_2)] H' fun r H'=>∃n n_3,r=.tuple #[.i n,.i n_3]/\∃a l c,rd H' p 2=some (.slice a l c)/\Ru 112 [v,.i 0,.slice a l c] H' fun r H'=>∃a l c,rd H' p 1=some (.slice a l c)/\Ru 112 [v,.i 1,.slice a l c] H' fun r H'=>R (.tuple #[v,.i 0]) H')/\(c=false->∃b o,v=.p b o/\∃v_5,rd H' b (o+14)=some v_5/\∃b o,v=.p b o/\∃n,rd H' b (o+3)=some (.i n)/\∃a l c,rd H' p 1=some (.slice a l c)/\Ru 111 [v_5,.i n,.i (↑l:Int)] H' fun r H'=>∃v_6 n,r=.tuple #[v_6,.i n]/\∃b o,v=.p b o/\One v_6/\WOk H' b (o+15) 1/\∀H'_3,H'_3=wr H' b (o+15) v_6->∃a l c,rd H'_3 p 2=some (.slice a l c)/\Ru 112 [v,.i 0,.slice a l c] H'_3 fun r H'=>∃a l c,rd H' p 1=some (.slice a l c)/\Ru 112 [v,.i 1,.slice a l c] H' fun r H'=>R (.tuple #[v,.i 0]) H'))):Ru 49 [.agg x0.toArray] H R:=vcr nn [.agg x0] h
theorem v53 (x0 o0:Nat)(x1:List Value)(h:∀H' p,New H x1 39 H' p->Ru 110 [.p x0 o0] H' fun r H'=>∃c,r=.bool c/\(c=true->∃cs:List Value,cs.length=2/\RdL H' p 0 cs/\Ru 116 [.p x0 o0,.agg cs.toArray] H' fun r H'=>∃n,r=.i n/\R (.i n) H')/\(c=false->∃n,rd H' x0 (o0+17)=some (.i n)/\Ru 57 [.p x0 o0] H' fun r H'=>∃cs:List Value,cs.length=3/\r=.agg cs.toArray/\rd H' x0 (o0+17)=some (.i n)/\Ru 117 [.i n,.agg cs.toArray] H' fun r H'=>∃v n,r=.tuple #[v,.i n]/\(¬n=0->R (.int .i64 n) H')/\(¬¬n=0->∃cs:List Value,cs.length=2/\RdL H' p 0 cs/\Ru 34 [v,.agg cs.toArray] H' fun r H'=>∃n,r=.i n/\(¬n=0->R (.i n) H')/\(¬¬n=0->∃n,rd H' p 0=some (.i n)/\∃n_1,rd H' p 1=some (.i n_1)/\Ru 118 [.p x0 o0] H' fun r H'=>∃cs:List Value,cs.length=8/\r=.agg cs.toArray/\rd H' p 1=some (.i n_1)/\rd H' p 0=some (.i n)/\((0:Int)<=n/\n<(8:Int))/\∃v_1,cs[n.toNat*1]?=some v_1/\∃g u v_2,v_1=.func (.func g) u v_2/\callable Tryz.prog g=true/\Ru g (Array.toList u++[.i n_1]++Array.toList v_2) H' fun r H'=>Ru 119 [v] H' fun r H'=>∃cs:List Value,cs.length=3/\r=.agg cs.toArray/\∀H'_1 p,New H' [.i 0,.i 0,.slice none 0 0] 48 H'_1 p->cs.length=3/\(∀v∈cs,One v)/\WOk H'_1 p 0 3/\∀H',H'=wrL H'_1 p 0 cs->∃n,rd H' p 0=some (.i n)/\∃n_2,rd H' p 1=some (.i n_2)/\WOk H' x0 (o0+18) 1/\∀H'_2,H'_2=wr H' x0 (o0+18) (.i n)->rd H'_2 p 1=some (.i n_2)/\WOk H'_2 x0 (o0+19) 1/\∀H',H'=wr H'_2 x0 (o0+19) (.i n_2)->R (.i 0) H')))):Ru 53 [.p x0 o0,.agg x1.toArray] H R:=vcr nn [.ptr x0 o0,.agg x1] h
theorem v55 (x0 o0:Nat)(h:∃n,rd H x0 (o0+17)=some (.i n)/\R (.i n) H):Ru 55 [.p x0 o0] H R:=vcr nn [.ptr x0 o0] h
theorem v56 (x0 o0:Nat)(h:∃n,rd H x0 (o0+4)=some (.i n)/\(¬n=2->R (.i 19) H)/\(¬¬n=2->∃n,rd H x0 (o0+19)=some (.i n)/\((0:Int)<=n->R (.i 19) H)/\(¬(0:Int)<=n->∃n,rd H x0 (o0+17)=some (.i n)/\(n=65535->R (.i 14) H)/\(¬n=65535->∃n,rd H x0 (o0+17)=some (.i n)/\I64 (n+(1:Int))/\WOk H x0 (o0+17) 1/\∀H',H'=wr H x0 (o0+17) (.i (n+(1:Int)))->R (.i 0) H')))):Ru 56 [.p x0 o0] H R:=vcr nn [.ptr x0 o0] h
theorem v57 (x0 o0:Nat)(h:∀H' p,New H [.i 0,.i 0,.slice none 0 0] 48 H' p->∃n,rd H' x0 (o0+18)=some (.i n)/\∃n_1,rd H' x0 (o0+19)=some (.i n_1)/\∃v,rd H' x0 (o0+15)=some v/\Ru 120 [v] H' fun r H'=>∃a l c,r=.slice a l c/\rd H' x0 (o0+19)=some (.i n_1)/\rd H' x0 (o0+18)=some (.i n)/\List.length (α:=Value) [.i n,.i n_1,.slice a l c]=3/\(∀v∈[.i n,.i n_1,.slice a l c],One v)/\WOk H' p 0 3/\∀H'_1,H'_1=wrL H' p 0 [.i n,.i n_1,.slice a l c]->∃cs:List Value,cs.length=3/\RdL H'_1 p 0 cs/\R (.agg (List.toArray cs)) H'_1):Ru 57 [.p x0 o0] H R:=vcr nn [.ptr x0 o0] h
theorem v58 (x0 o0:Nat)(h:∀H' p,New H [.int .u64 0,.slice none 0 0,.slice none 0 0] 53 H' p->∃n,rd H' x0 (o0+19)=some (.i n)/\(¬n=0->3=3/\(∀(v:Value),v∈[.int .u64 0,.slice none 0 0,.slice none 0 0]->One v)/\WOk H' p 0 3/\∀H'_1,H'_1=wrL H' p 0 [.int .u64 0,.slice none 0 0,.slice none 0 0]->∃cs:List Value,cs.length=3/\RdL H'_1 p 0 cs/\R (.tuple #[.agg cs.toArray,.i 19]) H'_1)/\(¬¬n=(0:Int)->∃x,rd H' x0 (o0+24)=some (.u x)/\Ru 121 [.p x0 o0,.i 5] H' fun r H'=>∃a l c,r=.slice a l c/\rd H' x0 (o0+24)=some (.int .u64 (↑(UInt64.toNat x):Int))/\Ru 121 [.p x0 o0,.i 6] H' fun r H'=>∃a_1 l_1 c_1,r=.slice a_1 l_1 c_1/\rd H' x0 (o0+24)=some (.u x)/\List.length (α:=Value) [.u x,.slice a l c,.slice a_1 l_1 c_1]=3/\(∀v∈[.u x,.slice a l c,.slice a_1 l_1 c_1],One v)/\WOk H' p 0 3/\∀H'_1,H'_1=wrL H' p 0 [.u x,.slice a l c,.slice a_1 l_1 c_1]->∃cs:List Value,cs.length=3/\RdL H'_1 p 0 cs/\R (.tuple #[.agg cs.toArray,.i 0]) H'_1)):Ru 58 [.p x0 o0] H R:=vcr nn [.ptr x0 o0] h
theorem v87 (x0 o0:Nat)(h:∀H' p,New H [.i 0,.i 0,.i 0,.i 0] 64 H' p->∃cs:List Value,cs.length=4/\RdL H' x0 (o0+20) cs/\cs.length=4/\(∀v∈cs,One v)/\WOk H' p 0 4/\∀H'_1,H'_1=wrL H' p 0 cs->∃cs:List Value,cs.length=4/\RdL H'_1 p 0 cs/\R (.agg cs.toArray) H'_1):Ru 87 [.p x0 o0] H R:=vcr nn [.ptr x0 o0] h
theorem v105 (x0:List Value)(h:∀H' p,New H x0 27 H' p->∃cs:List Value,cs.length=9/\RdL H' p 0 cs/\Ru 8 [.agg cs.toArray] H' fun r H'=>∃cs:List Value,cs.length=4/\∃n,r=.tuple #[.agg cs.toArray,.i n]/\∀H'_1 p_1,New H' [.i 0,.i 0,.i 0,.i 0] 30 H'_1 p_1->cs.length=4/\(∀v∈cs,One v)/\WOk H'_1 p_1 0 4/\∀H',H'=wrL H'_1 p_1 0 cs->(¬n=0->R (.tuple #[.pointer none,.i n]) H')/\(¬¬n=0->∃cs:List Value,cs.length=9/\RdL H' p 0 cs/\∀H'_2 p_2,New H' [.i 0,.slice none 0 0,.slice none 0 0,.i 0,.slice none 0 0,.i 0,.slice none 0 0,.i 0,.i 0] 27 H'_2 p_2->cs.length=9/\(∀v∈cs,One v)/\WOk H'_2 p_2 0 9/\∀H',H'=wrL H'_2 p_2 0 cs->∃a l c,rd H' p 4=some (.slice a l c)/\∃a_1 l_1 c_1,rd H' p 6=some (.slice a_1 l_1 c_1)/\Ru 68 [.slice a l c] H' fun r H'=>∃a l c,r=.slice a l c/\rd H' p 6=some (.slice a_1 l_1 c_1)/\Ru 68 [.slice a_1 l_1 c_1] H' fun r H'=>∃a_2 l_2 c_2,r=.slice a_2 l_2 c_2/\WOk H' p_2 4 1/\∀H'_3,H'_3=wr H' p_2 4 (.slice a l c)->WOk H'_3 p_2 6 1/\∀H',H'=wr H'_3 p_2 6 (.slice a_2 l_2 c_2)->∃a l c,rd H' p 1=some (.slice a l c)/\∃a_3 l_3 c_3,rd H' p 2=some (.slice a_3 l_3 c_3)/\Ru 69 [.slice a l c] H' fun r H'=>∃a l c,r=.slice a l c/\rd H' p 2=some (.slice a_3 l_3 c_3)/\Ru 69 [.slice a_3 l_3 c_3] H' fun r H'=>∃a_4 l_4 c_4,r=.slice a_4 l_4 c_4/\WOk H' p_2 1 1/\∀H'_4,H'_4=wr H' p_2 1 (.slice a l c)->WOk H'_4 p_2 2 1/\∀H',H'=wr H'_4 p_2 2 (.slice a_4 l_4 c_4)->∃cs:List Value,cs.length=4/\RdL H' p_1 0 cs/\∃cs_1:List Value,cs_1.length=9/\RdL H' p_2 0 cs_1/\∃n,rd H' p 7=some (.i n)/\(cs.length=4/\cs_1.length=9)/\∀H'_5 p_3,New H' (List.set (List.set (List.take 4 (cs++[.i 0,.slice none 0 0,.slice none 0 0,.i 0,.slice none 0 0,.i 0,.slice none 0 0,.i 0,.i 0,.slice none 0 0,.pointer none,.pointer none,.pointer none,.i 0,.i 0,.i 0,.i 0,.i 0,.i 0,.i 0,.int .u64 0])++cs_1++List.drop 13 (cs++[.i 0,.slice none 0 0,.slice none 0 0,.i 0,.slice none 0 0,.i 0,.slice none 0 0,.i 0,.i 0,.slice none 0 0,.pointer none,.pointer none,.pointer none,.i 0,.i 0,.i 0,.i 0,.i 0,.i 0,.i 0,.int .u64 0])) 17 (.i n)) 19 (.i (-1))) 183 H'_5 p_3->∃cs:List Value,cs.length=9/\RdL H'_5 p 0 cs/\Ru 169 [.agg cs.toArray] H'_5 fun r H'=>∃a l c n,r=.tuple #[.slice a l c,.i n]/\WOk H' p_3 13 1/\∀H'_6,H'_6=wr H' p_3 13 (.slice a l c)->R (.tuple #[.p p_3 0,.i 0]) H'_6)):Ru 105 [.agg x0.toArray] H R:=vcr nn [.agg x0] h
theorem v106 (x0:Int)(h:Ru 170 [.i x0] H fun r H'=>∃n,r=.i n/\(¬n=0->R (.tuple #[.pointer none,.i n]) H')/\(¬¬n=0->((0:Int)<=x0/\x0<=x0/\(8:Int)*x0<=(281474976710656:Int)/\I64 x0)/\∀H'_1 q,New H' (rep (x0.toNat) [.int .u64 0]) 51 H'_1 q->∀H' p,New H'_1 [.slice (some ⟨q,0,none⟩) (x0.toNat) (x0.toNat),.i 0] 242 H' p->R (.tuple #[.p p 0,.i 0]) H')):Ru 106 [.i x0] H R:=vcr nn [.int .i64 x0] h
theorem v107 (x0:Int)(h:Ru 171 [.i x0,.i 0,.i 0] H fun r H'=>∃v n,r=.tuple #[v,.i n]/\R (.tuple #[v,.i n]) H'):Ru 107 [.i x0] H R:=vcr nn [.int .i64 x0] h
theorem v108 (x0 o0:Nat)(x1:Int)(h:(x1<(0:Int)->R (.i 2) H)/\(¬x1<(0:Int)->∃n,rd H x0 (o0+2)=some (.i n)/\Ru 172 [.p x0 o0,.i x1,.i n] H fun r H'=>∃c,r=.bool c/\((!c)=true->R (.i 15) H')/\((!c)=false->Ru 173 [.p x0 o0,.i x1] H' fun r H'=>R (.i 0) H'))):Ru 108 [.p x0 o0,.i x1] H R:=vcr nn [.ptr x0 o0,.int .i64 x1] h
theorem v109 (x0 o0:Nat)(x1:Int)(h:(x1<(0:Int)->R (.tuple #[.i 0,.i 2]) H)/\(¬x1<(0:Int)->Ru 174 [.p x0 o0] H fun r H'=>∃n,r=.i n/\(n<x1->R (.tuple #[.i 0,.i 15]) H')/\(¬n<x1->∃n,rd H' x0 (o0+1)=some (.i n)/\∃n_1,rd H' x0 (o0+1)=some (.i n_1)/\I64 (n_1+x1)/\WOk H' x0 (o0+1) 1/\∀H'_1,H'_1=wr H' x0 (o0+1) (.i (n_1+x1))->R (.tuple #[.int .i64 n,.i 0]) H'_1))):Ru 109 [.p x0 o0,.i x1] H R:=vcr nn [.ptr x0 o0,.int .i64 x1] h
theorem v110 (x0 o0:Nat)(h:∃n,rd H x0 (o0+4)=some (.i n)/\R (.bool (decide (n=3))) H):Ru 110 [.p x0 o0] H R:=vcr nn [.ptr x0 o0] h
theorem v111 (x0 o0:Nat)(x1:Int)(x2:Int)(h:∀H' p,New H [.i 0,.i 0,.i 0] 250 H' p->List.length (α:=Value) [.i 0,.i x1,.i x2]=3/\(∀v∈[.i 0,.i x1,.i x2],One v)/\WOk H' p 0 3/\∀H'_1,H'_1=wrL H' p 0 [.i 0,.i x1,.i x2]->∃cs:List Value,cs.length=3/\RdL H'_1 p 0 cs/\Ru 175 [.agg cs.toArray] H'_1 fun r H'=>∃c,r=.bool c/\((!c)=true->R (.tuple #[.pointer none,.i 2]) H')/\((!c)=false->∃cs:List Value,cs.length=3/\RdL H' p 0 cs/\Ru 176 [.agg cs.toArray] H' fun r H'=>∃n,r=.i n/\I64 (x1*n)/\Ru 109 [.p x0 o0,.i (x1*n)] H' fun r H'=>∃n n_1,r=.tuple #[.i n,.i n_1]/\(¬n_1=0->R (.tuple #[.pointer none,.i n_1]) H')/\(¬¬n_1=0->WOk H' p 0 1/\∀H'_2,H'_2=wr H' p 0 (.i n)->∃cs:List Value,cs.length=3/\RdL H'_2 p 0 cs/\Ru 176 [.agg cs.toArray] H'_2 fun r H'=>∃n_2,r=.i n_2/\I64 (x1*n_2)/\((0:Int)<=x1*n_2/\x1*n_2<=x1*n_2/\(8:Int)*(x1*n_2)<=(281474976710656:Int)/\I64 (x1*n_2))/\∀H'_3 q,New H' (rep (Int.toNat (x1*n_2)) [.int .u64 0]) 51 H'_3 q->Ru 177 [.p x0 o0,.i n,.slice (some ⟨q,0,none⟩) (Int.toNat (x1*n_2)) (Int.toNat (x1*n_2))] H'_3 fun r H'=>∃n,r=.i n/\∃cs:List Value,cs.length=3/\RdL H' p 0 cs/\cs.length=3/\∀H'_4 p,New H' (List.set (cs++[.pointer none]) 3 (.p x0 o0)) 252 H'_4 p->R (.tuple #[.p p 0,.i 0]) H'_4))):Ru 111 [.p x0 o0,.i x1,.i x2] H R:=vcr nn [.ptr x0 o0,.int .i64 x1,.int .i64 x2] h
theorem v112 (x0 o0:Nat)(x1:Int)(x2:Option Addr)(l2 c2:Nat)(h:∃v,rd H x0 (o0+14)=some v/\∃a l c,rd H x0 (o0+13)=some (.slice a l c)/\∃b o,At a b o/\((0:Int)<=x1/\x1<(↑l:Int))/\∃n,rd H b (o+x1.toNat)=some (.i n)/\Ru 177 [v,.i n,.slice x2 l2 c2] H fun r H'=>∃n,r=.i n/\R (.tuple #[]) H'):Ru 112 [.p x0 o0,.i x1,.slice x2 l2 c2] H R:=vcr nn [.ptr x0 o0,.int .i64 x1,.slc x2 l2 c2] h
theorem v116 (x0 o0:Nat)(x1:List Value)(h:∀H' p,New H x1 39 H' p->∃(J:Bool->Heap->Prop),(∃n,rd H' p 0=some (.i n)/\(n=8->J true H')/\(¬n=8->∃n,rd H' p 0=some (.i n)/\J (decP (n=5) inferInstance) H'))/\∀H c,J c H->∃(J:Heap->Prop),(∃(J_1:Bool->Heap->Prop),(∃n,rd H p 1=some (.i n)/\(¬n=0->J_1 true H)/\(¬¬n=0->((!c)=true->∃n,rd H p 0=some (.i n)/\J_1 (decP (¬n=9) inferInstance) H)/\((!c)=false->J_1 false H)))/\∀H c_1,J_1 c_1 H->(c_1=true->R (.i 2) H)/\(c_1=false->∃(J_2:Bool->Heap->Prop),((c=true->∃n,rd H x0 (o0+19)=some (.i n)/\((0:Int)<=n->J_2 true H)/\(¬(0:Int)<=n->((!c)=true->∃n,rd H x0 (o0+19)=some (.i n)/\J_2 (decP (n<(1:Int)) inferInstance) H)/\((!c)=false->J_2 false H)))/\(c=false->((!c)=true->∃n,rd H x0 (o0+19)=some (.i n)/\J_2 (decP (n<(1:Int)) inferInstance) H)/\((!c)=false->J_2 false H)))/\∀H c_2,J_2 c_2 H->(c_2=true->R (.i 18) H)/\(c_2=false->(c=true->∃n,rd H p 0=some (.i n)/\∃n_1,rd H x0 (o0+18)=some (.i n_1)/\∃n_2,rd H x0 (o0+17)=some (.i n_2)/\(¬(n=5<->n_1=n_2)->R (.i 17) H)/\(¬¬(n=5<->n_1=n_2)->J H))/\(c=false->J H))))/\∀H,J H->∃n,rd H p 0=some (.i n)/\(n=8->∃v,rd H x0 (o0+16)=some v/\∃n,rd H x0 (o0+2)=some (.i n)/\Ru 108 [v,.i n] H fun r H'=>∃n,r=.i n/\Ru 180 [.p x0 o0] H' fun r H'=>∃a l c a_1 l_1 c_1,r=.tuple #[.slice a l c,.slice a_1 l_1 c_1]/\∃v,rd H' x0 (o0+14)=some v/\∃n,rd H' x0 (o0+18)=some (.i n)/\Ru 181 [.p x0 o0,.i n] H' fun r H'=>∃n,r=.i n/\rd H' x0 (o0+14)=some v/\∃new,new.length=l/\SlL H' a new/\App 1 8 51 [.int .u64 0] H' a_1 l_1 c_1 l new fun a' l' c' H'=>rd H' x0 (o0+14)=some v/\Ru 177 [v,.i n,.slice a' l' c'] H' fun r H'=>∃n,r=.i n/\∃a_2 l c_2,rd H' x0 (o0+5)=some (.slice a_2 l c_2)/\((0:Int)<=(↑l:Int)/\(↑l:Int)<=(↑c:Int))/\Ru 112 [.p x0 o0,.i 1,.slice a (Int.toNat (↑l:Int)) c] H' fun r H'=>∃n,rd H' x0 (o0+18)=some (.i n)/\I64 (n+(1:Int))/\WOk H' x0 (o0+18) 1/\∀H'_1,H'_1=wr H' x0 (o0+18) (.i (n+(1:Int)))->R (.i 0) H'_1)/\(¬n=8->(n=5->Ru 182 [.p x0 o0,.i 0] H fun r H'=>∃n,rd H' x0 (o0+17)=some (.i n)/\WOk H' x0 (o0+19) 1/\∀H'_1,H'_1=wr H' x0 (o0+19) (.i n)->R (.i 0) H'_1)/\(¬n=5->∃n,rd H x0 (o0+19)=some (.i n)/\I64 (n-(1:Int))/\WOk H x0 (o0+19) 1/\∀H',H'=wr H x0 (o0+19) (.i (n-(1:Int)))->∃n,rd H' x0 (o0+19)=some (.i n)/\WOk H' x0 (o0+18) 1/\∀H'_1,H'_1=wr H' x0 (o0+18) (.i n)->∃v,rd H'_1 x0 (o0+14)=some v/\∃n,rd H'_1 x0 (o0+18)=some (.i n)/\∃n_1,rd H'_1 x0 (o0+2)=some (.i n_1)/\Ru 181 [.p x0 o0,.i n] H'_1 fun r H'=>∃n,r=.i n/\rd H' x0 (o0+2)=some (.i n_1)/\rd H' x0 (o0+14)=some v/\Ru 183 [v,.i n,.i n_1] H' fun r H'=>∃a l c n,r=.tuple #[.slice a l c,.i n]/\∃n,rd H' x0 (o0+7)=some (.i n)/\I64 ((↑l:Int)-n)/\((0:Int)<=(↑l:Int)-n/\(↑l:Int)-n<=(↑l:Int))/\((0:Int)<=(↑l:Int)-n/\(↑l:Int)-n<=(↑c:Int))/\Ru 184 [.p x0 o0,.slice (slA a (Int.toNat ((↑l:Int)-n)) c 1) (l-Int.toNat ((↑l:Int)-n)) (c-Int.toNat ((↑l:Int)-n)),.slice a (Int.toNat ((↑l:Int)-n)) c] H' fun r H'=>∃a_1 l_1 c_1,rd H' x0 (o0+5)=some (.slice a_1 l_1 c_1)/\I64 ((↑l:Int)-n+(↑l_1:Int))/\(((0:Int)<=(↑l:Int)-n+(↑l_1:Int)/\(↑l:Int)-n+(↑l_1:Int)<=(↑c:Int))/\(0:Int)<=(↑l:Int)-n/\(↑l:Int)-n<=(↑l:Int)-n+(↑l_1:Int))/\Ru 112 [.p x0 o0,.int .i64 1,.slice (slA a (Int.toNat ((↑l:Int)-n)) c 1) (Int.toNat ((↑l:Int)-n+(↑l_1:Int))-Int.toNat ((↑l:Int)-n)) (c-Int.toNat ((↑l:Int)-n))] H' fun r H'=>∃v,rd H' x0 (o0+16)=some v/\∃n,rd H' x0 (o0+2)=some (.i n)/\Ru 185 [v,.i n] H' fun r H'=>∃n,r=.i n/\R (.i 0) H'))):Ru 116 [.p x0 o0,.agg x1.toArray] H R:=vcr ⟨fun _=>none,fun|2=>some [(5,.bool)]|3=>some [(19,.bool)]|6=>some [(32,.bool)]|9=>some []|_=>none⟩ [.ptr x0 o0,.agg x1] h
theorem v118 (x0 o0:Nat)(h:∀H' p,New H [Value.nilFunc,Value.nilFunc,Value.nilFunc,Value.nilFunc,Value.nilFunc,Value.nilFunc,Value.nilFunc,Value.nilFunc] 193 H' p->One Value.nilFunc/\List.length (α:=Value) [Value.nilFunc,.func (.func 188) #[.p x0 o0] #[],.func (.func 189) #[.p x0 o0] #[],.func (.func 190) #[.p x0 o0] #[],.func (.func 191) #[.p x0 o0] #[],.func (.func 182) #[.p x0 o0] #[],.func (.func 192) #[.p x0 o0] #[],.func (.func 193) #[.p x0 o0] #[]]=8/\(∀v∈[Value.nilFunc,.func (.func 188) #[.p x0 o0] #[],.func (.func 189) #[.p x0 o0] #[],.func (.func 190) #[.p x0 o0] #[],.func (.func 191) #[.p x0 o0] #[],.func (.func 182) #[.p x0 o0] #[],.func (.func 192) #[.p x0 o0] #[],.func (.func 193) #[.p x0 o0] #[]],One v)/\WOk H' p 0 8/\∀H'_1,H'_1=wrL H' p 0 [Value.nilFunc,.func (.func 188) #[.p x0 o0] #[],.func (.func 189) #[.p x0 o0] #[],.func (.func 190) #[.p x0 o0] #[],.func (.func 191) #[.pointer (some ⟨x0,o0,none⟩)] #[],.func (.func 182) #[.p x0 o0] #[],.func (.func 192) #[.p x0 o0] #[],.func (.func 193) #[.p x0 o0] #[]]->∃cs:List Value,cs.length=8/\RdL H'_1 p 0 cs/\R (.agg cs.toArray) H'_1):Ru 118 [.p x0 o0] H R:=vcr nn [.ptr x0 o0] h
theorem v120 (x0 o0:Nat)(h:∃n,rd H x0 (o0+1)=some (.i n)/\∃(I:Option Addr->Nat->Nat->Int->Heap->Prop),∃(μ:Option Addr->Nat->Nat->Int->Heap->Nat),I none 0 0 (0:Int) H/\∀H a l c n_1,I a l c n_1 H->(n_1<n->∃v,rd H x0 (o0+3)=some v/\∃cs:List Value,cs.length=3/\RdL H x0 o0 cs/\Ru 195 [.agg cs.toArray,.i n_1] H fun r H'=>∃n,r=.i n/\rd H' x0 (o0+3)=some v/\Ru 194 [v,.int .i64 n] H' fun r H'=>∃x n,r=.tuple #[.u x,.i n]/\UInt64.toNat x<=9223372036854775807/\I64 ((↑(UInt64.toNat x):Int)-(1:Int))/\∀H'_1 q,New H' [.i ((↑(UInt64.toNat x):Int)-(1:Int))] 3 H'_1 q->∃new,new.length=1/\SlL H'_1 (some ⟨q,0,none⟩) new/\App 1 8 3 [.i 0] H'_1 a l c 1 new fun a' l' c' H'=>I64 (n_1+(1:Int))/\I a' l' c' (n_1+(1:Int)) H'/\μ a' l' c' (n_1+(1:Int)) H'<μ a l c n_1 H)/\(¬n_1<n->R (.slice a l c) H)):Ru 120 [.p x0 o0] H R:=vcr ⟨fun|5=>some [(3,.slc),(14,.int .i64)]|_=>none,fun _=>none⟩ [.ptr x0 o0] h
theorem v121 (x0 o0:Nat)(x1:Int)(h:∃v,rd H x0 (o0+14)=some v/\∃a l c,rd H x0 (o0+13)=some (.slice a l c)/\∃b o,At a b o/\((0:Int)<=x1/\x1<(↑l:Int))/\∃n,rd H b (o+x1.toNat)=some (.i n)/\∃a l c,rd H x0 (o0+13)=some (.slice a l c)/\I64 (x1+(1:Int))/\∃b o,At a b o/\((0:Int)<=x1+(1:Int)/\x1+(1:Int)<(↑l:Int))/\∃n_1,rd H b (o+Int.toNat (x1+(1:Int)))=some (.i n_1)/\∃a l c,rd H x0 (o0+13)=some (.slice a l c)/\∃b o,At a b o/\((0:Int)<=x1/\x1<(↑l:Int))/\∃n_2,rd H b (o+x1.toNat)=some (.i n_2)/\I64 (n_1-n_2)/\Ru 183 [v,.i n,.i (n_1-n_2)] H fun r H'=>∃a l c n,r=.tuple #[.slice a l c,.i n]/\R (.slice a l c) H'):Ru 121 [.p x0 o0,.i x1] H R:=vcr nn [.ptr x0 o0,.int .i64 x1] h
theorem v170 (x0:Int)(h:(x0<(1:Int)->R (.i 2) H)/\(¬x0<(1:Int)->((1048576:Int)<x0->R (.i 12) H)/\(¬(1048576:Int)<x0->R (.i 0) H))):Ru 170 [.i x0] H R:=vcr nn [.int .i64 x0] h
theorem v171 (x0:Int)(x1:Int)(x2:Int)(h:(x1<(0:Int)->R (.tuple #[.pointer none,.i 2]) H)/\(¬x1<(0:Int)->(x2<x1->R (.tuple #[.pointer none,.i 2]) H)/\(¬x2<x1->(x0<x2->R (.tuple #[.pointer none,.i 2]) H)/\(¬x0<x2->List.length (α:=Value) [.i x1,.i x2]=2/\∀H' p,New H [.i x1,.i x2,.i x0] 248 H' p->R (.tuple #[.p p 0,.i 0]) H')))):Ru 171 [.i x0,.i x1,.i x2] H R:=vcr nn [.int .i64 x0,.int .i64 x1,.int .i64 x2] h
theorem v172 (x0 o0:Nat)(x1:Int)(x2:Int)(h:∃n,rd H x0 o0=some (.i n)/\I64 (x2-n)/\R (.bool (decide (x1<=x2-n))) H):Ru 172 [.p x0 o0,.i x1,.i x2] H R:=vcr nn [.ptr x0 o0,.int .i64 x1,.int .i64 x2] h
theorem v173 (x0 o0:Nat)(x1:Int)(h:∃n,rd H x0 o0=some (.i n)/\I64 (n+x1)/\WOk H x0 o0 1/\∀H',H'=wr H x0 o0 (.i (n+x1))->∃n,rd H' x0 (o0+1)=some (.i n)/\∃n_1,rd H' x0 o0=some (.i n_1)/\WOk H' x0 (o0+1) 1/\∀H'_1,H'_1=wr H' x0 (o0+1) (.i (maxI true n n_1))->R (.tuple #[]) H'_1):Ru 173 [.p x0 o0,.i x1] H R:=vcr nn [.ptr x0 o0,.int .i64 x1] h
theorem v174 (x0 o0:Nat)(h:∃a l c,rd H x0 o0=some (.slice a l c)/\∃n,rd H x0 (o0+1)=some (.i n)/\I64 ((↑l:Int)-n)/\R (.i ((↑l:Int)-n)) H):Ru 174 [.p x0 o0] H R:=vcr nn [.ptr x0 o0] h
theorem v175 (x0:List Value)(h:∀H' p,New H x0 250 H' p->∃n,rd H' p 1=some (.i n)/\((0:Int)<=n->∃n,rd H' p 1=some (.i n)/\(n<=(1048576:Int)->∃n,rd H' p 2=some (.i n)/\((1:Int)<=n->∃n,rd H' p 2=some (.i n)/\R (.bool (decide (n<=(64:Int)))) H')/\(¬(1:Int)<=n->R (.bool false) H'))/\(¬n<=(1048576:Int)->R (.bool false) H'))/\(¬(0:Int)<=n->R (.bool false) H')):Ru 175 [.agg x0.toArray] H R:=vcr nn [.agg x0] h
theorem v176 (x0:List Value)(h:∀H' p,New H x0 250 H' p->∃n,rd H' p 2=some (.i n)/\I64 (n+(1:Int))/\R (.i (n+(1:Int))) H'):Ru 176 [.agg x0.toArray] H R:=vcr nn [.agg x0] h
theorem v177 (x0 o0:Nat)(x1:Int)(x2:Option Addr)(l2 c2:Nat)(h:Ru 224 [.p x0 o0,.i x1,.i (↑l2:Int),.func (.func 225) #[.agg #[.slice x2 l2 c2]] #[]] H fun r H'=>∃n,r=.i n/\R (.i n) H'):Ru 177 [.p x0 o0,.i x1,.slice x2 l2 c2] H R:=vcr nn [.ptr x0 o0,.int .i64 x1,.slc x2 l2 c2] h
theorem v180 (x0 o0:Nat)(h:∃cs:List Value,cs.length=9/\RdL H x0 (o0+4) cs/\Ru 103 [.agg cs.toArray] H fun r H'=>∃n n_1,r=.tuple #[.i n,.i n_1]/\∃(J:Option Addr->Nat->Nat->Option Addr->Nat->Nat->Heap->Prop),(∃cs:List Value,cs.length=2/\RdL H' x0 (o0+7) cs/\∃n_2,rd H' x0 (o0+18)=some (.i n_2)/\(Ru 121 [.p x0 o0,.i 1] H' fun r H'=>∃a l c,r=.slice a l c/\rd H' x0 (o0+18)=some (.i n_2)/\RdL H' x0 (o0+7) cs/\(∀H'_1 q,New H' [.int .u64 (↑(UInt64.toNat (UInt64.ofInt n_2)):Int)] 51 H'_1 q->RdL H'_1 x0 (o0+7) cs/\(Ru 233 [.pointer (some ⟨x0,o0,none⟩),.agg cs.toArray,.slice a l c,.slice (some ⟨q,0,none⟩) 1 1] H'_1 fun r H'=>∃a l c,r=.slice a l c/\((0:Int)<=n/\n<=n/\(8:Int)*n<=(281474976710656:Int)/\I64 n)/\∀H'_2 q,New H' (rep (n.toNat) [.int .u64 0]) 51 H'_2 q->rd H'_2 x0 (o0+18)=some (.i n_2)/\RdL H'_2 x0 (o0+7) cs/\J a l c (some ⟨q,0,none⟩) (n.toNat) (n.toNat) H'_2)/\((0:Int)<=n/\n<=n/\(8:Int)*n<=(281474976710656:Int)/\I64 n)/\∀H' q_1,New H'_1 (rep (n.toNat) [.int .u64 0]) 51 H' q_1->rd H' x0 (o0+18)=some (.i n_2)/\RdL H' x0 (o0+7) cs/\Ru 233 [.p x0 o0,.agg cs.toArray,.slice a l c,.slice (some ⟨q,0,none⟩) 1 1] H' fun r H'=>∃a l c,r=.slice a l c/\J a l c (some ⟨q_1,0,none⟩) (n.toNat) (n.toNat) H')/\((0:Int)<=n/\n<=n/\(8:Int)*n<=(281474976710656:Int)/\I64 n)/\∀H'_1 q,New H' (rep (n.toNat) [.int .u64 0]) 51 H'_1 q->rd H'_1 x0 (o0+18)=some (.i n_2)/\RdL H'_1 x0 (o0+7) cs/\∀H' q_1,New H'_1 [.int .u64 (↑(UInt64.toNat (UInt64.ofInt n_2)):Int)] 51 H' q_1->RdL H' x0 (o0+7) cs/\Ru 233 [.p x0 o0,.agg cs.toArray,.slice a l c,.slice (some ⟨q_1,0,none⟩) 1 1] H' fun r H'=>∃a l c,r=.slice a l c/\J a l c (some ⟨q,0,none⟩) (n.toNat) (n.toNat) H')/\(∀H'_1 q,New H' [.int .u64 (↑(UInt64.toNat (UInt64.ofInt n_2)):Int)] 51 H'_1 q->RdL H'_1 x0 (o0+7) cs/\(Ru 121 [.p x0 o0,.int .i64 1] H'_1 fun r H'=>∃a l c,r=.slice a l c/\rd H' x0 (o0+18)=some (.i n_2)/\RdL H' x0 (o0+7) cs/\(Ru 233 [.p x0 o0,.agg cs.toArray,.slice a l c,.slice (some ⟨q,0,none⟩) 1 1] H' fun r H'=>∃a l c,r=.slice a l c/\((0:Int)<=n/\n<=n/\(8:Int)*n<=(281474976710656:Int)/\I64 n)/\∀H'_2 q,New H' (rep (n.toNat) [.int .u64 0]) 51 H'_2 q->rd H'_2 x0 (o0+18)=some (.i n_2)/\RdL H'_2 x0 (o0+7) cs/\J a l c (some ⟨q,0,none⟩) (n.toNat) (n.toNat) H'_2)/\((0:Int)<=n/\n<=n/\(8:Int)*n<=(281474976710656:Int)/\I64 n)/\∀H'_2 q_1,New H' (rep (n.toNat) [.int .u64 0]) 51 H'_2 q_1->rd H'_2 x0 (o0+18)=some (.i n_2)/\RdL H'_2 x0 (o0+7) cs/\Ru 233 [.p x0 o0,.agg cs.toArray,.slice a l c,.slice (some ⟨q,0,none⟩) 1 1] H'_2 fun r H'=>∃a l c,r=.slice a l c/\J a l c (some ⟨q_1,0,none⟩) (n.toNat) (n.toNat) H')/\((0:Int)<=n/\n<=n/\(8:Int)*n<=(281474976710656:Int)/\I64 n)/\∀H' q_1,New H'_1 (rep (n.toNat) [.int .u64 0]) 51 H' q_1->rd H' x0 (o0+18)=some (.i n_2)/\RdL H' x0 (o0+7) cs/\Ru 121 [.p x0 o0,.i 1] H' fun r H'=>∃a l c,r=.slice a l c/\rd H' x0 (o0+18)=some (.i n_2)/\RdL H' x0 (o0+7) cs/\Ru 233 [.p x0 o0,.agg cs.toArray,.slice a l c,.slice (some ⟨q,0,none⟩) 1 1] H' fun r H'=>∃a l c,r=.slice a l c/\J a l c (some ⟨q_1,0,none⟩) (n.toNat) (n.toNat) H')/\((0:Int)<=n/\n<=n/\(8:Int)*n<=(281474976710656:Int)/\I64 n)/\∀H'_1 q,New H' (rep (n.toNat) [.int .u64 0]) 51 H'_1 q->rd H'_1 x0 (o0+18)=some (.i n_2)/\RdL H'_1 x0 (o0+7) cs/\(Ru 121 [.p x0 o0,.i 1] H'_1 fun r H'=>∃a l c,r=.slice a l c/\rd H' x0 (o0+18)=some (.i n_2)/\RdL H' x0 (o0+7) cs/\∀H'_2 q_1,New H' [.int .u64 (↑(UInt64.toNat (UInt64.ofInt n_2)):Int)] 51 H'_2 q_1->RdL H'_2 x0 (o0+7) cs/\Ru 233 [.p x0 o0,.agg cs.toArray,.slice a l c,.slice (some ⟨q_1,0,none⟩) 1 1] H'_2 fun r H'=>∃a l c,r=.slice a l c/\J a l c (some ⟨q,0,none⟩) (n.toNat) (n.toNat) H')/\∀H' q_1,New H'_1 [.int .u64 (↑(UInt64.toNat (UInt64.ofInt n_2)):Int)] 51 H' q_1->RdL H' x0 (o0+7) cs/\Ru 121 [.pointer (some ⟨x0,o0,none⟩),.i 1] H' fun r H'=>∃a l c,r=.slice a l c/\rd H' x0 (o0+18)=some (.i n_2)/\RdL H' x0 (o0+7) cs/\Ru 233 [.p x0 o0,.agg cs.toArray,.slice a l c,.slice (some ⟨q_1,0,none⟩) 1 1] H' fun r H'=>∃a l c,r=.slice a l c/\J a l c (some ⟨q,0,none⟩) (n.toNat) (n.toNat) H')/\∀H a l c a_1 l_1 c_1,J a l c a_1 l_1 c_1 H->∃cs:List Value,cs.length=2/\RdL H x0 (o0+7) cs/\Ru 234 [.agg cs.toArray,.slice a l c,.slice a_1 l_1 c_1] H fun r H'=>∃n n_2,r=.tuple #[.i n,.i n_2]/\Ru 112 [.p x0 o0,.i 2,.slice a l c] H' fun r H'=>∃n,rd H' x0 (o0+21)=some (.i n)/\I64 (n+(1:Int))/\WOk H' x0 (o0+21) 1/\∀H'_1,H'_1=wr H' x0 (o0+21) (.i (n+(1:Int)))->R (.tuple #[.slice a l c,.slice a_1 l_1 c_1]) H'_1):Ru 180 [.p x0 o0] H R:=vcr ⟨fun _=>none,fun|3=>some [(2,.slc),(3,.slc)]|_=>none⟩ [.ptr x0 o0] h
theorem v181 (x0 o0:Nat)(x1:Int)(h:∃a l c,rd H x0 (o0+13)=some (.slice a l c)/\∃b o,At a b o/\((0:Int)<=(8:Int)/\(8:Int)<(↑l:Int))/\∃n,rd H b (o+8)=some (.i n)/\∃n_1,rd H x0 (o0+2)=some (.i n_1)/\I64 (x1*n_1)/\I64 (n+x1*n_1)/\R (.i (n+x1*n_1)) H):Ru 181 [.p x0 o0,.i x1] H R:=vcr nn [.ptr x0 o0,.int .i64 x1] h
theorem v182 (x0 o0:Nat)(x1:Int)(h:∀H' p,New H [.p x0 o0] 112 H' p->∃v,rd H' p 0=some v/\∃b o,v=.p b o/\∃cs:List Value,cs.length=9/\RdL H' b (o+4) cs/\Ru 103 [.agg cs.toArray] H' fun r H'=>∃n n_1,r=.tuple #[.i n,.i n_1]/\∃v,rd H' p 0=some v/\Ru 235 [v,.i n_1,.func (.func 236) #[] #[.p p 0]] H' fun r H'=>R (.tuple #[]) H'):Ru 182 [.p x0 o0,.i x1] H R:=vcr nn [.ptr x0 o0,.int .i64 x1] h
theorem v183 (x0 o0:Nat)(x1:Int)(x2:Int)(h:∀H' p,New H [.slice none 0 0] 325 H' p->Ru 224 [.p x0 o0,.i x1,.i x2,.func (.func 238) #[.p p 0] #[]] H' fun r H'=>∃n,r=.i n/\(¬n=0->R (.tuple #[.slice none 0 0,.i n]) H')/\(¬¬n=0->∃a l c,rd H' p 0=some (.slice a l c)/\R (.tuple #[.slice a l c,.i 0]) H')):Ru 183 [.p x0 o0,.i x1,.i x2] H R:=vcr nn [.ptr x0 o0,.int .i64 x1,.int .i64 x2] h
theorem v184 (x0 o0:Nat)(x1:Option Addr)(l1 c1:Nat)(x2:Option Addr)(l2 c2:Nat)(h:∃cs:List Value,cs.length=2/\RdL H x0 (o0+7) cs/\∃cs_1:List Value,cs_1.length=2/\RdL H x0 (o0+7) cs_1/\Ru 121 [.p x0 o0,.i 5] H fun r H'=>∃a l c,r=.slice a l c/\RdL H' x0 (o0+7) cs_1/\RdL H' x0 (o0+7) cs/\Ru 240 [.agg cs_1.toArray,.slice a l c] H' fun r H'=>∃a l c,r=.slice a l c/\RdL H' x0 (o0+7) cs/\Ru 239 [.p x0 o0,.agg cs.toArray,.slice x1 l1 c1,.slice a l c,.slice x2 l2 c2] H' fun r H'=>R (.tuple #[]) H'):Ru 184 [.p x0 o0,.slice x1 l1 c1,.slice x2 l2 c2] H R:=vcr nn [.ptr x0 o0,.slc x1 l1 c1,.slc x2 l2 c2] h
theorem v185 (x0 o0:Nat)(x1:Int)(h:(x1<(0:Int)->R (.i 2) H)/\(¬x1<(0:Int)->∃n,rd H x0 o0=some (.i n)/\(n<x1->R (.i 2) H)/\(¬n<x1->I64 ((0:Int)-x1)/\Ru 173 [.p x0 o0,.i ((0:Int)-x1)] H fun r H'=>R (.i 0) H'))):Ru 185 [.p x0 o0,.i x1] H R:=vcr nn [.ptr x0 o0,.int .i64 x1] h
theorem v188 (x0 o0:Nat)(x1:Int)(h:∃(I:Int->Heap->Prop),∃(μ:Int->Heap->Nat),I (0:Int) H/\∀H n,I n H->(n<x1->∃cs:List Value,cs.length=2/\RdL H x0 (o0+7) cs/\∃cs_1:List Value,cs_1.length=2/\RdL H x0 (o0+7) cs_1/\∃n_1,rd H x0 (o0+18)=some (.i n_1)/\I64 (n_1+n)/\(Ru 121 [.p x0 o0,.i 1] H fun r H'=>∃a l c,r=.slice a l c/\rd H' x0 (o0+18)=some (.i n_1)/\RdL H' x0 (o0+7) cs_1/\RdL H' x0 (o0+7) cs/\∀H'_1 q,New H' [.int .u64 (↑(UInt64.toNat (UInt64.ofInt (n_1+n))):Int)] 51 H'_1 q->RdL H'_1 x0 (o0+7) cs_1/\RdL H'_1 x0 (o0+7) cs/\Ru 233 [.pointer (some ⟨x0,o0,none⟩),.agg cs_1.toArray,.slice a l c,.slice (some ⟨q,0,none⟩) 1 1] H'_1 fun r H'=>∃a l c,r=.slice a l c/\RdL H' x0 (o0+7) cs/\Ru 205 [.agg cs.toArray,.slice a l c] H' fun r H'=>∃a l c n_2,r=.tuple #[.slice a l c,.i n_2]/\Ru 112 [.p x0 o0,.i 2,.slice a l c] H' fun r H'=>∃a_2 l c_1,rd H' x0 (o0+5)=some (.slice a_2 l c_1)/\((0:Int)<=(↑l:Int)/\(↑l:Int)<=(↑c:Int))/\Ru 112 [.p x0 o0,.i 1,.slice a (Int.toNat (↑l:Int)) c] H' fun r H'=>∃n_3,rd H' x0 (o0+20)=some (.i n_3)/\I64 (n_3+(1:Int))/\WOk H' x0 (o0+20) 1/\∀H'_2,H'_2=wr H' x0 (o0+20) (.i (n_3+(1:Int)))->I64 (n+(1:Int))/\I (n+(1:Int)) H'_2/\μ (n+(1:Int)) H'_2<μ n H)/\∀H' q,New H [.int .u64 (↑(UInt64.toNat (UInt64.ofInt (n_1+n))):Int)] 51 H' q->RdL H' x0 (o0+7) cs_1/\RdL H' x0 (o0+7) cs/\Ru 121 [.p x0 o0,.i 1] H' fun r H'=>∃a l c,r=.slice a l c/\rd H' x0 (o0+18)=some (.i n_1)/\RdL H' x0 (o0+7) cs_1/\RdL H' x0 (o0+7) cs/\Ru 233 [.p x0 o0,.agg cs_1.toArray,.slice a l c,.slice (some ⟨q,0,none⟩) 1 1] H' fun r H'=>∃a l c,r=.slice a l c/\RdL H' x0 (o0+7) cs/\Ru 205 [.agg cs.toArray,.slice a l c] H' fun r H'=>∃a l c n_2,r=.tuple #[.slice a l c,.i n_2]/\Ru 112 [.p x0 o0,.i 2,.slice a l c] H' fun r H'=>∃a_1 l c_1,rd H' x0 (o0+5)=some (.slice a_1 l c_1)/\((0:Int)<=(↑l:Int)/\(↑l:Int)<=(↑c:Int))/\Ru 112 [.p x0 o0,.i 1,.slice a (Int.toNat (↑l:Int)) c] H' fun r H'=>∃n_3,rd H' x0 (o0+20)=some (.i n_3)/\I64 (n_3+(1:Int))/\WOk H' x0 (o0+20) 1/\∀H'_1,H'_1=wr H' x0 (o0+20) (.i (n_3+(1:Int)))->I64 (n+(1:Int))/\I (n+(1:Int)) H'_1/\μ (n+(1:Int)) H'_1<μ n H)/\(¬n<x1->R (.tuple #[]) H)):Ru 188 [.p x0 o0,.i x1] H R:=vcr ⟨fun|1=>some [(8,.int .i64)]|_=>none,fun _=>none⟩ [.ptr x0 o0,.int .i64 x1] h
theorem v189 (x0 o0:Nat)(x1:Int)(h:∃v,rd H x0 (o0+16)=some v/\∃n,rd H x0 (o0+2)=some (.i n)/\Ru 108 [v,.i n] H fun r H'=>∃n,r=.i n/\∃v,rd H' x0 (o0+15)=some v/\∃n,rd H' x0 (o0+18)=some (.i n)/\Ru 121 [.p x0 o0,.i 1] H' fun r H'=>∃a l c,r=.slice a l c/\rd H' x0 (o0+18)=some (.i n)/\rd H' x0 (o0+15)=some v/\Ru 242 [v,.i x1,.i n,.slice a l c] H' fun r H'=>∃n,r=.i n/\R (.tuple #[]) H'):Ru 189 [.p x0 o0,.i x1] H R:=vcr nn [.ptr x0 o0,.int .i64 x1] h
theorem v190 (x0 o0:Nat)(x1:Int)(h:∃v,rd H x0 (o0+15)=some v/\Ru 243 [v,.i x1] H fun r H'=>∃n a l c n_1,r=.tuple #[.i n,.slice a l c,.i n_1]/\Ru 112 [.p x0 o0,.i 1,.slice a l c] H' fun r H'=>R (.tuple #[]) H'):Ru 190 [.p x0 o0,.i x1] H R:=vcr nn [.ptr x0 o0,.int .i64 x1] h
theorem v191 (x0 o0:Nat)(x1:Int)(h:∃v,rd H x0 (o0+15)=some v/\Ru 244 [v,.i x1] H fun r H'=>∃n,r=.i n/\∃v,rd H' x0 (o0+16)=some v/\∃n,rd H' x0 (o0+2)=some (.i n)/\Ru 185 [v,.i n] H' fun r H'=>∃n,r=.i n/\R (.tuple #[]) H'):Ru 191 [.p x0 o0,.i x1] H R:=vcr nn [.ptr x0 o0,.int .i64 x1] h
theorem v192 (x0 o0:Nat)(x1:Int)(h:∀H' p,New H [.p x0 o0] 112 H' p->∃v,rd H' p 0=some v/\∃b o,v=.p b o/\∃cs:List Value,cs.length=9/\RdL H' b (o+4) cs/\Ru 103 [.agg cs.toArray] H' fun r H'=>∃n n_1,r=.tuple #[.i n,.i n_1]/\∃v,rd H' p 0=some v/\I64 (n+n_1)/\Ru 235 [v,.i (n+n_1),.func (.func 245) #[] #[.p p 0]] H' fun r H'=>R (.tuple #[]) H'):Ru 192 [.p x0 o0,.i x1] H R:=vcr nn [.ptr x0 o0,.int .i64 x1] h
theorem v193 (x0 o0:Nat)(x1:Int)(h:∀H' p,New H [.p x0 o0] 112 H' p->∃v,rd H' p 0=some v/\∃b o,v=.p b o/\∃cs:List Value,cs.length=9/\RdL H' b (o+4) cs/\Ru 103 [.agg cs.toArray] H' fun r H'=>∃n n_1,r=.tuple #[.i n,.i n_1]/\∃v,rd H' p 0=some v/\Ru 235 [v,.i n,.func (.func 246) #[] #[.p p 0]] H' fun r H'=>R (.tuple #[]) H'):Ru 193 [.p x0 o0,.i x1] H R:=vcr nn [.ptr x0 o0,.int .i64 x1] h
theorem v194 (x0 o0:Nat)(x1:Int)(h:∀H' p,New H [.slice none 0 0] 325 H' p->Ru 224 [.p x0 o0,.i x1,.i 1,.func (.func 238) #[.p p 0] #[]] H' fun r H'=>∃n,r=.i n/\(¬n=0->R (.tuple #[.int .u64 0,.i n]) H')/\(¬¬n=0->∃a l c,rd H' p 0=some (.slice a l c)/\∃b o,At a b o/\((0:Int)<=(0:Int)/\(0:Int)<(↑l:Int))/\∃x,rd H' b o=some (.int .u64 (↑(UInt64.toNat x):Int))/\R (.tuple #[.u x,.i 0]) H')):Ru 194 [.p x0 o0,.i x1] H R:=vcr nn [.ptr x0 o0,.int .i64 x1] h
theorem v195 (x0:List Value)(x1:Int)(h:∀H' p,New H x0 250 H' p->∃n,rd H' p 0=some (.i n)/\∃cs:List Value,cs.length=3/\RdL H' p 0 cs/\Ru 176 [.agg cs.toArray] H' fun r H'=>∃n_1,r=.i n_1/\rd H' p 0=some (.i n)/\I64 (x1*n_1)/\I64 (n+x1*n_1)/\R (.i (n+x1*n_1)) H'):Ru 195 [.agg x0.toArray,.i x1] H R:=vcr nn [.agg x0,.int .i64 x1] h
theorem v205 (x0:List Value)(x1:Option Addr)(l1 c1:Nat)(h:∀H' p,New H x0 25 H' p->∃cs:List Value,cs.length=2/\RdL H' p 0 cs/\Ru 267 [.agg cs.toArray,.slice x1 l1 c1] H' fun r H'=>∃a l c a_1 l_1 c_1 n,r=.tuple #[.slice a l c,.slice a_1 l_1 c_1,.i n]/\(¬n=0->R (.tuple #[.slice none 0 0,.i n]) H')/\(¬¬n=0->Ru 268 [.slice a l c,.slice a_1 l_1 c_1,.i (-1),.func (.func 269) #[] #[]] H' fun r H'=>R (.tuple #[.slice a_1 l_1 c_1,.i 0]) H')):Ru 205 [.agg x0.toArray,.slice x1 l1 c1] H R:=vcr nn [.agg x0,.slc x1 l1 c1] h
theorem v224 (x0 o0:Nat)(x1:Int)(x2:Int)(x3:Value)(h:∃(J:Heap->Prop),((x1<(0:Int)->R (.i 2) H)/\(¬x1<(0:Int)->(x2<(0:Int)->R (.i 2) H)/\(¬x2<(0:Int)->∃n,rd H x0 (o0+1)=some (.i n)/\(n<x1->R (.i 2) H)/\(¬n<x1->∃n,rd H x0 (o0+1)=some (.i n)/\I64 (n-x1)/\(n-x1<x2->R (.i 2) H)/\(¬n-x1<x2->J H)))))/\∀H,J H->∃a l c,rd H x0 o0=some (.slice a l c)/\I64 (x1+x2)/\(((0:Int)<=x1+x2/\x1+x2<=(↑c:Int))/\(0:Int)<=x1/\x1<=x1+x2)/\∃g u v,x3=.func (.func g) u v/\callable Tryz.prog g=true/\Ru g (Array.toList u++[.slice (slA a (x1.toNat) c 1) (Int.toNat (x1+x2)-x1.toNat) (c-x1.toNat)]++Array.toList v) H fun r H'=>R (.i 0) H'):Ru 224 [.p x0 o0,.i x1,.i x2,x3] H R:=vcr ⟨fun _=>none,fun|5=>some []|_=>none⟩ [.ptr x0 o0,.int .i64 x1,.int .i64 x2,.op x3] h
theorem v225 (x0:List Value)(x1:Option Addr)(l1 c1:Nat)(h:∀H' p,New H x0 309 H' p->∃a l c,rd H' p 0=some (.slice a l c)/\∃new,new.length=min l l1/\SlL H' a new/\(new=[]/\R (.tuple #[]) H'\/∃b off,At x1 b off/\WOk H' b off (new.length)/\(∀(v:Value),v∈new->One v)/\∀H'_1,H'_1=wrL H' b off new->R (.tuple #[]) H'_1)):Ru 225 [.agg x0.toArray,.slice x1 l1 c1] H R:=vcr nn [.agg x0,.slc x1 l1 c1] h
theorem v233 (x0 o0:Nat)(x1:List Value)(x2:Option Addr)(l2 c2:Nat)(x3:Option Addr)(l3 c3:Nat)(h:∀H' p,New H x1 25 H' p->Ru 121 [.p x0 o0,.i 0] H' fun r H'=>∃a l c,r=.slice a l c/\∀H'_1 q,New H' [.slice x2 l2 c2,.slice a l c,.slice x3 l3 c3] 22 H'_1 q->Ru 206 [.slice (some ⟨q,0,none⟩) 3 3] H'_1 fun r H'=>∃a l c,r=.slice a l c/\∃n,rd H' p 0=some (.i n)/\I64 (n-(↑l:Int))/\((0:Int)<=n-(↑l:Int)/\(n-(↑l:Int))*(8:Int)<=(281474976710656:Int)/\I64 (n-(↑l:Int)))/\App 1 8 51 [.int .u64 0] H' a l c (Int.toNat (n-(↑l:Int))) (rep (Int.toNat (n-(↑l:Int))) [.int .u64 0]) fun a' l' c' H'=>R (.slice a' l' c') H'):Ru 233 [.p x0 o0,.agg x1.toArray,.slice x2 l2 c2,.slice x3 l3 c3] H R:=vcr nn [.ptr x0 o0,.agg x1,.slc x2 l2 c2,.slc x3 l3 c3] h
theorem v234 (x0:List Value)(x1:Option Addr)(l1 c1:Nat)(x2:Option Addr)(l2 c2:Nat)(h:∀H' p,New H x0 25 H' p->∃cs:List Value,cs.length=2/\RdL H' p 0 cs/\Ru 312 [.agg cs.toArray,.slice x1 l1 c1,.slice x2 l2 c2] H' fun r H'=>∃a l c n,r=.tuple #[.slice a l c,.i n]/\(¬n=0->R (.tuple #[.i 0,.i n]) H')/\(¬¬n=0->Ru 313 [.slice a l c,.slice x1 l1 c1,.slice x2 l2 c2] H' fun r H'=>∃n,r=.i n/\R (.tuple #[.i n,.i 0]) H')):Ru 234 [.agg x0.toArray,.slice x1 l1 c1,.slice x2 l2 c2] H R:=vcr nn [.agg x0,.slc x1 l1 c1,.slc x2 l2 c2] h
theorem v235 (x0 o0:Nat)(x1:Int)(x2:Value)(h:∃v,rd H x0 (o0+16)=some v/\Ru 108 [v,.i x1] H fun r H'=>∃n,r=.i n/\∃g u v,x2=.func (.func g) u v/\callable Tryz.prog g=true/\Ru g (Array.toList u++[]++Array.toList v) H' fun r H'=>∃v,rd H' x0 (o0+16)=some v/\Ru 185 [v,.i x1] H' fun r H'=>∃n,r=.i n/\R (.tuple #[]) H'):Ru 235 [.p x0 o0,.i x1,x2] H R:=vcr nn [.ptr x0 o0,.int .i64 x1,.op x2] h
theorem v236 (x0 o0:Nat)(h:∃v,rd H x0 o0=some v/\∃v_1,rd H x0 o0=some v_1/\Ru 121 [v_1,.i 1] H fun r H'=>∃a l c,r=.slice a l c/\rd H' x0 o0=some v/\Ru 237 [v,.slice a l c] H' fun r H'=>R (.tuple #[]) H'):Ru 236 [.p x0 o0] H R:=vcr nn [.ptr x0 o0] h
theorem v237 (x0 o0:Nat)(x1:Option Addr)(l1 c1:Nat)(h:∃cs:List Value,cs.length=9/\RdL H x0 (o0+4) cs/\Ru 103 [.agg cs.toArray] H fun r H'=>∃n n_1,r=.tuple #[.i n,.i n_1]/\∃(J:Option Addr->Nat->Nat->Option Addr->Nat->Nat->Heap->Prop),(∃cs:List Value,cs.length=2/\RdL H' x0 (o0+9) cs/\(Ru 233 [.p x0 o0,.agg cs.toArray,.slice x1 l1 c1,.slice none 0 0] H' fun r H'=>∃a l c,r=.slice a l c/\((0:Int)<=n_1/\n_1<=n_1/\(8:Int)*n_1<=(281474976710656:Int)/\I64 n_1)/\∀H'_1 q,New H' (rep (n_1.toNat) [.int .u64 0]) 51 H'_1 q->RdL H'_1 x0 (o0+9) cs/\J a l c (some ⟨q,0,none⟩) (Int.toNat n_1) (n_1.toNat) H'_1)/\((0:Int)<=n_1/\n_1<=n_1/\(8:Int)*n_1<=(281474976710656:Int)/\I64 n_1)/\∀H'_1 q,New H' (rep (n_1.toNat) [.int .u64 0]) 51 H'_1 q->RdL H'_1 x0 (o0+9) cs/\Ru 233 [.p x0 o0,.agg cs.toArray,.slice x1 l1 c1,.slice none 0 0] H'_1 fun r H'=>∃a l c,r=.slice a l c/\J a l c (some ⟨q,0,none⟩) (n_1.toNat) (n_1.toNat) H')/\∀H a l c a_1 l_1 c_1,J a l c a_1 l_1 c_1 H->∃cs:List Value,cs.length=2/\RdL H x0 (o0+9) cs/\Ru 234 [.agg cs.toArray,.slice a l c,.slice a_1 l_1 c_1] H fun r H'=>∃n n_2,r=.tuple #[.i n,.int .i64 n_2]/\∃n,rd H' x0 (o0+22)=some (.i n)/\I64 (n+(1:Int))/\WOk H' x0 (o0+22) 1/\∀H'_1,H'_1=wr H' x0 (o0+22) (.i (n+(1:Int)))->∃b o,At a b o/\((0:Int)<=(0:Int)/\(0:Int)<(↑l:Int))/\∃x,rd H'_1 b o=some (.u x)/\WOk H'_1 x0 (o0+24) 1/\∀H',H'=wr H'_1 x0 (o0+24) (.u x)->Ru 112 [.p x0 o0,.i 3,.slice a l c] H' fun r H'=>∃cs:List Value,cs.length=2/\RdL H' x0 (o0+9) cs/\∃cs_1:List Value,cs_1.length=2/\RdL H' x0 (o0+9) cs_1/\∀H'_2 q,New H' [.int .u64 1] 51 H'_2 q->RdL H'_2 x0 (o0+9) cs_1/\RdL H'_2 x0 (o0+9) cs/\Ru 240 [.agg cs_1.toArray,.slice (some ⟨q,0,none⟩) 1 1] H'_2 fun r H'=>∃a_6 l_2 c_2,r=.slice a_6 l_2 c_2/\RdL H' x0 (o0+9) cs/\Ru 239 [.pointer (some ⟨x0,o0,none⟩),.agg cs.toArray,.slice a l c,.slice a_6 l_2 c_2,.slice a_1 l_1 c_1] H' fun r H'=>R (.tuple #[]) H'):Ru 237 [.p x0 o0,.slice x1 l1 c1] H R:=vcr ⟨fun _=>none,fun|2=>some [(6,.slc),(7,.slc)]|_=>none⟩ [.ptr x0 o0,.slc x1 l1 c1] h
theorem v238 (x0 o0:Nat)(x1:Option Addr)(l1 c1:Nat)(h:Ru 69 [.slice x1 l1 c1] H fun r H'=>∃a l c,r=.slice a l c/\WOk H' x0 o0 1/\∀H'_1,H'_1=wr H' x0 o0 (.slice a l c)->R (.tuple #[]) H'_1):Ru 238 [.p x0 o0,.slice x1 l1 c1] H R:=vcr nn [.ptr x0 o0,.slc x1 l1 c1] h
theorem v239 (x0 o0:Nat)(x1:List Value)(x2:Option Addr)(l2 c2:Nat)(x3:Option Addr)(l3 c3:Nat)(x4:Option Addr)(l4 c4:Nat)(h:∀H' p,New H x1 25 H' p->∃cs:List Value,cs.length=2/\RdL H' p 0 cs/\Ru 314 [.agg cs.toArray,.slice x2 l2 c2,.slice x3 l3 c3,.slice x4 l4 c4] H' fun r H'=>∃n,r=.i n/\Ru 112 [.p x0 o0,.i 4,.slice x3 l3 c3] H' fun r H'=>∃a l c,rd H' x0 (o0+5)=some (.slice a l c)/\((0:Int)<=(↑l:Int)/\(↑l:Int)<=(↑c3:Int))/\Ru 112 [.pointer (some ⟨x0,o0,none⟩),.i 5,.slice x3 (Int.toNat (↑l:Int)) c3] H' fun r H'=>Ru 121 [.p x0 o0,.i 6] H' fun r H'=>∃a l_1 c,r=.slice a l_1 c/\∃(I:Int->Heap->Prop),∃(μ:Int->Heap->Nat),I (0:Int) H'/\∀H n,I n H->(n<(↑l_1:Int)->∃b o,At a b o/\((0:Int)<=n/\n<(↑l_1:Int))/\∃x,rd H b (o+n.toNat)=some (.u x)/\I64 ((↑l:Int)+n)/\∃b o,At x3 b o/\((0:Int)<=(↑l:Int)+n/\(↑l:Int)+n<(↑l3:Int))/\∃x_1,rd H b (o+Int.toNat ((↑l:Int)+n))=some (.u x_1)/\∃b o,At a b o/\((0:Int)<=n/\n<(↑l_1:Int))/\WOk H b (o+n.toNat) 1/\∀H',H'=wr H b (o+n.toNat) (.int .u64 (↑(UInt64.toNat (x+x_1)):Int))->I64 (n+(1:Int))/\I (n+(1:Int)) H'/\μ (n+(1:Int)) H'<μ n H)/\(¬n<(↑l_1:Int)->Ru 112 [.p x0 o0,.i 6,.slice a l_1 c] H fun r H'=>∃n,rd H' x0 (o0+23)=some (.i n)/\I64 (n+(1:Int))/\WOk H' x0 (o0+23) 1/\∀H'_1,H'_1=wr H' x0 (o0+23) (.int .i64 (n+(1:Int)))->R (.tuple #[]) H'_1)):Ru 239 [.p x0 o0,.agg x1.toArray,.slice x2 l2 c2,.slice x3 l3 c3,.slice x4 l4 c4] H R:=vcr ⟨fun|7=>some [(36,.int .i64)]|_=>none,fun _=>none⟩ [.ptr x0 o0,.agg x1,.slc x2 l2 c2,.slc x3 l3 c3,.slc x4 l4 c4] h
theorem v240 (x0:List Value)(x1:Option Addr)(l1 c1:Nat)(h:∀H' p,New H x0 25 H' p->∃n,rd H' p 0=some (.i n)/\I64 (n-(↑l1:Int))/\Ru 69 [.slice x1 l1 c1] H' fun r H'=>∃a l c,r=.slice a l c/\rd H' p 0=some (.i n)/\((0:Int)<=n-(↑l1:Int)/\(n-(↑l1:Int))*(8:Int)<=(281474976710656:Int)/\I64 (n-(↑l1:Int)))/\App 1 8 51 [.int .u64 0] H' a l c (Int.toNat (n-(↑l1:Int))) (rep (Int.toNat (n-(↑l1:Int))) [.int .u64 0]) fun a' l' c' H'=>R (.slice a' l' c') H'):Ru 240 [.agg x0.toArray,.slice x1 l1 c1] H R:=vcr nn [.agg x0,.slc x1 l1 c1] h
theorem v242 (x0 o0:Nat)(x1:Int)(x2:Int)(x3:Option Addr)(l3 c3:Nat)(h:∀H' p,New H [.p x0 o0] 180 H' p->∀H'_1 p_1,New H' [.i x2] 3 H'_1 p_1->∀H' p_2,New H'_1 [.slice x3 l3 c3] 22 H' p_2->∃v,rd H' p 0=some v/\Ru 315 [v,.i x1,.func (.func 316) #[] #[.p p_1 0,.p p_2 0,.p p 0]] H' fun r H'=>∃n,r=.i n/\R (.i n) H'):Ru 242 [.p x0 o0,.i x1,.i x2,.slice x3 l3 c3] H R:=vcr nn [.ptr x0 o0,.int .i64 x1,.int .i64 x2,.slc x3 l3 c3] h
theorem v243 (x0 o0:Nat)(x1:Int)(h:∀H' p,New H [.p x0 o0] 180 H' p->∀H'_1 p_1,New H' [.i 0] 3 H'_1 p_1->∀H' p_2,New H'_1 [.slice none 0 0] 22 H' p_2->∃v,rd H' p 0=some v/\Ru 315 [v,.i x1,.func (.func 317) #[] #[.p p_1 0,.p p 0,.p p_2 0]] H' fun r H'=>∃n,r=.i n/\∃n_1,rd H' p_1 0=some (.i n_1)/\∃a l c,rd H' p_2 0=some (.slice a l c)/\WOk H' p_1 0 1/\∀H'_2,H'_2=wr H' p_1 0 (.i n_1)->rd H'_2 p_2 0=some (.slice a l c)/\WOk H'_2 p_2 0 1/\∀H',H'=wr H'_2 p_2 0 (.slice a l c)->∃n_2,rd H' p_1 0=some (.i n_2)/\∃a l c,rd H' p_2 0=some (.slice a l c)/\R (.tuple #[.i n_2,.slice a l c,.i n]) H'):Ru 243 [.p x0 o0,.i x1] H R:=vcr nn [.ptr x0 o0,.int .i64 x1] h
theorem v244 (x0 o0:Nat)(x1:Int)(h:∀H' p,New H [.p x0 o0] 180 H' p->∃v,rd H' p 0=some v/\Ru 315 [v,.i x1,.func (.func 318) #[] #[.p p 0]] H' fun r H'=>∃n,r=.i n/\R (.i n) H'):Ru 244 [.p x0 o0,.i x1] H R:=vcr nn [.ptr x0 o0,.int .i64 x1] h
theorem v245 (x0 o0:Nat)(h:∃v,rd H x0 o0=some v/\Ru 180 [v] H fun r H'=>∃a l c a_1 l_1 c_1,r=.tuple #[.slice a l c,.slice a_1 l_1 c_1]/\∃v,rd H' x0 o0=some v/\∃v_1,rd H' x0 o0=some v_1/\∃b o,v_1=.pointer (some ⟨b,o,none⟩)/\∃a_2 l_2 c_2,rd H' b (o+5)=some (.slice a_2 l_2 c_2)/\((0:Int)<=(↑l_2:Int)/\(↑l_2:Int)<=(↑c:Int))/\Ru 237 [v,.slice a (Int.toNat (↑l_2:Int)) c] H' fun r H'=>∃v,rd H' x0 o0=some v/\Ru 184 [v,.slice a l c,.slice a_1 l_1 c_1] H' fun r H'=>R (.tuple #[]) H'):Ru 245 [.p x0 o0] H R:=vcr nn [.ptr x0 o0] h
theorem v246 (x0 o0:Nat)(h:∃v,rd H x0 o0=some v/\∃v_1,rd H x0 o0=some v_1/\Ru 180 [v_1] H fun r H'=>∃a l c a_1 l_1 c_1,r=.tuple #[.slice a l c,.slice a_1 l_1 c_1]/\rd H' x0 o0=some v/\Ru 184 [v,.slice a l c,.slice a_1 l_1 c_1] H' fun r H'=>R (.tuple #[]) H'):Ru 246 [.p x0 o0] H R:=vcr nn [.ptr x0 o0] h
theorem v267 (x0:List Value)(x1:Option Addr)(l1 c1:Nat)(h:∀H' p,New H x0 25 H' p->∃cs:List Value,cs.length=2/\RdL H' p 0 cs/\Ru 216 [.agg cs.toArray] H' fun r H'=>∃a l c n,r=.tuple #[.slice a l c,.i n]/\(¬n=0->R (.tuple #[.slice none 0 0,.slice none 0 0,.i n]) H')/\(¬¬n=0->∃n,rd H' p 0=some (.i n)/\(n<(↑l1:Int)->R (.tuple #[.slice none 0 0,.slice none 0 0,.i 10]) H')/\(¬n<(↑l1:Int)->∃n,rd H' p 0=some (.i n)/\((0:Int)<=n/\n<=n/\(8:Int)*n<=(281474976710656:Int)/\I64 n)/\∀H'_1 q,New H' (rep (n.toNat) [.int .u64 0]) 51 H'_1 q->∃new,new.length=min l1 (n.toNat)/\SlL H'_1 x1 new/\(new=[]/\R (.tuple #[.slice a l c,.slice (some ⟨q,0,none⟩) (n.toNat) (n.toNat),.i 0]) H'_1\/∃b off,At (some ⟨q,0,none⟩) b off/\WOk H'_1 b off (new.length)/\(∀(v:Value),v∈new->One v)/\∀H',H'=wrL H'_1 b off new->R (.tuple #[.slice a l c,.slice (some ⟨q,0,none⟩) (n.toNat) (n.toNat),.i 0]) H')))):Ru 267 [.agg x0.toArray,.slice x1 l1 c1] H R:=vcr nn [.agg x0,.slc x1 l1 c1] h
theorem v268 (x0:Option Addr)(l0 c0:Nat)(x1:Option Addr)(l1 c1:Nat)(x2:Int)(x3:Value)(h:∃(I:Nat->Nat->Int->Int->Int->Heap->Prop),∃(μ:Nat->Nat->Int->Int->Int->Heap->Nat),(∀H' p,New H [.int .u64 0,.int .u64 0,.int .u64 0,.int .u64 0,.int .u64 0,.int .u64 0,.int .u64 0,.int .u64 0] 394 H' p->I p 0 (0:Int) (0:Int) (0:Int) H')/\∀H b o n n_1 n_2,I b o n n_1 n_2 H->∃(J:Heap->Prop),((n=(↑l0:Int)->R (.tuple #[]) H)/\(¬n=(↑l0:Int)->(n_2=x2->R (.tuple #[]) H)/\(¬n_2=x2->J H)))/\∀H_1,J H_1->∃b_1 o_1,At x0 b_1 o_1/\((0:Int)<=n/\n<(↑l0:Int))/\∃cs:List Value,cs.length=6/\RdL H_1 b_1 (o_1+n.toNat*6) cs/\∀H' p,New H_1 [.i 0,.i 0,.int .i64 0,.i 0,.int .u64 0,.i 0] 362 H' p->cs.length=6/\(∀v∈cs,One v)/\WOk H' p 0 6/\∀H'_1,H'_1=wrL H' p 0 cs->I64 (n+(1:Int))/\∃cs:List Value,cs.length=5/\RdL H'_1 p 0 cs/\∀H' p_1,New H'_1 [.i 0,.i 0,.i 0,.i 0,.int .u64 0] 74 H' p_1->cs.length=5/\(∀v∈cs,One v)/\WOk H' p_1 0 5/\∀H'_2,H'_2=wrL H' p_1 0 cs->∃n_3,rd H'_2 p_1 0=some (.i n_3)/\(n_3=7->∃x,rd H'_2 p_1 4=some (.u x)/\((0:Int)<=n_1/\n_1<(8:Int))/\WOk H'_2 b (o+n_1.toNat*1) 1/\∀H',H'=wr H'_2 b (o+n_1.toNat*1) (.u x)->I64 (n_1+(1:Int))/\I b o (n+(1:Int)) (n_1+(1:Int)) n_2 H'/\μ b o (n+(1:Int)) (n_1+(1:Int)) n_2 H'<μ b o n n_1 n_2 H)/\(¬n_3=7->(n_3=0->I64 (n_1-(1:Int))/\((0:Int)<=n_1-(1:Int)/\n_1-(1:Int)<(8:Int))/\∃x,rd H'_2 b (o+Int.toNat (n_1-(1:Int))*1)=some (.int .u64 (↑(UInt64.toNat x):Int))/\((0:Int)<=n_1-(1:Int)/\n_1-(1:Int)<(8:Int))/\WOk H'_2 b (o+Int.toNat (n_1-(1:Int))*1) 1/\∀H',H'=wr H'_2 b (o+Int.toNat (n_1-(1:Int))*1) (.int .u64 (↑(UInt64.toNat (x-UInt64.ofNat (nat_lit 1))):Int))->I64 (n_1-(1:Int))/\((0:Int)<=n_1-(1:Int)/\n_1-(1:Int)<(8:Int))/\∃x,rd H' b (o+Int.toNat (n_1-(1:Int))*1)=some (.u x)/\(UInt64.ofNat (nat_lit 0)<x->∃n_4,rd H' p 5=some (.i n_4)/\I b o n_4 n_1 n_2 H'/\μ b o n_4 n_1 n_2 H'<μ b o n n_1 n_2 H)/\(¬UInt64.ofNat (nat_lit 0)<x->I64 (n_1-(1:Int))/\I b o (n+(1:Int)) (n_1-(1:Int)) n_2 H'/\μ b o (n+(1:Int)) (n_1-(1:Int)) n_2 H'<μ b o n n_1 n_2 H))/\(¬n_3=0->∃n_4,rd H'_2 p_1 1=some (.i n_4)/\∃cs:List Value,cs.length=5/\RdL H'_2 p_1 0 cs/\∃n_5,rd H'_2 p_1 2=some (.i n_5)/\∃b_2 o_2,At x1 b_2 o_2/\((0:Int)<=n_5/\n_5<(↑l1:Int))/\∃x,rd H'_2 b_2 (o_2+n_5.toNat)=some (.u x)/\∃n_6,rd H'_2 p_1 3=some (.i n_6)/\∃b_3 o_3,At x1 b_3 o_3/\((0:Int)<=n_6/\n_6<(↑l1:Int))/\∃x_1,rd H'_2 b_3 (o_3+n_6.toNat)=some (.u x_1)/\Ru 338 [.agg cs.toArray,.u x,.u x_1] H'_2 fun r H'=>∃x,r=.u x/\rd H' p_1 1=some (.i n_4)/\∃b_4 o_4,At x1 b_4 o_4/\((0:Int)<=n_4/\n_4<(↑l1:Int))/\WOk H' b_4 (o_4+n_4.toNat) 1/\∀H'_3,H'_3=wr H' b_4 (o_4+n_4.toNat) (.u x)->∃cs:List Value,cs.length=5/\RdL H'_3 p_1 0 cs/\∃g u v,x3=.func (.func g) u v/\callable Tryz.prog g=true/\Ru g (Array.toList u++[.i n_2,.agg cs.toArray]++Array.toList v) H'_3 fun r H'=>I64 (n_2+(1:Int))/\I b o (n+(1:Int)) n_1 (n_2+(1:Int)) H'/\μ b o (n+(1:Int)) n_1 (n_2+(1:Int)) H'<μ b o n n_1 n_2 H))):Ru 268 [.slice x0 l0 c0,.slice x1 l1 c1,.i x2,x3] H R:=vcr ⟨fun|2=>some [(8,.ptr),(9,.int .i64),(10,.int .i64),(11,.int .i64)]|_=>none,fun|3=>some []|_=>none⟩ [.slc x0 l0 c0,.slc x1 l1 c1,.int .i64 x2,.op x3] h
theorem v269 (x0:Int)(x1:List Value)(h:∀H' p,New H x1 74 H' p->R (.tuple #[]) H'):Ru 269 [.i x0,.agg x1.toArray] H R:=vcr nn [.int .i64 x0,.agg x1] h
theorem v312 (x0:List Value)(x1:Option Addr)(l1 c1:Nat)(x2:Option Addr)(l2 c2:Nat)(h:∀H' p,New H x0 25 H' p->∃cs:List Value,cs.length=2/\RdL H' p 0 cs/\Ru 216 [.agg cs.toArray] H' fun r H'=>∃a l c n,r=.tuple #[.slice a l c,.i n]/\(¬n=0->R (.tuple #[.slice none 0 0,.i n]) H')/\(¬¬n=0->∃a_2 l_1 c_1,rd H' p 1=some (.slice a_2 l_1 c_1)/\Ru 167 [.slice a_2 l_1 c_1] H' fun r H'=>∃n n_1,r=.tuple #[.i n,.i n_1]/\∃n_2,rd H' p 0=some (.i n_2)/\(¬(↑l1:Int)=n_2->R (.tuple #[.slice none 0 0,.i 10]) H')/\(¬¬(↑l1:Int)=n_2->((↑l2:Int)<n->R (.tuple #[.slice none 0 0,.i 15]) H')/\(¬(↑l2:Int)<n->R (.tuple #[.slice a l c,.i 0]) H')))):Ru 312 [.agg x0.toArray,.slice x1 l1 c1,.slice x2 l2 c2] H R:=vcr nn [.agg x0,.slc x1 l1 c1,.slc x2 l2 c2] h
theorem v313 (x0:Option Addr)(l0 c0:Nat)(x1:Option Addr)(l1 c1:Nat)(x2:Option Addr)(l2 c2:Nat)(h:∃(I:Nat->Nat->Int->Int->Int->Heap->Prop),∃(μ:Nat->Nat->Int->Int->Int->Heap->Nat),(∀H' p,New H [.int .u64 0,.int .u64 0,.int .u64 0,.int .u64 0,.int .u64 0,.int .u64 0,.int .u64 0,.int .u64 0] 394 H' p->I p 0 (0:Int) (0:Int) (0:Int) H')/\∀H b o n n_1 n_2,I b o n n_1 n_2 H->(n=(↑l0:Int)->R (.i n_2) H)/\(¬n=(↑l0:Int)->∃b_1 o_1,At x0 b_1 o_1/\((0:Int)<=n/\n<(↑l0:Int))/\∃(cs:List Value),cs.length=6/\RdL H b_1 (o_1+n.toNat*6) cs/\∀H' p,New H [.i 0,.i 0,.i 0,.i 0,.int .u64 0,.i 0] 362 H' p->cs.length=6/\(∀(v:Value),v∈cs->One v)/\WOk H' p 0 6/\∀H'_1,H'_1=wrL H' p 0 cs->I64 (n+(1:Int))/\∃cs:List Value,cs.length=5/\RdL H'_1 p 0 cs/\∀H' p_1,New H'_1 [.i 0,.i 0,.i 0,.i 0,.int .u64 0] 74 H' p_1->cs.length=5/\(∀v∈cs,One v)/\WOk H' p_1 0 5/\∀H'_2,H'_2=wrL H' p_1 0 cs->∃n_3,rd H'_2 p_1 0=some (.i n_3)/\(n_3=7->∃x,rd H'_2 p_1 4=some (.u x)/\((0:Int)<=n_1/\n_1<(8:Int))/\WOk H'_2 b (o+n_1.toNat*1) 1/\∀H',H'=wr H'_2 b (o+n_1.toNat*1) (.u x)->I64 (n_1+(1:Int))/\I b o (n+(1:Int)) (n_1+(1:Int)) n_2 H'/\μ b o (n+(1:Int)) (n_1+(1:Int)) n_2 H'<μ b o n n_1 n_2 H)/\(¬n_3=7->(n_3=0->I64 (n_1-(1:Int))/\((0:Int)<=n_1-(1:Int)/\n_1-(1:Int)<(8:Int))/\∃x,rd H'_2 b (o+Int.toNat (n_1-(1:Int))*1)=some (.u x)/\((0:Int)<=n_1-(1:Int)/\n_1-(1:Int)<(8:Int))/\WOk H'_2 b (o+Int.toNat (n_1-(1:Int))*1) 1/\∀H',H'=wr H'_2 b (o+Int.toNat (n_1-(1:Int))*1) (.int .u64 (↑(UInt64.toNat (x-UInt64.ofNat (nat_lit 1))):Int))->I64 (n_1-(1:Int))/\((0:Int)<=n_1-(1:Int)/\n_1-(1:Int)<(8:Int))/\∃x,rd H' b (o+Int.toNat (n_1-(1:Int))*1)=some (.u x)/\(UInt64.ofNat (nat_lit 0)<x->∃n_4,rd H' p 5=some (.i n_4)/\I b o n_4 n_1 n_2 H'/\μ b o n_4 n_1 n_2 H'<μ b o n n_1 n_2 H)/\(¬UInt64.ofNat (nat_lit 0)<x->I64 (n_1-(1:Int))/\I b o (n+(1:Int)) (n_1-(1:Int)) n_2 H'/\μ b o (n+(1:Int)) (n_1-(1:Int)) n_2 H'<μ b o n n_1 n_2 H))/\(¬n_3=(0:Int)->∃n_4,rd H'_2 p_1 1=some (.i n_4)/\∃b_2 o_2,At x1 b_2 o_2/\((0:Int)<=n_4/\n_4<(↑l1:Int))/\∃x,rd H'_2 b_2 (o_2+n_4.toNat)=some (.u x)/\∃b_3 o_3,At x2 b_3 o_3/\((0:Int)<=n_2/\n_2<(↑l2:Int))/\WOk H'_2 b_3 (o_3+n_2.toNat) 1/\∀H',H'=wr H'_2 b_3 (o_3+n_2.toNat) (.u x)->I64 (n_2+(1:Int))/\∃n_5,rd H' p_1 1=some (.i n_5)/\∃cs:List Value,cs.length=5/\RdL H' p_1 0 cs/\∃n_6,rd H' p_1 2=some (.i n_6)/\∃b_4 o_4,At x1 b_4 o_4/\((0:Int)<=n_6/\n_6<(↑l1:Int))/\∃x,rd H' b_4 (o_4+n_6.toNat)=some (.u x)/\∃n_7,rd H' p_1 3=some (.i n_7)/\∃b_5 o_5,At x1 b_5 o_5/\((0:Int)<=n_7/\n_7<(↑l1:Int))/\∃x_1,rd H' b_5 (o_5+n_7.toNat)=some (.u x_1)/\Ru 338 [.agg cs.toArray,.u x,.u x_1] H' fun r H'=>∃x,r=.u x/\rd H' p_1 1=some (.i n_5)/\∃b_6 o_6,At x1 b_6 o_6/\((0:Int)<=n_5/\n_5<(↑l1:Int))/\WOk H' b_6 (o_6+n_5.toNat) 1/\∀H'_3,H'_3=wr H' b_6 (o_6+n_5.toNat) (.u x)->I b o (n+(1:Int)) n_1 (n_2+(1:Int)) H'_3/\μ b o (n+(1:Int)) n_1 (n_2+(1:Int)) H'_3<μ b o n n_1 n_2 H)))):Ru 313 [.slice x0 l0 c0,.slice x1 l1 c1,.slice x2 l2 c2] H R:=vcr ⟨fun|3=>some [(7,.ptr),(8,.int .i64),(9,.int .i64),(10,.int .i64)]|_=>none,fun _=>none⟩ [.slc x0 l0 c0,.slc x1 l1 c1,.slc x2 l2 c2] h
theorem v314 (x0:List Value)(x1:Option Addr)(l1 c1:Nat)(x2:Option Addr)(l2 c2:Nat)(x3:Option Addr)(l3 c3:Nat)(h:∀H' p,New H x0 25 H' p->∃cs:List Value,cs.length=2/\RdL H' p 0 cs/\Ru 216 [.agg cs.toArray] H' fun r H'=>∃a l c n,r=.tuple #[.slice a l c,.i n]/\(¬n=0->R (.i n) H')/\(¬¬n=0->∃a_2 l_1 c_1,rd H' p 1=some (.slice a_2 l_1 c_1)/\Ru 167 [.slice a_2 l_1 c_1] H' fun r H'=>∃n n_1,r=.tuple #[.i n,.i n_1]/\∃n_2,rd H' p 0=some (.i n_2)/\(¬(↑l1:Int)=n_2->R (.i 10) H')/\(¬¬(↑l1:Int)=n_2->∃n_3,rd H' p 0=some (.i n_3)/\(¬(↑l2:Int)=n_3->R (.i 10) H')/\(¬¬(↑l2:Int)=n_3->((↑l3:Int)<n->R (.i 15) H')/\(¬(↑l3:Int)<n->Ru 353 [.agg #[.slice x1 l1 c1,.slice x2 l2 c2,.slice x3 l3 c3],.slice a l c,.i n] H' fun r H'=>R (.i 0) H'))))):Ru 314 [.agg x0.toArray,.slice x1 l1 c1,.slice x2 l2 c2,.slice x3 l3 c3] H R:=vcr nn [.agg x0,.slc x1 l1 c1,.slc x2 l2 c2,.slc x3 l3 c3] h
theorem v315 (x0 o0:Nat)(x1:Int)(x2:Value)(h:∃cs:List Value,cs.length=3/\RdL H x0 o0 cs/\Ru 354 [.agg cs.toArray,.i x1] H fun r H'=>∃c,r=.bool c/\((!c)=true->R (.i 2) H')/\((!c)=false->∃v,rd H' x0 (o0+3)=some v/\∃cs:List Value,cs.length=3/\RdL H' x0 o0 cs/\Ru 195 [.agg cs.toArray,.i x1] H' fun r H'=>∃n,r=.i n/\rd H' x0 (o0+3)=some v/\Ru 194 [v,.i n] H' fun r H'=>∃x n,r=.tuple #[.u x,.i n]/\∃cs:List Value,cs.length=3/\RdL H' x0 o0 cs/\Ru 195 [.agg cs.toArray,.i x1] H' fun r H'=>∃n,r=.i n/\∃g u v,x2=.func (.func g) u v/\callable Tryz.prog g=true/\Ru g (Array.toList u++[.u x,.i n]++Array.toList v) H' fun r H'=>∃n,r=.i n/\R (.i n) H')):Ru 315 [.p x0 o0,.i x1,x2] H R:=vcr nn [.ptr x0 o0,.int .i64 x1,.op x2] h
theorem v316 (x0:UInt64)(x1:Int)(x2 o2:Nat)(x3 o3:Nat)(x4 o4:Nat)(h:∃n,rd H x2 o2=some (.i n)/\(n<(0:Int)->R (.i 2) H)/\(¬n<(0:Int)->∃n,rd H x2 o2=some (.i n)/\((65536:Int)<=n->R (.i 2) H)/\(¬(65536:Int)<=n->∃a l c,rd H x3 o3=some (.slice a l c)/\∃v,rd H x4 o4=some v/\∃b o,v=.p b o/\∃n,rd H b (o+2)=some (.i n)/\(¬(↑l:Int)=n->R (.i 10) H)/\(¬¬(↑l:Int)=n->(¬x0=UInt64.ofNat (nat_lit 0)->R (.i 15) H)/\(¬¬x0=UInt64.ofNat (nat_lit 0)->∃v,rd H x4 o4=some v/\∃b o,v=.p b o/\∃v_1,rd H b (o+3)=some v_1/\∃n,rd H x2 o2=some (.i n)/\I64 (n+(1:Int))/\∃a l c,rd H x3 o3=some (.slice a l c)/\∀H' q,New H [.int .u64 (↑(UInt64.toNat (UInt64.ofInt (n+(1:Int)))):Int)] 51 H' q->rd H' x3 o3=some (.slice a l c)/\rd H' b (o+3)=some v_1/\rd H' x4 o4=some v/\∃new,new.length=l/\SlL H' a new/\App 1 8 51 [.int .u64 0] H' (some ⟨q,0,none⟩) 1 1 l new fun a' l' c' H'=>rd H' b (o+3)=some v_1/\rd H' x4 o4=some v/\Ru 177 [v_1,.i x1,.slice a' l' c'] H' fun r H'=>∃n,r=.i n/\R (.i n) H'))))):Ru 316 [.u x0,.i x1,.p x2 o2,.p x3 o3,.p x4 o4] H R:=vcr nn [.u64 x0,.int .i64 x1,.ptr x2 o2,.ptr x3 o3,.ptr x4 o4] h
theorem v317 (x0:UInt64)(x1:Int)(x2 o2:Nat)(x3 o3:Nat)(x4 o4:Nat)(h:(x0=UInt64.ofNat (nat_lit 0)->R (.i 16) H)/\(¬x0=UInt64.ofNat (nat_lit 0)->UInt64.toNat x0<=9223372036854775807/\I64 ((↑(UInt64.toNat x0):Int)-(1:Int))/\WOk H x2 o2 1/\∀H',H'=wr H x2 o2 (.i ((↑(UInt64.toNat x0):Int)-(1:Int)))->∃v,rd H' x3 o3=some v/\∃b o,v=.p b o/\∃v,rd H' b (o+3)=some v/\I64 (x1+(1:Int))/\∃v_1,rd H' x3 o3=some v_1/\∃b o,v_1=.p b o/\∃n,rd H' b (o+2)=some (.i n)/\Ru 183 [v,.i (x1+(1:Int)),.i n] H' fun r H'=>∃a l c n,r=.tuple #[.slice a l c,.i n]/\WOk H' x4 o4 1/\∀H'_1,H'_1=wr H' x4 o4 (.slice a l c)->R (.i 0) H'_1)):Ru 317 [.u x0,.i x1,.p x2 o2,.p x3 o3,.p x4 o4] H R:=vcr nn [.u64 x0,.int .i64 x1,.ptr x2 o2,.ptr x3 o3,.ptr x4 o4] h
theorem v318 (x0:UInt64)(x1:Int)(x2 o2:Nat)(h:(x0=UInt64.ofNat (nat_lit 0)->R (.i 16) H)/\(¬x0=UInt64.ofNat (nat_lit 0)->∃v,rd H x2 o2=some v/\∃b o,v=.p b o/\∃v_1,rd H b (o+3)=some v_1/\∃v_2,rd H x2 o2=some v_2/\∃b_1 o_1,v_2=.p b_1 o_1/\∃cs:List Value,cs.length=3/\RdL H b_1 o_1 cs/\Ru 176 [.agg cs.toArray] H fun r H'=>∃n,r=.i n/\rd H' b (o+3)=some v_1/\rd H' x2 o2=some v/\((0:Int)<=n/\n<=n/\(8:Int)*n<=(281474976710656:Int)/\I64 n)/\∀H'_1 q,New H' (rep (n.toNat) [.int .u64 0]) 51 H'_1 q->rd H'_1 b (o+3)=some v_1/\rd H'_1 x2 o2=some v/\Ru 177 [v_1,.i x1,.slice (some ⟨q,0,none⟩) (n.toNat) (n.toNat)] H'_1 fun r H'=>∃n,r=.i n/\R (.i n) H')):Ru 318 [.u x0,.i x1,.p x2 o2] H R:=vcr nn [.u64 x0,.int .i64 x1,.ptr x2 o2] h
theorem v353 (x0:List Value)(x1:Option Addr)(l1 c1:Nat)(x2:Int)(h:∀H' p,New H x0 409 H' p->∃(I:Int->Nat->Nat->Int->Int->Heap->Prop),∃(μ:Int->Nat->Nat->Int->Int->Heap->Nat),(∀H'_1 p,New H' [.int .u64 0,.int .u64 0,.int .u64 0,.int .u64 0,.int .u64 0,.int .u64 0,.int .u64 0,.int .u64 0] 394 H'_1 p->I64 ((↑l1:Int)-(1:Int))/\I x2 p 0 ((↑l1:Int)-(1:Int)) (0:Int) H'_1)/\∀H n b o n_1 n_2,I n b o n_1 n_2 H->(n_1<(0:Int)->R (.tuple #[]) H)/\(¬n_1<(0:Int)->∃b_1 o_1,At x1 b_1 o_1/\((0:Int)<=n_1/\n_1<(↑l1:Int))/\∃cs:List Value,cs.length=6/\RdL H b_1 (o_1+n_1.toNat*6) cs/\∀H' p_1,New H [.i 0,.i 0,.i 0,.i 0,.int .u64 0,.i 0] 362 H' p_1->cs.length=6/\(∀v∈cs,One v)/\WOk H' p_1 0 6/\∀H'_1,H'_1=wrL H' p_1 0 cs->I64 (n_1-(1:Int))/\∃n_3,rd H'_1 p_1 0=some (.int .i64 n_3)/\(n_3=0->∃n_4,rd H'_1 p_1 5=some (.i n_4)/\I64 (n_4-(1:Int))/\∃b_2 o_2,At x1 b_2 o_2/\((0:Int)<=n_4-(1:Int)/\n_4-(1:Int)<(↑l1:Int))/\∃x,rd H'_1 b_2 (o_2+Int.toNat (n_4-(1:Int))*6+4)=some (.u x)/\((0:Int)<=n_2/\n_2<(8:Int))/\WOk H'_1 b (o+n_2.toNat*1) 1/\∀H',H'=wr H'_1 b (o+n_2.toNat*1) (.int .u64 (↑(UInt64.toNat x):Int))->I64 (n_2+(1:Int))/\I n b o (n_1-(1:Int)) (n_2+(1:Int)) H'/\μ n b o (n_1-(1:Int)) (n_2+(1:Int)) H'<μ n b o n_1 n_2 H)/\(¬n_3=0->(n_3=7->I64 (n_2-(1:Int))/\((0:Int)<=n_2-(1:Int)/\n_2-(1:Int)<(8:Int))/\∃x,rd H'_1 b (o+Int.toNat (n_2-(1:Int))*1)=some (.u x)/\((0:Int)<=n_2-(1:Int)/\n_2-(1:Int)<(8:Int))/\WOk H'_1 b (o+Int.toNat (n_2-(1:Int))*1) 1/\∀H',H'=wr H'_1 b (o+Int.toNat (n_2-(1:Int))*1) (.int .u64 (↑(UInt64.toNat (x-UInt64.ofNat (nat_lit 1))):Int))->I64 (n_2-(1:Int))/\((0:Int)<=n_2-(1:Int)/\n_2-(1:Int)<(8:Int))/\∃x,rd H' b (o+Int.toNat (n_2-(1:Int))*1)=some (.u x)/\(UInt64.ofNat (nat_lit 0)<x->∃n_4,rd H' p_1 5=some (.i n_4)/\I64 (n_4-(2:Int))/\I n b o (n_4-(2:Int)) n_2 H'/\μ n b o (n_4-(2:Int)) n_2 H'<μ n b o n_1 n_2 H)/\(¬UInt64.ofNat (nat_lit 0)<x->I64 (n_2-(1:Int))/\I n b o (n_1-(1:Int)) (n_2-(1:Int)) H'/\μ n b o (n_1-(1:Int)) (n_2-(1:Int)) H'<μ n b o n_1 n_2 H))/\(¬n_3=7->I64 (n-(1:Int))/\∃cs:List Value,cs.length=3/\RdL H'_1 p 0 cs/\∃cs_1:List Value,cs_1.length=5/\RdL H'_1 p_1 0 cs_1/\Ru 370 [.agg cs.toArray,.agg cs_1.toArray,.i (n-(1:Int))] H'_1 fun r H'=>I (n-(1:Int)) b o (n_1-(1:Int)) n_2 H'/\μ (n-(1:Int)) b o (n_1-(1:Int)) n_2 H'<μ n b o n_1 n_2 H)))):Ru 353 [.agg x0.toArray,.slice x1 l1 c1,.i x2] H R:=vcr ⟨fun|3=>some [(2,.int .i64),(6,.ptr),(7,.int .i64),(8,.int .i64)]|_=>none,fun _=>none⟩ [.agg x0,.slc x1 l1 c1,.int .i64 x2] h
theorem v354 (x0:List Value)(x1:Int)(h:∀H' p,New H x0 250 H' p->((0:Int)<=x1->∃n,rd H' p 1=some (.i n)/\R (.bool (decide (x1<n))) H')/\(¬(0:Int)<=x1->R (.bool false) H')):Ru 354 [.agg x0.toArray,.i x1] H R:=vcr nn [.agg x0,.int .i64 x1] h
theorem v370 (x0:List Value)(x1:List Value)(x2:Int)(h:∀H' p,New H x0 409 H' p->∀H'_1 p_1,New H' x1 74 H'_1 p_1->∃a l c,rd H'_1 p 1=some (.slice a l c)/\∃n,rd H'_1 p_1 1=some (.i n)/\∃b o,At a b o/\((0:Int)<=n/\n<(↑l:Int))/\∃x,rd H'_1 b (o+n.toNat)=some (.u x)/\∃a l c,rd H'_1 p 1=some (.slice a l c)/\∃n,rd H'_1 p_1 1=some (.i n)/\∃b o,At a b o/\((0:Int)<=n/\n<(↑l:Int))/\WOk H'_1 b (o+n.toNat) 1/\∀H',H'=wr H'_1 b (o+n.toNat) (.int .u64 0)->∃a l c,rd H' p 0=some (.slice a l c)/\∃n,rd H' p_1 1=some (.i n)/\∃a_1 l_1 c,rd H' p 2=some (.slice a_1 l_1 c)/\∃b o,At a_1 b o/\((0:Int)<=x2/\x2<(↑l_1:Int))/\∃x_1,rd H' b (o+x2.toNat)=some (.u x_1)/\∃b o,At a b o/\((0:Int)<=n/\n<(↑l:Int))/\WOk H' b (o+n.toNat) 1/\∀H'_2,H'_2=wr H' b (o+n.toNat) (.u x_1)->∃cs:List Value,cs.length=5/\RdL H'_2 p_1 0 cs/\∃a l c,rd H'_2 p 0=some (.slice a l c)/\∃n,rd H'_2 p_1 2=some (.i n)/\∃b o,At a b o/\((0:Int)<=n/\n<(↑l:Int))/\∃x_2,rd H'_2 b (o+n.toNat)=some (.u x_2)/\∃a l c,rd H'_2 p 0=some (.slice a l c)/\∃n,rd H'_2 p_1 3=some (.int .i64 n)/\∃b o,At a b o/\((0:Int)<=n/\n<(↑l:Int))/\∃x_3,rd H'_2 b (o+n.toNat)=some (.u x_3)/\Ru 372 [.agg cs.toArray,.u x_2,.int .u64 (↑(UInt64.toNat x_3):Int)] H'_2 fun r H'=>∃x_4 x_5,r=.tuple #[.u x_4,.u x_5]/\∃a l c,rd H' p 1=some (.slice a l c)/\∃n,rd H' p_1 2=some (.i n)/\∃b o,At a b o/\((0:Int)<=n/\n<(↑l:Int))/\∃x_6,rd H' b (o+n.toNat)=some (.u x_6)/\∃b o,At a b o/\((0:Int)<=n/\n<(↑l:Int))/\WOk H' b (o+n.toNat) 1/\∀H'_3,H'_3=wr H' b (o+n.toNat) (.int .u64 (↑(UInt64.toNat (x_6+x_4*x)):Int))->∃a l c,rd H'_3 p 1=some (.slice a l c)/\∃n,rd H'_3 p_1 3=some (.i n)/\∃b o,At a b o/\((0:Int)<=n/\n<(↑l:Int))/\∃x_7,rd H'_3 b (o+n.toNat)=some (.u x_7)/\∃b o,At a b o/\((0:Int)<=n/\n<(↑l:Int))/\WOk H'_3 b (o+n.toNat) 1/\∀H',H'=wr H'_3 b (o+n.toNat) (.int .u64 (↑(UInt64.toNat (x_7+x_5*x)):Int))->R (.tuple #[]) H'):Ru 370 [.agg x0.toArray,.agg x1.toArray,.i x2] H R:=vcr nn [.agg x0,.agg x1,.int .i64 x2] h
end Go.VC
set_option linter.unusedVariables false
namespace Go.VC
open Go Go.Proofs
set_option maxRecDepth 100000
variable {H:Heap}{R:Value->Heap->Prop}
theorem v8 (x0:List Value)(h:∀H' p,New H x0 27 H' p->∀H'_1 p_1,New H' [.i 0,.i 0,.i 0,.i 0] 30 H'_1 p_1->∃cs:List Value,cs.length=9/\RdL H'_1 p 0 cs/\Ru 46 [.agg cs.toArray] H'_1 fun r H'=>∃n,r=.i n/\(¬n=0->4=4/\(∀v∈[.i 0,.i 0,.i 0,.i 0],One v)/\WOk H' p_1 0 4/\∀H'_2,H'_2=wrL H' p_1 0 [.i 0,.i 0,.i 0,.i 0]->∃cs:List Value,cs.length=4/\RdL H'_2 p_1 0 cs/\R (.tuple #[.agg cs.toArray,.i n]) H'_2)/\(¬¬n=0->∃cs:List Value,cs.length=9/\RdL H' p 0 cs/\Ru 47 [.agg cs.toArray] H' fun r H'=>∃cs:List Value,cs.length=9/\r=.agg cs.toArray/\∀H'_2 p_2,New H' [.i 0,.i 0,.i 0,.i 0,.i 0,.i 0,.i 0,.i 0,.i 0] 109 H'_2 p_2->cs.length=9/\(∀v∈cs,One v)/\WOk H'_2 p_2 0 9/\∀H',H'=wrL H'_2 p_2 0 cs->∃(J:Int->Heap->Prop),(∃n,rd H' p 0=some (.i n)/\(n=(3:Int)->∃n,rd H' p 7=some (.i n)/\J n H')/\(¬n=3->J (1:Int) H'))/\∀H n,J n H->∃cs:List Value,cs.length=9/\RdL H p_2 0 cs/\∃n_1,rd H p 8=some (.i n_1)/\Ru 48 [.agg cs.toArray,.i n] H fun r H'=>∃n_2,r=.i n_2/\rd H' p 8=some (.i n_1)/\(n_1<n_2->4=4/\(∀v∈[.i 0,.i 0,.i 0,.i 0],One v)/\WOk H' p_1 0 4/\∀H'_3,H'_3=wrL H' p_1 0 [.i 0,.i 0,.i 0,.i 0]->∃cs:List Value,cs.length=4/\RdL H'_3 p_1 0 cs/\R (.tuple #[.agg cs.toArray,.i 13]) H'_3)/\(¬n_1<n_2->((0:Int)<=(7:Int)/\(7:Int)<(9:Int))/\∃n_3,rd H' p_2 7=some (.i n_3)/\((0:Int)<=(8:Int)/\(8:Int)<(9:Int))/\∃n_4,rd H' p_2 8=some (.i n_4)/\∀H'_3 p_3,New H' [.i 0,.i 0,.i 0,.i 0] 30 H'_3 p_3->List.length (α:=Value) [.i 0,.i n_3,.i n_4,.i n]=4/\(∀v∈[.i 0,.i n_3,.i n_4,.i n],One v)/\WOk H'_3 p_3 0 4/\∀H',H'=wrL H'_3 p_3 0 [.i 0,.i n_3,.i n_4,.i n]->∃(I:Int->Heap->Prop),∃(μ:Int->Heap->Nat),I (0:Int) H'/\∀H n,I n H->(n<(7:Int)->∃n_5,rd H p_3 0=some (.i n_5)/\((0:Int)<=n/\n<(9:Int))/\∃n_6,rd H p_2 (0+n.toNat*1)=some (.i n_6)/\I64 (n_5+n_6)/\WOk H p_3 0 1/\∀H',H'=wr H p_3 0 (.int .i64 (n_5+n_6))->I64 (n+(1:Int))/\I (n+(1:Int)) H'/\μ (n+(1:Int)) H'<μ n H)/\(¬n<(7:Int)->∃n,rd H p 0=some (.i n)/\(¬n=3->∃n,rd H p 8=some (.i n)/\∃n_5,rd H p_3 0=some (.i n_5)/\I64 (n-n_5)/\∃n_6,rd H p_3 1=some (.i n_6)/\I64 (n-n_5-n_6)/\∃n_7,rd H p_3 2=some (.i n_7)/\((0:Int)<=n-n_5-n_6/\(0:Int)<n_7/\I64 (n-n_5-n_6))/\WOk H p_3 3 1/\∀H',H'=wr H p_3 3 (.i ((n-n_5-n_6) / n_7))->∃cs:List Value,cs.length=4/\RdL H' p_3 0 cs/\cs.length=4/\(∀v∈cs,One v)/\WOk H' p_1 0 4/\∀H'_4,H'_4=wrL H' p_1 0 cs->∃cs:List Value,cs.length=4/\RdL H'_4 p_1 0 cs/\R (.tuple #[.agg cs.toArray,.i 0]) H'_4)/\(¬¬n=3->∃cs:List Value,cs.length=4/\RdL H p_3 0 cs/\cs.length=4/\(∀v∈cs,One v)/\WOk H p_1 0 4/\∀H',H'=wrL H p_1 0 cs->∃cs:List Value,cs.length=4/\RdL H' p_1 0 cs/\R (.tuple #[.agg cs.toArray,.i 0]) H'))))):Ru 8 [.agg x0.toArray] H R:=vcr ⟨fun|12=>some [(35,.int .i64)]|_=>none,fun|8=>some [(6,.int .i64)]|_=>none⟩ [.agg x0] h
theorem v46 (x0:List Value)(h:∀H' p,New H x0 27 H' p->∃cs:List Value,cs.length=9/\RdL H' p 0 cs/\∀H'_1 p,New H' [.i 0,.slice none 0 0,.slice none 0 0,.i 0,.slice none 0 0,.i 0,.slice none 0 0,.int .i64 0,.i 0] 172 H'_1 p->cs.length=9/\(∀v∈cs,One v)/\WOk H'_1 p 0 9/\∀H',H'=wrL H'_1 p 0 cs->∃cs:List Value,cs.length=9/\RdL H' p 0 cs/\∃cs_1:List Value,cs_1.length=9/\RdL H' p 0 cs_1/\∃cs_2:List Value,cs_2.length=9/\RdL H' p 0 cs_2/\∃cs_3:List Value,cs_3.length=9/\RdL H' p 0 cs_3/\∃cs_4:List Value,cs_4.length=9/\RdL H' p 0 cs_4/\∀H'_2 q,New H' [.func (.func 98) #[.agg cs.toArray] #[],.func (.func 99) #[.agg cs_1.toArray] #[],.func (.func 100) #[.agg cs_2.toArray] #[],.func (.func 101) #[.agg (List.toArray cs_3)] #[],.func (.func 102) #[.agg cs_4.toArray] #[]] 122 H'_2 q->∃(I:Int->Heap->Prop),∃(μ:Int->Heap->Nat),I (0:Int) H'_2/\∀H n,I n H->(n<(5:Int)->∃b o,At (some ⟨q,0,none⟩) b o/\((0:Int)<=n/\n<(5:Int))/\∃v,rd H b (o+n.toNat)=some v/\∃g u v_1,v=.func (.func g) u v_1/\callable Tryz.prog g=true/\Ru g (Array.toList u++[]++Array.toList v_1) H fun r H'=>∃n_1,r=.int .i64 n_1/\(¬n_1=0->R (.i n_1) H')/\(¬¬n_1=0->I64 (n+(1:Int))/\I (n+(1:Int)) H'/\μ (n+(1:Int)) H'<μ n H))/\(¬n<(5:Int)->R (.i 0) H)):Ru 46 [.agg x0.toArray] H R:=vcr ⟨fun|3=>some [(20,.int .i64)]|_=>none,fun _=>none⟩ [.agg x0] h
theorem v47 (x0:List Value)(h:∀H' p,New H x0 27 H' p->∀H'_1 p_1,New H' [.i 0,.i 0,.i 0,.i 0,.i 0,.i 0,.i 0,.i 0,.i 0] 109 H'_1 p_1->∃a l c,rd H'_1 p 1=some (.slice a l c)/\∃a l_1 c,rd H'_1 p 2=some (.slice a l_1 c)/\∃cs:List Value,cs.length=9/\RdL H'_1 p 0 cs/\Ru 103 [.agg cs.toArray] H'_1 fun r H'=>∃n n_1,r=.tuple #[.i n,.i n_1]/\I64 (n+n_1)/\I64 ((↑l:Int)+(1:Int))/\∃n_2,rd H' p 0=some (.i n_2)/\(n_2=3->∃n_3,rd H' p 3=some (.i n_3)/\I64 (n+n_3)/\∃n_4,rd H' p 3=some (.i n_4)/\∃n_5,rd H' p 5=some (.i n_5)/\∃n_6,rd H' p 3=some (.i n_6)/\∃n_7,rd H' p 5=some (.i n_7)/\List.length (α:=Value) [.i (↑l_1:Int),.i (↑l:Int),.i n_4,.i n_5,.int .i64 (maxI true n_6 n_7),.i (↑l:Int),.i (↑l_1:Int),.i n_1,.i (n+n_3)]=9/\(∀v∈[.i (↑l_1:Int),.i (↑l:Int),.i n_4,.i n_5,.i (maxI true n_6 n_7),.i (↑l:Int),.i (↑l_1:Int),.i n_1,.i (n+n_3)],One v)/\WOk H' p_1 0 9/\∀H'_2,H'_2=wrL H' p_1 0 [.i (↑l_1:Int),.i (↑l:Int),.i n_4,.i n_5,.i (maxI true n_6 n_7),.i (↑l:Int),.i (↑l_1:Int),.i n_1,.i (n+n_3)]->∃cs:List Value,cs.length=9/\RdL H'_2 p_1 0 cs/\R (.agg cs.toArray) H'_2)/\(¬n_2=3->∃n_3,rd H' p 3=some (.i n_3)/\∃n_4,rd H' p 5=some (.i n_4)/\∃n_5,rd H' p 3=some (.i n_5)/\∃n_6,rd H' p 5=some (.i n_6)/\List.length (α:=Value) [.i (↑l_1:Int),.i (↑l:Int),.i n_3,.i n_4,.i (maxI true n_5 n_6),.i (↑l:Int),.i (↑l_1:Int),.i (n+n_1),.i ((↑l:Int)+(1:Int))]=9/\(∀(v:Value),v∈[.i (↑l_1:Int),.i (↑l:Int),.i n_3,.i n_4,.i (maxI true n_5 n_6),.i (↑l:Int),.i (↑l_1:Int),.i (n+n_1),.i ((↑l:Int)+(1:Int))]->One v)/\WOk H' p_1 0 9/\∀H'_2,H'_2=wrL H' p_1 0 [.i (↑l_1:Int),.i (↑l:Int),.i n_3,.i n_4,.i (maxI true n_5 n_6),.i (↑l:Int),.i (↑l_1:Int),.i (n+n_1),.i ((↑l:Int)+(1:Int))]->∃cs:List Value,cs.length=9/\RdL H'_2 p_1 0 cs/\R (.agg cs.toArray) H'_2)):Ru 47 [.agg x0.toArray] H R:=vcr nn [.agg x0] h
theorem v48 (x0:List Value)(x1:Int)(h:∀H' p,New H x0 109 H' p->∃cs:List Value,cs.length=9/\RdL H' p 0 cs/\Ru 104 [.agg cs.toArray,.i x1] H' fun r H'=>∃a l c,r=.slice a l c/\∃b o,At a b o/\((0:Int)<=(9:Int)/\(9:Int)<(↑l:Int))/\∃n,rd H' b (o+9)=some (.i n)/\R (.i n) H'):Ru 48 [.agg x0.toArray,.i x1] H R:=vcr nn [.agg x0,.int .i64 x1] h
theorem v65 (x0:List Value)(x1:List Value)(h:∀H' p,New H x0 25 H' p->∀H'_1 p_1,New H' x1 25 H'_1 p_1->∃cs:List Value,cs.length=2/\RdL H'_1 p 0 cs/\∃cs_1:List Value,cs_1.length=2/\RdL H'_1 p_1 0 cs_1/\(cs.length=2/\cs_1.length=2)/\∀H' q,New H'_1 (cs++(cs_1++[])) 216 H' q->Ru 133 [.slice (some ⟨q,0,none⟩) 2 2] H' fun r H'=>∃n,r=.i n/\R (.i n) H'):Ru 65 [.agg x0.toArray,.agg x1.toArray] H R:=vcr nn [.agg x0,.agg x1] h
theorem v66 (x0:List Value)(x1:List Value)(x2:Int)(x3:Int)(h:∀H' p,New H x0 25 H' p->∀H'_1 p_1,New H' x1 25 H'_1 p_1->∃(J:Bool->Heap->Prop),((x2<(1:Int)->J true H'_1)/\(¬x2<(1:Int)->((64:Int)<x2->J true H'_1)/\(¬(64:Int)<x2->(x3<(0:Int)->J true H'_1)/\(¬x3<(0:Int)->J (decP ((64:Int)<x3) inferInstance) H'_1))))/\∀H c,J c H->(c=true->Ru 134 [.bool true,.i 10] H fun r H'=>∃n,r=.i n/\R (.i n) H')/\(c=false->∃n,rd H p 0=some (.i n)/\I64 (x2+x3)/\I64 (x2+x3+(1:Int))/\(n<x2+x3+(1:Int)->Ru 134 [.bool true,.i 10] H fun r H'=>∃n,r=.i n/\R (.i n) H')/\(¬n<x2+x3+(1:Int)->∃n,rd H p_1 0=some (.i n)/\I64 (x2+x3)/\Ru 134 [.bool (decide (n<x2+x3)),.i 10] H fun r H'=>∃n,r=.i n/\R (.i n) H'))):Ru 66 [.agg x0.toArray,.agg x1.toArray,.i x2,.i x3] H R:=vcr ⟨fun _=>none,fun|2=>some [(9,.bool)]|_=>none⟩ [.agg x0,.agg x1,.int .i64 x2,.int .i64 x3] h
theorem v68 (x0:Option Addr)(l0 c0:Nat)(h:(x0=none->R (.slice none 0 0) H)/\(¬x0=none->∀H' q,New H [] 74 H' q->∃new,new.length=l0*5/\SlL H' x0 new/\App 5 40 74 [.i 0,.i 0,.i 0,.i 0,.int .u64 0] H' (some ⟨q,0,none⟩) 0 0 l0 new fun a' l' c' H'=>R (.slice a' l' c') H')):Ru 68 [.slice x0 l0 c0] H R:=vcr nn [.slc x0 l0 c0] h
theorem v69 (x0:Option Addr)(l0 c0:Nat)(h:(x0=none->R (.slice none 0 0) H)/\(¬x0=none->∀H' q,New H [] 51 H' q->∃new,new.length=l0/\SlL H' x0 new/\App 1 8 51 [.int .u64 0] H' (some ⟨q,0,none⟩) 0 0 l0 new fun a' l' c' H'=>R (.slice a' l' c') H')):Ru 69 [.slice x0 l0 c0] H R:=vcr nn [.slc x0 l0 c0] h
theorem v97 (x0:Option Addr)(l0 c0:Nat)(h:(x0=none->R (.slice none 0 0) H)/\(¬x0=none->∀H' q,New H [] 3 H' q->∃new,new.length=l0/\SlL H' x0 new/\App 1 8 3 [.i 0] H' (some ⟨q,0,none⟩) 0 0 l0 new fun a' l' c' H'=>R (.slice a' l' c') H')):Ru 97 [.slice x0 l0 c0] H R:=vcr nn [.slc x0 l0 c0] h
theorem v98 (x0:List Value)(h:∀H' p,New H x0 172 H' p->∃n,rd H' p 0=some (.i n)/\(n<(1:Int)->Ru 166 [.bool true,.i 5] H' fun r H'=>∃n,r=.i n/\R (.i n) H')/\(¬n<(1:Int)->∃n,rd H' p 0=some (.i n)/\Ru 166 [.bool (decide ((3:Int)<n)),.i 5] H' fun r H'=>∃n,r=.i n/\R (.i n) H')):Ru 98 [.agg x0.toArray] H R:=vcr nn [.agg x0] h
theorem v99 (x0:List Value)(h:∀H' p,New H x0 172 H' p->∃cs:List Value,cs.length=2/\RdL H' p 3 cs/\∃cs_1:List Value,cs_1.length=2/\RdL H' p 5 cs_1/\Ru 65 [.agg cs.toArray,.agg cs_1.toArray] H' fun r H'=>∃n,r=.i n/\R (.i n) H'):Ru 99 [.agg x0.toArray] H R:=vcr nn [.agg x0] h
theorem v100 (x0:List Value)(h:∀H' p,New H x0 172 H' p->∃cs:List Value,cs.length=2/\RdL H' p 3 cs/\∃cs_1:List Value,cs_1.length=2/\RdL H' p 5 cs_1/\∃a l c,rd H' p 1=some (.slice a l c)/\∃a l_1 c,rd H' p 2=some (.slice a l_1 c)/\Ru 66 [.agg cs.toArray,.agg cs_1.toArray,.i (↑l:Int),.i (↑l_1:Int)] H' fun r H'=>∃n,r=.i n/\R (.i n) H'):Ru 100 [.agg x0.toArray] H R:=vcr nn [.agg x0] h
theorem v101 (x0:List Value)(h:∀H' p,New H x0 172 H' p->∃n,rd H' p 0=some (.i n)/\(n=2->∃n,rd H' p 7=some (.i n)/\(n<(0:Int)->Ru 166 [.bool true,.i 11] H' fun r H'=>∃n,r=.i n/\R (.i n) H')/\(¬n<(0:Int)->∃n,rd H' p 7=some (.i n)/\Ru 166 [.bool (decide ((0:Int)<n)),.i 11] H' fun r H'=>∃n,r=.i n/\R (.i n) H'))/\(¬n=2->∃n,rd H' p 7=some (.i n)/\(n<(0:Int)->Ru 166 [.bool true,.i 11] H' fun r H'=>∃n,r=.i n/\R (.i n) H')/\(¬n<(0:Int)->∃n,rd H' p 7=some (.i n)/\Ru 166 [.bool (decide ((65535:Int)<n)),.i 11] H' fun r H'=>∃n,r=.i n/\R (.i n) H'))):Ru 101 [.agg x0.toArray] H R:=vcr nn [.agg x0] h
theorem v102 (x0:List Value)(h:∀H' p,New H x0 172 H' p->∃n,rd H' p 8=some (.i n)/\(n<(0:Int)->Ru 166 [.bool true,.i 12] H' fun r H'=>∃n,r=.i n/\R (.i n) H')/\(¬n<(0:Int)->∃n,rd H' p 8=some (.i n)/\Ru 166 [.bool (decide ((1048576:Int)<n)),.i 12] H' fun r H'=>∃n,r=.i n/\R (.i n) H')):Ru 102 [.agg x0.toArray] H R:=vcr nn [.agg x0] h
theorem v103 (x0:List Value)(h:∀H' p,New H x0 27 H' p->∃cs:List Value,cs.length=9/\RdL H' p 0 cs/\Ru 46 [.agg cs.toArray] H' fun r H'=>∃n,r=.i n/\(¬n=0->R (.tuple #[.i 0,.i 0]) H')/\(¬¬n=(0:Int)->∃a l c,rd H' p 4=some (.slice a l c)/\Ru 167 [.slice a l c] H' fun r H'=>∃n n_1,r=.tuple #[.i n,.i n_1]/\∃a l c,rd H' p 6=some (.slice a l c)/\Ru 167 [.slice a l c] H' fun r H'=>∃n_2 n_3,r=.tuple #[.i n_2,.i n_3]/\R (.tuple #[.i n,.i n_2]) H')):Ru 103 [.agg x0.toArray] H R:=vcr nn [.agg x0] h
theorem v104 (x0:List Value)(x1:Int)(h:∀H' p,New H x0 109 H' p->∀H'_1 p_1,New H' [.i 0] 3 H'_1 p_1->WOk H'_1 p_1 0 1/\∀H',H'=wr H'_1 p_1 0 (.i 0)->∃(I:Option Addr->Nat->Nat->Int->Heap->Prop),∃(μ:Option Addr->Nat->Nat->Int->Heap->Nat),I none 0 0 (0:Int) H'/\∀H a l c n,I a l c n H->(n<(8:Int)->((0:Int)<=n/\n<(9:Int))/\∃n_1,rd H p (0+n.toNat*1)=some (.i n_1)/\Ru 168 [.i n_1,.pointer (some ⟨p_1,0,none⟩)] H fun r H'=>∃n_2,r=.i n_2/\∀H'_2 q,New H' [.i n_2] 3 H'_2 q->∃new,new.length=1/\SlL H'_2 (some ⟨q,0,none⟩) new/\App 1 8 3 [.i 0] H'_2 a l c 1 new fun a' l' c' H'=>I64 (n+(1:Int))/\I a' l' c' (n+(1:Int)) H'/\μ a' l' c' (n+(1:Int)) H'<μ a l c n H)/\(¬n<(8:Int)->((0:Int)<=(8:Int)/\(8:Int)<(9:Int))/\∃n,rd H p 8=some (.i n)/\I64 (n*x1)/\Ru 168 [.i (n*x1),.p p_1 0] H fun r H'=>∃n,r=.i n/\∀H'_2 q,New H' [.i n] 3 H'_2 q->∃new,new.length=1/\SlL H'_2 (some ⟨q,0,none⟩) new/\App 1 8 3 [.i 0] H'_2 a l c 1 new fun a' l' c' H'=>∃n,rd H' p_1 0=some (.i n)/\∀H'_3 q,New H' [.i n] 3 H'_3 q->∃new,new.length=1/\SlL H'_3 (some ⟨q,0,none⟩) new/\App 1 8 3 [.i 0] H'_3 a' l' c' 1 new fun a' l' c' H'=>R (.slice a' l' c') H')):Ru 104 [.agg x0.toArray,.i x1] H R:=vcr ⟨fun|5=>some [(7,.slc),(10,.int .i64)]|_=>none,fun _=>none⟩ [.agg x0,.int .i64 x1] h
theorem v129 (x0:List Value)(h:∀H' p,New H x0 25 H' p->∃cs:List Value,cs.length=2/\RdL H' p 0 cs/\cs.length=2/\∀H'_1 q,New H' (cs++[]) 216 H'_1 q->Ru 133 [.slice (some ⟨q,0,none⟩) 1 1] H'_1 fun r H'=>∃n,r=.i n/\R (.i n) H'):Ru 129 [.agg x0.toArray] H R:=vcr nn [.agg x0] h
theorem v130 (x0:Option Addr)(l0 c0:Nat)(h:∀H' p,New H [.slice x0 l0 c0] 23 H' p->∃a l c,rd H' p 0=some (.slice a l c)/\((0:Int)<=(↑l:Int)/\(↑l:Int)<=(↑l:Int)/\(8:Int)*(↑l:Int)<=(281474976710656:Int)/\I64 (↑l:Int))/\∀H'_1 q,New H' (rep (Int.toNat (↑l:Int)) [.i 0]) 3 H'_1 q->∀H' p_1,New H'_1 [.slice none 0 0] 46 H' p_1->WOk H' p_1 0 1/\∀H'_2,H'_2=wr H' p_1 0 (.slice (some ⟨q,0,none⟩) (Int.toNat (↑l:Int)) (Int.toNat (↑l:Int)))->∀H' p_2,New H'_2 [.slice none 0 0] 46 H' p_2->∃a l c,rd H' p 0=some (.slice a l c)/\Ru 201 [.slice a l c,.func (.func 202) #[] #[.p p_1 0,.p p 0,.pointer (some ⟨p_2,0,none⟩)]] H' fun r H'=>∃c,r=.bool c/\((!c)=true->R (.tuple #[.slice none 0 0,.i 6]) H')/\((!c)=false->∃a l c,rd H' p_1 0=some (.slice a l c)/\R (.tuple #[.slice a l c,.int .i64 0]) H')):Ru 130 [.slice x0 l0 c0] H R:=vcr nn [.slc x0 l0 c0] h
theorem v131 (x0:Option Addr)(l0 c0:Nat)(h:Ru 203 [.slice x0 l0 c0] H fun r H'=>∃a l c a_1 l_1 c_1 n n_1,r=.tuple #[.slice a l c,.slice a_1 l_1 c_1,.i n,.i n_1]/\R (.tuple #[.slice a l c,.i n_1]) H'):Ru 131 [.slice x0 l0 c0] H R:=vcr nn [.slc x0 l0 c0] h
theorem v133 (x0:Option Addr)(l0 c0:Nat)(h:∃(J:Option Addr->Nat->Nat->Heap->Prop),(∃(I:Option Addr->Nat->Nat->Int->Heap->Prop),∃(μ:Option Addr->Nat->Nat->Int->Heap->Nat),I none 0 0 (0:Int) H/\∀H a l c n,I a l c n H->(n<(↑l0:Int)->∃b o,At x0 b o/\((0:Int)<=n/\n<(↑l0:Int))/\∃cs:List Value,cs.length=2/\RdL H b (o+n.toNat*2) cs/\∀H' p,New H [.i 0,.slice none 0 0] 216 H' p->cs.length=2/\(∀(v:Value),v∈cs->One v)/\WOk H' p 0 2/\∀H'_1,H'_1=wrL H' p 0 cs->∃cs:List Value,cs.length=2/\RdL H'_1 p 0 cs/\Ru 204 [.agg cs.toArray] H'_1 fun r H'=>∃a_5 l_1 c_1,r=.slice a_5 l_1 c_1/\∀H'_2 q,New H' [.slice a_5 l_1 c_1] 173 H'_2 q->∃new,new.length=1/\SlL H'_2 (some ⟨q,0,none⟩) new/\App 1 24 173 [.slice none 0 0] H'_2 a l c 1 new fun a' l' c' H'=>I64 (n+(1:Int))/\I a' l' c' (n+(1:Int)) H'/\μ a' l' c' (n+(1:Int)) H'<μ a l c n H)/\(¬n<(↑l0:Int)->J a l c H))/\∀H a l c,J a l c H->∃(I:Int->Heap->Prop),∃(μ:Int->Heap->Nat),I (0:Int) H/\∀H n,I n H->(n<(4:Int)->∃(I_1:Int->Heap->Prop),∃(μ_1:Int->Heap->Nat),I_1 (0:Int) H/\∀H_1 n_1,I_1 n_1 H_1->(n_1<(↑l:Int)->∃b o,At a b o/\((0:Int)<=n_1/\n_1<(↑l:Int))/\∃a l c,rd H_1 b (o+n_1.toNat)=some (.slice a l c)/\∃b o,At a b o/\((0:Int)<=n/\n<(↑l:Int))/\∃v,rd H_1 b (o+n.toNat)=some v/\∃g u v_1,v=.func (.func g) u v_1/\callable Tryz.prog g=true/\Ru g (Array.toList u++[]++Array.toList v_1) H_1 fun r H'=>∃n,r=.i n/\(¬n=0->R (.i n) H')/\(¬¬n=0->I64 (n_1+(1:Int))/\I_1 (n_1+(1:Int)) H'/\μ_1 (n_1+(1:Int)) H'<μ_1 n_1 H_1))/\(¬n_1<(↑l:Int)->I64 (n+(1:Int))/\I (n+(1:Int)) H_1/\μ (n+(1:Int)) H_1<μ n H))/\(¬n<(4:Int)->R (.i 0) H)):Ru 133 [.slice x0 l0 c0] H R:=vcr ⟨fun|3=>some [(3,.slc),(12,.int .i64)]|8=>some [(22,.int .i64)]|11=>some [(27,.int .i64)]|_=>none,fun|7=>some [(3,.slc)]|_=>none⟩ [.slc x0 l0 c0] h
theorem v134 (x0:Bool)(x1:Int)(h:(x0=true->R (.i x1) H)/\(x0=false->R (.i 0) H)):Ru 134 [.bool x0,.i x1] H R:=vcr nn [.bl x0,.int .i64 x1] h
theorem v166 (x0:Bool)(x1:Int)(h:(x0=true->R (.i x1) H)/\(x0=false->R (.i 0) H)):Ru 166 [.bool x0,.i x1] H R:=vcr nn [.bl x0,.int .i64 x1] h
theorem v167 (x0:Option Addr)(l0 c0:Nat)(h:Ru 203 [.slice x0 l0 c0] H fun r H'=>∃a l c a_1 l_1 c_1 n n_1,r=.tuple #[.slice a l c,.slice a_1 l_1 c_1,.i n,.i n_1]/\R (.tuple #[.i n,.i n_1]) H'):Ru 167 [.slice x0 l0 c0] H R:=vcr nn [.slc x0 l0 c0] h
theorem v168 (x0:Int)(x1 o1:Nat)(h:∃n,rd H x1 o1=some (.i n)/\∃n_1,rd H x1 o1=some (.i n_1)/\I64 (n_1+x0)/\WOk H x1 o1 1/\∀H',H'=wr H x1 o1 (.i (n_1+x0))->R (.i n) H'):Ru 168 [.i x0,.p x1 o1] H R:=vcr nn [.int .i64 x0,.ptr x1 o1] h
theorem v169 (x0:List Value)(h:∀H' p,New H x0 27 H' p->∃cs:List Value,cs.length=9/\RdL H' p 0 cs/\Ru 8 [.agg cs.toArray] H' fun r H'=>∃cs:List Value,cs.length=4/\∃n,r=.tuple #[.agg cs.toArray,.i n]/\∀H'_1 p_1,New H' [.i 0,.i 0,.i 0,.i 0] 30 H'_1 p_1->cs.length=4/\(∀v∈cs,One v)/\WOk H'_1 p_1 0 4/\∀H',H'=wrL H'_1 p_1 0 cs->(¬n=0->R (.tuple #[.slice none 0 0,.i n]) H')/\(¬¬n=0->∃cs:List Value,cs.length=9/\RdL H' p 0 cs/\∃n,rd H' p_1 3=some (.i n)/\Ru 47 [.agg cs.toArray] H' fun r H'=>∃(cs:List Value),cs.length=9/\r=.agg cs.toArray/\rd H' p_1 3=some (.i n)/\Ru 104 [.agg cs.toArray,.i n] H' fun r H'=>∃a l c,r=.slice a l c/\R (.tuple #[.slice a l c,.int .i64 0]) H')):Ru 169 [.agg x0.toArray] H R:=vcr nn [.agg x0] h
theorem v187 (x0:Option Addr)(l0 c0:Nat)(x1:Value)(h:Ru 241 [.slice x0 l0 c0,x1] H fun r H'=>∃n,r=.i n/\R (.bool (decide ((0:Int)<=n))) H'):Ru 187 [.slice x0 l0 c0,x1] H R:=vcr nn [.slc x0 l0 c0,.op x1] h
theorem v201 (x0:Option Addr)(l0 c0:Nat)(x1:Value)(h:∃(I:Option Addr->Nat->Nat->Bool->Int->Heap->Prop),∃(μ:Option Addr->Nat->Nat->Bool->Int->Heap->Nat),I none 0 0 true (0:Int) H/\∀H a l c c_1 n,I a l c c_1 n H->(n<(↑l0:Int)->∃b o,At x0 b o/\((0:Int)<=n/\n<(↑l0:Int))/\∃cs:List Value,cs.length=5/\RdL H b (o+n.toNat*5) cs/\∀H' p,New H [.i 0,.i 0,.i 0,.i 0,.int .u64 0] 74 H' p->cs.length=5/\(∀v∈cs,One v)/\WOk H' p 0 5/\∀H'_1,H'_1=wrL H' p 0 cs->∃(J:Bool->Heap->Prop),(∃n,rd H'_1 p 0=some (.i n)/\(n<(0:Int)->J true H'_1)/\(¬n<(0:Int)->∃n,rd H'_1 p 0=some (.i n)/\((7:Int)<n->J true H'_1)/\(¬(7:Int)<n->∃n,rd H'_1 p 0=some (.i n)/\(n=0->J (decP ((↑l:Int)=(0:Int)) inferInstance) H'_1)/\(¬n=0->J false H'_1))))/\∀H_1 c_2,J c_2 H_1->(c_2=true->R (.bool false) H_1)/\(c_2=false->∃n_1,rd H_1 p 0=some (.i n_1)/\(n_1=0->I64 ((↑l:Int)-(1:Int))/\((0:Int)<=(↑l:Int)-(1:Int)/\(↑l:Int)-(1:Int)<=(↑c:Int))/\∃g u v,x1=.func (.func g) u v/\callable Tryz.prog g=true/\Ru g (Array.toList u++[.i n,.slice a (Int.toNat ((↑l:Int)-(1:Int))) c]++Array.toList v) H_1 fun r H'=>∃n_2,rd H' p 0=some (.i n_2)/\(n_2=7->∀H'_2 q,New H' [.i n] 3 H'_2 q->∃new,new.length=1/\SlL H'_2 (some ⟨q,0,none⟩) new/\App 1 8 3 [.i 0] H'_2 a (Int.toNat ((↑l:Int)-(1:Int))) c 1 new fun a' l' c' H'=>I64 (n+(1:Int))/\I a' l' c' c_1 (n+(1:Int)) H'/\μ a' l' c' c_1 (n+(1:Int)) H'<μ a l c c_1 n H)/\(¬n_2=7->I64 (n+(1:Int))/\I a (Int.toNat ((↑l:Int)-(1:Int))) c c_1 (n+(1:Int)) H'/\μ a (Int.toNat ((↑l:Int)-(1:Int))) c c_1 (n+(1:Int)) H'<μ a l c c_1 n H))/\(¬n_1=0->∃g u v,x1=.func (.func g) u v/\callable Tryz.prog g=true/\Ru g (Array.toList u++[.i n,.slice a l c]++Array.toList v) H_1 fun r H'=>∃n_2,rd H' p 0=some (.i n_2)/\(n_2=7->∀H'_2 q,New H' [.i n] 3 H'_2 q->∃new,new.length=1/\SlL H'_2 (some ⟨q,0,none⟩) new/\App 1 8 3 [.i 0] H'_2 a l c 1 new fun a' l' c' H'=>I64 (n+(1:Int))/\I a' l' c' c_1 (n+(1:Int)) H'/\μ a' l' c' c_1 (n+(1:Int)) H'<μ a l c c_1 n H)/\(¬n_2=7->I64 (n+(1:Int))/\I a l c c_1 (n+(1:Int)) H'/\μ a l c c_1 (n+(1:Int)) H'<μ a l c c_1 n H))))/\(¬n<(↑l0:Int)->(c_1=true->R (.bool (decide ((↑l:Int)=(0:Int)))) H)/\(c_1=false->R (.bool false) H))):Ru 201 [.slice x0 l0 c0,x1] H R:=vcr ⟨fun|4=>some [(5,.slc),(6,.bool),(11,.int .i64)]|_=>none,fun|8=>some [(16,.bool)]|_=>none⟩ [.slc x0 l0 c0,.op x1] h
theorem v202 (x0:Int)(x1:Option Addr)(l1 c1:Nat)(x2 o2:Nat)(x3 o3:Nat)(x4 o4:Nat)(h:∃a l c,rd H x2 o2=some (.slice a l c)/\∃b o,At a b o/\((0:Int)<=x0/\x0<(↑l:Int))/\WOk H b (o+x0.toNat) 1/\∀H',H'=wr H b (o+x0.toNat) (.i (-1))->∃a l c,rd H' x3 o3=some (.slice a l c)/\∃b o,At a b o/\((0:Int)<=x0/\x0<(↑l:Int))/\∃n,rd H' b (o+x0.toNat*5)=some (.i n)/\(n=7->∃a l c,rd H' x4 o4=some (.slice a l c)/\∀H'_1 q,New H' [.i x0] 3 H'_1 q->∃new,new.length=1/\SlL H'_1 (some ⟨q,0,none⟩) new/\App 1 8 3 [.i 0] H'_1 a l c 1 new fun a' l' c' H'=>WOk H' x4 o4 1/\∀H'_2,H'_2=wr H' x4 o4 (.slice a' l' c')->R (.tuple #[]) H'_2)/\(¬n=7->(n=0->∃a l c,rd H' x4 o4=some (.slice a l c)/\∃a_1 l_1 c,rd H' x4 o4=some (.slice a_1 l_1 c)/\I64 ((↑l_1:Int)-(1:Int))/\∃b o,At a b o/\((0:Int)<=(↑l_1:Int)-(1:Int)/\(↑l_1:Int)-(1:Int)<(↑l:Int))/\∃n,rd H' b (o+Int.toNat ((↑l_1:Int)-(1:Int)))=some (.i n)/\∃a l c,rd H' x4 o4=some (.slice a l c)/\∃a_2 l c_1,rd H' x4 o4=some (.slice a_2 l c_1)/\I64 ((↑l:Int)-(1:Int))/\((0:Int)<=(↑l:Int)-(1:Int)/\(↑l:Int)-(1:Int)<=(↑c:Int))/\WOk H' x4 o4 1/\∀H'_1,H'_1=wr H' x4 o4 (.slice a (Int.toNat ((↑l:Int)-(1:Int))) c)->∃a l c,rd H'_1 x2 o2=some (.slice a l c)/\∃a_3 l_2 c,rd H'_1 x2 o2=some (.slice a_3 l_2 c)/\∃b o,At a b o/\((0:Int)<=x0/\x0<(↑l:Int))/\WOk H'_1 b (o+x0.toNat) 1/\∀H',H'=wr H'_1 b (o+x0.toNat) (.i n)->rd H' x2 o2=some (.slice a_3 l_2 c)/\∃b o,At a_3 b o/\((0:Int)<=n/\n<(↑l_2:Int))/\WOk H' b (o+n.toNat) 1/\∀H'_2,H'_2=wr H' b (o+n.toNat) (.i x0)->R (.tuple #[]) H'_2)/\(¬n=0->R (.tuple #[]) H'))):Ru 202 [.i x0,.slice x1 l1 c1,.p x2 o2,.p x3 o3,.p x4 o4] H R:=vcr nn [.int .i64 x0,.slc x1 l1 c1,.ptr x2 o2,.ptr x3 o3,.ptr x4 o4] h
theorem v203 (x0:Option Addr)(l0 c0:Nat)(h:Ru 130 [.slice x0 l0 c0] H fun r H'=>∃a l c n,r=.tuple #[.slice a l c,.i n]/\(¬n=0->R (.tuple #[.slice none 0 0,.slice none 0 0,.i 0,.i n]) H')/\(¬¬n=0->∃(J:Option Addr->Nat->Nat->Option Addr->Nat->Nat->Heap->Prop),((((0:Int)<=(↑l0:Int)/\(↑l0:Int)<=(↑l0:Int)/\(8:Int)*(↑l0:Int)<=(281474976710656:Int)/\I64 (↑l0:Int))/\∀H'_1 q,New H' (rep (Int.toNat (↑l0:Int)) [.i 0]) 3 H'_1 q->((0:Int)<=(↑l0:Int)/\(↑l0:Int)<=(↑l0:Int)/\(8:Int)*(↑l0:Int)<=(281474976710656:Int)/\I64 (↑l0:Int))/\∀H' q_1,New H'_1 (rep (Int.toNat (↑l0:Int)) [.i 0]) 3 H' q_1->J (some ⟨q,0,none⟩) (Int.toNat (↑l0:Int)) (Int.toNat (↑l0:Int)) (some ⟨q_1,0,none⟩) (Int.toNat (↑l0:Int)) (Int.toNat (↑l0:Int)) H')/\((0:Int)<=(↑l0:Int)/\(↑l0:Int)<=(↑l0:Int)/\(8:Int)*(↑l0:Int)<=(281474976710656:Int)/\I64 (↑l0:Int))/\∀H'_1 q,New H' (rep (Int.toNat (↑l0:Int)) [.i 0]) 3 H'_1 q->((0:Int)<=(↑l0:Int)/\(↑l0:Int)<=(↑l0:Int)/\(8:Int)*(↑l0:Int)<=(281474976710656:Int)/\I64 (↑l0:Int))/\∀H' q_1,New H'_1 (rep (Int.toNat (↑l0:Int)) [.i 0]) 3 H' q_1->J (some ⟨q_1,0,none⟩) (Int.toNat (↑l0:Int)) (Int.toNat (↑l0:Int)) (some ⟨q,0,none⟩) (Int.toNat (↑l0:Int)) (Int.toNat (↑l0:Int)) H')/\∀H a l c a_1 l_1 c_1,J a l c a_1 l_1 c_1 H->2=2/\∀H' q,New H [.i 0,.i 0] 346 H' q->∃(J:Int->Option Addr->Nat->Nat->Heap->Prop),(∃(I:Int->Option Addr->Nat->Nat->Int->Heap->Prop),∃(μ:Int->Option Addr->Nat->Nat->Int->Heap->Nat),I (0:Int) (some ⟨q,0,none⟩) 1 1 (0:Int) H'/\∀H n a_4 l_2 c n_1,I n a_4 l_2 c n_1 H->(n_1<(↑l0:Int)->∃b o,At x0 b o/\((0:Int)<=n_1/\n_1<(↑l0:Int))/\∃cs:List Value,cs.length=5/\RdL H b (o+n_1.toNat*5) cs/\∀H' p,New H [.i 0,.i 0,.i 0,.i 0,.int .u64 0] 74 H' p->cs.length=5/\(∀v∈cs,One v)/\WOk H' p 0 5/\∀H'_1,H'_1=wrL H' p 0 cs->I64 ((↑l_2:Int)-(1:Int))/\∃b o,At a_4 b o/\((0:Int)<=(↑l_2:Int)-(1:Int)/\(↑l_2:Int)-(1:Int)<(↑l_2:Int))/\∃n_2,rd H'_1 p 0=some (.i n_2)/\(n_2=7->List.length (α:=Value) [.i n_1,.i 0]=2/\∀H' q,New H'_1 [.i n_1,.i 0] 346 H' q->∃new,new.length=2/\SlL H' (some ⟨q,0,none⟩) new/\App 2 16 346 [.i 0,.i 0] H' a_4 l_2 c 1 new fun a' l' c' H'=>I64 (n_1+(1:Int))/\I n a' l' c' (n_1+(1:Int)) H'/\μ n a' l' c' (n_1+(1:Int)) H'<μ n a_4 l_2 c n_1 H)/\(¬n_2=7->(n_2=0->∃n_3,rd H'_1 b (o+Int.toNat ((↑l_2:Int)-(1:Int))*2+1)=some (.i n_3)/\∃n_4,rd H'_1 b (o+Int.toNat ((↑l_2:Int)-(1:Int))*2)=some (.i n_4)/\∃b_1 o_1,At x0 b_1 o_1/\((0:Int)<=n_4/\n_4<(↑l0:Int))/\∃x,rd H'_1 b_1 (o_1+n_4.toNat*5+4)=some (.u x)/\Ru 260 [.i n_3,.u x] H'_1 fun r H'=>∃n_5 c_2,r=.tuple #[.i n_5,.bool c_2]/\((!c_2)=true->J (9:Int) a_4 l_2 c H')/\((!c_2)=false->∃n_6,rd H' b (o+Int.toNat ((↑l_2:Int)-(1:Int))*2)=some (.i n_6)/\∃n_7,rd H' b (o+Int.toNat ((↑l_2:Int)-(1:Int))*2)=some (.i n_7)/\∃n_8,rd H' b (o+Int.toNat ((↑l_2:Int)-(1:Int))*2+1)=some (.i n_8)/\∃b o,At a b o/\((0:Int)<=n_6/\n_6<(↑l:Int))/\WOk H' b (o+n_6.toNat) 1/\∀H'_2,H'_2=wr H' b (o+n_6.toNat) (.i n_5)->∃b o,At a_1 b o/\((0:Int)<=n_7/\n_7<(↑l_1:Int))/\WOk H'_2 b (o+n_7.toNat) 1/\∀H',H'=wr H'_2 b (o+n_7.toNat) (.i n_8)->I64 ((↑l_2:Int)-(1:Int))/\((0:Int)<=(↑l_2:Int)-(1:Int)/\(↑l_2:Int)-(1:Int)<=(↑c:Int))/\I64 ((↑(Int.toNat ((↑l_2:Int)-(1:Int))):Int)-(1:Int))/\I64 ((↑(Int.toNat ((↑l_2:Int)-(1:Int))):Int)-(1:Int))/\∃b o,At a_4 b o/\((0:Int)<=(↑(Int.toNat ((↑l_2:Int)-(1:Int))):Int)-(1:Int)/\(↑(Int.toNat ((↑l_2:Int)-(1:Int))):Int)-(1:Int)<(↑(Int.toNat ((↑l_2:Int)-(1:Int))):Int))/\∃n_9,rd H' b (o+Int.toNat ((↑(Int.toNat ((↑l_2:Int)-(1:Int))):Int)-(1:Int))*2+1)=some (.int .i64 n_9)/\∀H'_3 q,New H' [.i n_9,.i n_5] 3 H'_3 q->Ru 261 [.slice (some ⟨q,0,none⟩) 2 2] H'_3 fun r H'=>∃n_10,r=.i n_10/\∃b o,At a_4 b o/\((0:Int)<=(↑(Int.toNat ((↑l_2:Int)-(1:Int))):Int)-(1:Int)/\(↑(Int.toNat ((↑l_2:Int)-(1:Int))):Int)-(1:Int)<(↑(Int.toNat ((↑l_2:Int)-(1:Int))):Int))/\WOk H' b (o+Int.toNat ((↑(Int.toNat ((↑l_2:Int)-(1:Int))):Int)-(1:Int))*2+1) 1/\∀H'_4,H'_4=wr H' b (o+Int.toNat ((↑(Int.toNat ((↑l_2:Int)-(1:Int))):Int)-(1:Int))*2+1) (.i n_10)->I64 (n_1+(1:Int))/\I n a_4 (Int.toNat ((↑l_2:Int)-(1:Int))) c (n_1+(1:Int)) H'_4/\μ n a_4 (Int.toNat ((↑l_2:Int)-(1:Int))) c (n_1+(1:Int)) H'_4<μ n a_4 l_2 c n_1 H))/\(¬n_2=0->∃cs:List Value,cs.length=5/\RdL H'_1 p 0 cs/\Ru 262 [.agg cs.toArray] H'_1 fun r H'=>∃n_3 c_2,r=.tuple #[.i n_3,.bool c_2]/\(c_2=true->∃b_1 o_1,At a b_1 o_1/\((0:Int)<=n_1/\n_1<(↑l:Int))/\WOk H' b_1 (o_1+n_1.toNat) 1/\∀H'_2,H'_2=wr H' b_1 (o_1+n_1.toNat) (.i 1)->∃n_4,rd H'_2 b (o+Int.toNat ((↑l_2:Int)-(1:Int))*2+1)=some (.i n_4)/\I64 (n_4+(1:Int))/\WOk H'_2 b (o+Int.toNat ((↑l_2:Int)-(1:Int))*2+1) 1/\∀H',H'=wr H'_2 b (o+Int.toNat ((↑l_2:Int)-(1:Int))*2+1) (.i (n_4+(1:Int)))->I64 (n_1+(1:Int))/\I n a_4 l_2 c (n_1+(1:Int)) H'/\μ n a_4 l_2 c (n_1+(1:Int)) H'<μ n a_4 l_2 c n_1 H)/\(c_2=false->I64 (n_1+(1:Int))/\I n a_4 l_2 c (n_1+(1:Int)) H'/\μ n a_4 l_2 c (n_1+(1:Int)) H'<μ n a_4 l_2 c n_1 H))))/\(¬n_1<(↑l0:Int)->J n a_4 l_2 c H))/\∀H n a_4 l_2 c_2,J n a_4 l_2 c_2 H->∃(J:Int->Heap->Prop),((n=0->∃b o,At a_4 b o/\((0:Int)<=(0:Int)/\(0:Int)<(↑l_2:Int))/\∃n_1,rd H b (o+1)=some (.i n_1)/\((65536:Int)<n_1->J (9:Int) H)/\(¬(65536:Int)<n_1->J n H))/\(¬n=0->J n H))/\∀H n,J n H->(¬n=0->R (.tuple #[.slice none 0 0,.slice none 0 0,.i 0,.i n]) H)/\(¬¬n=0->∃b o,At a_4 b o/\((0:Int)<=(0:Int)/\(0:Int)<(↑l_2:Int))/\∃n,rd H b (o+1)=some (.i n)/\rd H b (o+1)=some (.i n)/\rd H b (o+1)=some (.i n)/\R (.tuple #[.slice a l c,.slice a_1 l_1 c_1,.int .i64 n,.i 0]) H))):Ru 203 [.slice x0 l0 c0] H R:=vcr ⟨fun|7=>some [(5,.int .i64),(8,.slc),(34,.int .i64)]|_=>none,fun|5=>some [(2,.slc),(3,.slc)]|25=>some [(5,.int .i64),(8,.slc)]|27=>some [(5,.int .i64)]|_=>none⟩ [.slc x0 l0 c0] h
theorem v204 (x0:List Value)(h:∀H' p,New H x0 216 H' p->∃cs:List Value,cs.length=2/\RdL H' p 0 cs/\∃cs_1:List Value,cs_1.length=2/\RdL H' p 0 cs_1/\∃cs_2:List Value,cs_2.length=2/\RdL H' p 0 cs_2/\∃(cs_3:List Value),cs_3.length=2/\RdL H' p 0 cs_3/\∀H'_1 q,New H' [.func (.func 263) #[.agg cs.toArray] #[],.func (.func 264) #[.agg cs_1.toArray] #[],.func (.func 265) #[.agg cs_2.toArray] #[],.func (.func 266) #[.agg cs_3.toArray] #[]] 122 H'_1 q->R (.slice (some ⟨q,0,none⟩) 4 4) H'_1):Ru 204 [.agg x0.toArray] H R:=vcr nn [.agg x0] h
theorem v206 (x0:Option Addr)(l0 c0:Nat)(h:∃(I:Int->Int->Heap->Prop),∃(μ:Int->Int->Heap->Nat),I (0:Int) (0:Int) H/\∀H n n_1,I n n_1 H->(n_1<(↑l0:Int)->∃b o,At x0 b o/\((0:Int)<=n_1/\n_1<(↑l0:Int))/\∃a l c,rd H b (o+n_1.toNat)=some (.slice a l c)/\I64 (n+(↑l:Int))/\(n+(↑l:Int)<(0:Int)->False)/\(¬n+(↑l:Int)<(0:Int)->I64 (n_1+(1:Int))/\I (n+(↑l:Int)) (n_1+(1:Int)) H/\μ (n+(↑l:Int)) (n_1+(1:Int)) H<μ n n_1 H))/\(¬n_1<(↑l0:Int)->Ru 270 [.slice none 0 0,.i n] H fun r H'=>∃a l c,r=.slice a l c/\∃(I:Option Addr->Nat->Nat->Int->Heap->Prop),∃(μ:Option Addr->Nat->Nat->Int->Heap->Nat),I a l c (0:Int) H'/\∀H a l c n,I a l c n H->(n<(↑l0:Int)->∃b o,At x0 b o/\((0:Int)<=n/\n<(↑l0:Int))/\∃a_3 l_1 c_1,rd H b (o+n.toNat)=some (.slice a_3 l_1 c_1)/\∃new,new.length=l_1/\SlL H a_3 new/\App 1 8 51 [.int .u64 0] H a l c l_1 new fun a' l' c' H'=>I64 (n+(1:Int))/\I a' l' c' (n+(1:Int)) H'/\μ a' l' c' (n+(1:Int)) H'<μ a l c n H)/\(¬n<(↑l0:Int)->R (.slice a l c) H))):Ru 206 [.slice x0 l0 c0] H R:=vcr ⟨fun|3=>some [(3,.int .i64),(11,.int .i64)]|11=>some [(6,.slc),(27,.int .i64)]|_=>none,fun _=>none⟩ [.slc x0 l0 c0] h
theorem v216 (x0:List Value)(h:∀H' p,New H x0 25 H' p->∃cs:List Value,cs.length=2/\RdL H' p 0 cs/\Ru 129 [.agg cs.toArray] H' fun r H'=>∃n,r=.i n/\(¬n=0->R (.tuple #[.slice none 0 0,.i n]) H')/\(¬¬n=0->∃a l c,rd H' p 1=some (.slice a l c)/\Ru 130 [.slice a l c] H' fun r H'=>∃a l c n,r=.tuple #[.slice a l c,.i n]/\∃a_1 l_1 c,rd H' p 1=some (.slice a_1 l_1 c)/\Ru 131 [.slice a_1 l_1 c] H' fun r H'=>∃a_2 l_2 c n,r=.tuple #[.slice a_2 l_2 c,.i n]/\∃(I:Option Addr->Nat->Nat->Option Addr->Nat->Nat->Int->Heap->Prop),∃(μ:Option Addr->Nat->Nat->Option Addr->Nat->Nat->Int->Heap->Nat),I none 0 0 none 0 0 (0:Int) H'/\∀H a_3 l_3 c a_4 l_4 c_1 n,I a_3 l_3 c a_4 l_4 c_1 n H->∃a_6 l_5 c_2,rd H p 1=some (.slice a_6 l_5 c_2)/\(n<(↑l_5:Int)->∃a_8 l_6 c_3,rd H p 1=some (.slice a_8 l_6 c_3)/\∃b o,At a_8 b o/\((0:Int)<=n/\n<(↑l_6:Int))/\∃cs:List Value,cs.length=5/\RdL H b (o+n.toNat*5) cs/\∀H' p,New H [.i 0,.i 0,.i 0,.int .i64 0,.int .u64 0] 74 H' p->cs.length=5/\(∀v∈cs,One v)/\WOk H' p 0 5/\∀H'_1,H'_1=wrL H' p 0 cs->∃(J:Bool->Heap->Prop),(∃n_1,rd H'_1 p 0=some (.i n_1)/\(n_1=7->∃b o,At a_2 b o/\((0:Int)<=n/\n<(↑l_2:Int))/\∃n_2,rd H'_1 b (o+n.toNat)=some (.i n_2)/\J (decP (n_2=0) inferInstance) H'_1)/\(¬n_1=7->J false H'_1))/\∀H_1 c_4,J c_4 H_1->(c_4=true->∃b o,At a b o/\((0:Int)<=n/\n<(↑l:Int))/\∃n_1,rd H_1 b (o+n.toNat)=some (.i n_1)/\I64 (n_1+(1:Int))/\I a_3 l_3 c a_4 l_4 c_1 (n_1+(1:Int)) H_1/\μ a_3 l_3 c a_4 l_4 c_1 (n_1+(1:Int)) H_1<μ a_3 l_3 c a_4 l_4 c_1 n H)/\(c_4=false->∃n_1,rd H_1 p 0=some (.i n_1)/\(n_1=7->∀H' q,New H_1 [.i (↑l_3:Int)] 3 H' q->∃new,new.length=1/\SlL H' (some ⟨q,0,none⟩) new/\App 1 8 3 [.i 0] H' a_4 l_4 c_1 1 new fun a' l' c' H'=>∃cs:List Value,cs.length=5/\RdL H' p 0 cs/\cs.length=5/\List.length (cs++[.i 0])=6/\∀H'_2 q,New H' (cs++[.i 0]++[]) 362 H'_2 q->∃new,new.length=6/\SlL H'_2 (some ⟨q,0,none⟩) new/\App 6 48 362 [.i 0,.i 0,.i 0,.i 0,.int .u64 0,.i 0] H'_2 a_3 l_3 c 1 new fun a'_1 l'_1 c'_1 H'=>I64 (n+(1:Int))/\I a'_1 l'_1 c'_1 a' l' c' (n+(1:Int)) H'/\μ a'_1 l'_1 c'_1 a' l' c' (n+(1:Int)) H'<μ a_3 l_3 c a_4 l_4 c_1 n H)/\(¬n_1=7->∃n_2,rd H_1 p 0=some (.i n_2)/\(n_2=0->I64 ((↑l_4:Int)-(1:Int))/\∃b o,At a_4 b o/\((0:Int)<=(↑l_4:Int)-(1:Int)/\(↑l_4:Int)-(1:Int)<(↑l_4:Int))/\∃n_3,rd H_1 b (o+Int.toNat ((↑l_4:Int)-(1:Int)))=some (.i n_3)/\I64 ((↑l_4:Int)-(1:Int))/\((0:Int)<=(↑l_4:Int)-(1:Int)/\(↑l_4:Int)-(1:Int)<=(↑c_1:Int))/\I64 ((↑l_3:Int)+(1:Int))/\∃b o,At a_3 b o/\((0:Int)<=n_3/\n_3<(↑l_3:Int))/\WOk H_1 b (o+n_3.toNat*6+5) 1/\∀H',H'=wr H_1 b (o+n_3.toNat*6+5) (.i ((↑l_3:Int)+(1:Int)))->∃cs:List Value,cs.length=5/\RdL H' p 0 cs/\I64 (n_3+(1:Int))/\cs.length=5/\List.length (List.set (cs++[.i 0]) 5 (.i (n_3+(1:Int))))=6/\∀H'_2 q,New H' (List.set (cs++[.i 0]) 5 (.i (n_3+(1:Int)))++[]) 362 H'_2 q->∃new,new.length=6/\SlL H'_2 (some ⟨q,0,none⟩) new/\App 6 48 362 [.i 0,.i 0,.i 0,.i 0,.int .u64 0,.i 0] H'_2 a_3 l_3 c 1 new fun a' l' c' H'=>I64 (n+(1:Int))/\I a' l' c' a_4 (Int.toNat ((↑l_4:Int)-(1:Int))) c_1 (n+(1:Int)) H'/\μ a' l' c' a_4 (Int.toNat ((↑l_4:Int)-(1:Int))) c_1 (n+(1:Int)) H'<μ a_3 l_3 c a_4 l_4 c_1 n H)/\(¬n_2=0->∃(cs:List Value),cs.length=5/\RdL H_1 p 0 cs/\cs.length=5/\List.length (cs++[.i 0])=6/\∀H' q,New H_1 (cs++[.i 0]++[]) 362 H' q->∃new,new.length=6/\SlL H' (some ⟨q,0,none⟩) new/\App 6 48 362 [.i 0,.i 0,.i 0,.i 0,.int .u64 0,.i 0] H' a_3 l_3 c 1 new fun a' l' c' H'=>I64 (n+(1:Int))/\I a' l' c' a_4 l_4 c_1 (n+(1:Int)) H'/\μ a' l' c' a_4 l_4 c_1 (n+(1:Int)) H'<μ a_3 l_3 c a_4 l_4 c_1 n H))))/\(¬n<(↑l_5:Int)->R (.tuple #[.slice a_3 l_3 c,.i 0]) H))):Ru 216 [.agg x0.toArray] H R:=vcr ⟨fun|9=>some [(9,.slc),(10,.slc),(11,.int .i64)]|_=>none,fun|13=>some [(43,.bool)]|_=>none⟩ [.agg x0] h
theorem v217 (x0:Option Addr)(l0 c0:Nat)(h:∀H' p,New H [.slice x0 l0 c0] 287 H' p->R (.func (.func 276) #[] #[.p p 0]) H'):Ru 217 [.slice x0 l0 c0] H R:=vcr nn [.slc x0 l0 c0] h
theorem v241 (x0:Option Addr)(l0 c0:Nat)(x1:Value)(h:∃(I:Int->Heap->Prop),∃(μ:Int->Heap->Nat),I (0:Int) H/\∀H n,I n H->(n<(↑l0:Int)->∃b o,At x0 b o/\((0:Int)<=n/\n<(↑l0:Int))/\∃n_1,rd H b (o+n.toNat)=some (.i n_1)/\∃g u v,x1=.func (.func g) u v/\callable Tryz.prog g=true/\Ru g (Array.toList u++[.i n_1]++Array.toList v) H fun r H'=>∃c,r=.bool c/\(c=true->R (.i n) H')/\(c=false->I64 (n+(1:Int))/\I (n+(1:Int)) H'/\μ (n+(1:Int)) H'<μ n H))/\(¬n<(↑l0:Int)->R (.i (-1)) H)):Ru 241 [.slice x0 l0 c0,x1] H R:=vcr ⟨fun|2=>some [(8,.int .i64)]|_=>none,fun _=>none⟩ [.slc x0 l0 c0,.op x1] h
theorem v257 (x0:Option Addr)(l0 c0:Nat)(h:∀H' p,New H [.slice x0 l0 c0] 46 H' p->R (.func (.func 328) #[] #[.p p 0]) H'):Ru 257 [.slice x0 l0 c0] H R:=vcr nn [.slc x0 l0 c0] h
theorem v259 (x0:List Value)(h:∀H' p,New H x0 74 H' p->∃n,rd H' p 0=some (.i n)/\(n=1->∃n,rd H' p 3=some (.i n)/\∀H'_1 q,New H' [.i n] 3 H'_1 q->∃new,new.length=1/\SlL H'_1 (some ⟨q,0,none⟩) new/\App 1 8 3 [.i 0] H'_1 none 0 0 1 new fun a' l' c' H'=>∃n,rd H' p 2=some (.i n)/\∀H'_2 q,New H' [.i n] 3 H'_2 q->∃new,new.length=1/\SlL H'_2 (some ⟨q,0,none⟩) new/\App 1 8 3 [.i 0] H'_2 a' l' c' 1 new fun a' l' c' H'=>Ru 330 [.slice a' l' c'] H' fun r H'=>R (.slice a' l' c') H')/\(¬n=1->(n=2->∃n,rd H' p 3=some (.i n)/\∀H'_1 q,New H' [.int .i64 n] 3 H'_1 q->∃new,new.length=1/\SlL H'_1 (some ⟨q,0,none⟩) new/\App 1 8 3 [.i 0] H'_1 none 0 0 1 new fun a' l' c' H'=>∃n,rd H' p 2=some (.i n)/\∀H'_2 q,New H' [.i n] 3 H'_2 q->∃new,new.length=1/\SlL H'_2 (some ⟨q,0,none⟩) new/\App 1 8 3 [.i 0] H'_2 a' l' c' 1 new fun a' l' c' H'=>Ru 330 [.slice a' l' c'] H' fun r H'=>R (.slice a' l' c') H')/\(¬n=2->(n=(3:Int)->∃n,rd H' p 3=some (.i n)/\∀H'_1 q,New H' [.i n] 3 H'_1 q->∃new,new.length=1/\SlL H'_1 (some ⟨q,0,none⟩) new/\App 1 8 3 [.i 0] H'_1 none 0 0 1 new fun a' l' c' H'=>∃n,rd H' p 2=some (.i n)/\∀H'_2 q,New H' [.i n] 3 H'_2 q->∃new,new.length=1/\SlL H'_2 (some ⟨q,0,none⟩) new/\App 1 8 3 [.i 0] H'_2 a' l' c' 1 new fun a' l' c' H'=>Ru 330 [.slice a' l' c'] H' fun r H'=>R (.slice a' l' c') H')/\(¬n=3->(n=4->∃n,rd H' p 2=some (.i n)/\∀H'_1 q,New H' [.i n] 3 H'_1 q->∃new,new.length=1/\SlL H'_1 (some ⟨q,0,none⟩) new/\App 1 8 3 [.i 0] H'_1 none 0 0 1 new fun a' l' c' H'=>Ru 330 [.slice a' l' c'] H' fun r H'=>R (.slice a' l' c') H')/\(¬n=4->(n=6->∃n,rd H' p 2=some (.i n)/\∀H'_1 q,New H' [.i n] 3 H'_1 q->∃new,new.length=1/\SlL H'_1 (some ⟨q,0,none⟩) new/\App 1 8 3 [.i 0] H'_1 none 0 0 1 new fun a' l' c' H'=>Ru 330 [.slice a' l' c'] H' fun r H'=>R (.slice a' l' c') H')/\(¬n=(6:Int)->Ru 330 [.slice none 0 0] H' fun r H'=>R (.slice none 0 0) H')))))):Ru 259 [.agg x0.toArray] H R:=vcr nn [.agg x0] h
theorem v260 (x0:Int)(x1:UInt64)(h:(x0=(0:Int)->R (.tuple #[.i 0,.bool true]) H)/\(¬x0=(0:Int)->((65536:Int)<x0->R (.tuple #[.i 0,.bool false]) H)/\(¬(65536:Int)<x0->((0:Int)<=(65536:Int)/\(0:Int)<x0/\I64 (65536:Int))/\(UInt64.ofInt ((65536:Int) / x0)<x1->R (.tuple #[.i 0,.bool false]) H)/\(¬UInt64.ofInt ((65536:Int) / x0)<x1->UInt64.toNat x1<=9223372036854775807/\I64 (x0*(↑(UInt64.toNat x1):Int))/\R (.tuple #[.i (x0*(↑(UInt64.toNat x1):Int)),.bool true]) H)))):Ru 260 [.i x0,.u x1] H R:=vcr nn [.int .i64 x0,.u64 x1] h
theorem v261 (x0:Option Addr)(l0 c0:Nat)(h:∃(I:Int->Int->Heap->Prop),∃(μ:Int->Int->Heap->Nat),I (0:Int) (0:Int) H/\∀H n n_1,I n n_1 H->(n_1<(↑l0:Int)->∃b o,At x0 b o/\((0:Int)<=n_1/\n_1<(↑l0:Int))/\∃n_2,rd H b (o+n_1.toNat)=some (.i n_2)/\I64 (n+n_2)/\I64 (n_1+(1:Int))/\I (n+n_2) (n_1+(1:Int)) H/\μ (n+n_2) (n_1+(1:Int)) H<μ n n_1 H)/\(¬n_1<(↑l0:Int)->R (.i n) H)):Ru 261 [.slice x0 l0 c0] H R:=vcr ⟨fun|3=>some [(3,.int .i64),(8,.int .i64)]|_=>none,fun _=>none⟩ [.slc x0 l0 c0] h
theorem v262 (x0:List Value)(h:∀H' p,New H x0 74 H' p->∃n,rd H' p 0=some (.i n)/\Ru 331 [.i n] H' fun r H'=>∃cs:List Value,cs.length=4/\r=.agg cs.toArray/\True/\∃v,cs[0]?=some v/\∃c,v=.bool c/\((!c)=true->R (.tuple #[.i 0,.bool false]) H')/\((!c)=false->∃n,rd H' p 1=some (.i n)/\R (.tuple #[.i n,.bool true]) H')):Ru 262 [.agg x0.toArray] H R:=vcr nn [.agg x0] h
theorem v263 (x0:List Value)(h:∀H' p,New H x0 216 H' p->∃a l c,rd H' p 1=some (.slice a l c)/\Ru 130 [.slice a l c] H' fun r H'=>∃a l c n,r=.tuple #[.slice a l c,.i n]/\∃a l c,rd H' p 1=some (.slice a l c)/\((4096:Int)<(↑l:Int)->Ru 134 [.bool true,.i 6] H' fun r H'=>∃n,r=.i n/\R (.i n) H')/\(¬(4096:Int)<(↑l:Int)->(¬n=0->Ru 134 [.bool true,.i 6] H' fun r H'=>∃n,r=.int .i64 n/\R (.i n) H')/\(¬¬n=0->∃a l c,rd H' p 1=some (.slice a l c)/\Ru 334 [.slice a l c,.func (.func 332) #[] #[]] H' fun r H'=>∃c,r=.bool c/\Ru 134 [.bool c,.i 6] H' fun r H'=>∃n,r=.i n/\R (.i n) H'))):Ru 263 [.agg x0.toArray] H R:=vcr nn [.agg x0] h
theorem v264 (x0:List Value)(h:∀H' p,New H x0 216 H' p->∃n,rd H' p 0=some (.i n)/\(n<(1:Int)->Ru 134 [.bool true,.i 7] H' fun r H'=>∃n,r=.i n/\R (.i n) H')/\(¬n<(1:Int)->∃n,rd H' p 0=some (.i n)/\((64:Int)<n->Ru 134 [.bool true,.i 7] H' fun r H'=>∃n,r=.i n/\R (.i n) H')/\(¬(64:Int)<n->∃a l c,rd H' p 1=some (.slice a l c)/\Ru 334 [.slice a l c,.func (.func 335) #[] #[.p p 0]] H' fun r H'=>∃c,r=.bool c/\Ru 134 [.bool c,.i 7] H' fun r H'=>∃n,r=.i n/\R (.i n) H'))):Ru 264 [.agg x0.toArray] H R:=vcr nn [.agg x0] h
theorem v265 (x0:List Value)(h:∀H' p,New H x0 216 H' p->∃a l c,rd H' p 1=some (.slice a l c)/\Ru 337 [.slice a l c] H' fun r H'=>∃n n_1,r=.tuple #[.i n,.i n_1]/\Ru 134 [.bool (decide ((8:Int)<n)),.i 8] H' fun r H'=>∃n,r=.i n/\R (.i n) H'):Ru 265 [.agg x0.toArray] H R:=vcr nn [.agg x0] h
theorem v266 (x0:List Value)(h:∀H' p,New H x0 216 H' p->∃a l c,rd H' p 1=some (.slice a l c)/\Ru 167 [.slice a l c] H' fun r H'=>∃n n_1,r=.tuple #[.i n,.i n_1]/\R (.i n_1) H'):Ru 266 [.agg x0.toArray] H R:=vcr nn [.agg x0] h
theorem v270 (x0:Option Addr)(l0 c0:Nat)(x1:Int)(h:(x1<(0:Int)->False)/\(¬x1<(0:Int)->I64 ((↑c0:Int)-(↑l0:Int))/\I64 (x1-((↑c0:Int)-(↑l0:Int)))/\((0:Int)<x1-((↑c0:Int)-(↑l0:Int))->((0:Int)<=(↑c0:Int)/\(↑c0:Int)<=(↑c0:Int))/\((0:Int)<=x1-((↑c0:Int)-(↑l0:Int))/\(x1-((↑c0:Int)-(↑l0:Int)))*(8:Int)<=(281474976710656:Int)/\I64 (x1-((↑c0:Int)-(↑l0:Int))))/\App 1 8 51 [.int .u64 0] H x0 (Int.toNat (↑c0:Int)) c0 (Int.toNat (x1-((↑c0:Int)-(↑l0:Int)))) (rep (Int.toNat (x1-((↑c0:Int)-(↑l0:Int)))) [.int .u64 0]) fun a' l' c' H'=>((0:Int)<=(↑l0:Int)/\(↑l0:Int)<=(↑c':Int))/\R (.slice a' (Int.toNat (↑l0:Int)) c') H')/\(¬(0:Int)<x1-((↑c0:Int)-(↑l0:Int))->R (.slice x0 l0 c0) H))):Ru 270 [.slice x0 l0 c0,.i x1] H R:=vcr nn [.slc x0 l0 c0,.int .i64 x1] h
theorem v330 (x0:Option Addr)(l0 c0:Nat)(h:I64 ((↑l0:Int)-(1:Int))/\∃(I:Int->Int->Heap->Prop),∃(μ:Int->Int->Heap->Nat),I (0:Int) ((↑l0:Int)-(1:Int)) H/\∀H n n_1,I n n_1 H->(n<n_1->∃b o,At x0 b o/\((0:Int)<=n_1/\n_1<(↑l0:Int))/\∃n_2,rd H b (o+n_1.toNat)=some (.i n_2)/\∃b o,At x0 b o/\((0:Int)<=n/\n<(↑l0:Int))/\∃n_3,rd H b (o+n.toNat)=some (.i n_3)/\∃b o,At x0 b o/\((0:Int)<=n/\n<(↑l0:Int))/\WOk H b (o+n.toNat) 1/\∀H',H'=wr H b (o+n.toNat) (.i n_2)->∃b o,At x0 b o/\((0:Int)<=n_1/\n_1<(↑l0:Int))/\WOk H' b (o+n_1.toNat) 1/\∀H'_1,H'_1=wr H' b (o+n_1.toNat) (.i n_3)->I64 (n+(1:Int))/\I64 (n_1-(1:Int))/\I (n+(1:Int)) (n_1-(1:Int)) H'_1/\μ (n+(1:Int)) (n_1-(1:Int)) H'_1<μ n n_1 H)/\(¬n<n_1->R (.tuple #[]) H)):Ru 330 [.slice x0 l0 c0] H R:=vcr ⟨fun|1=>some [(2,.int .i64),(3,.int .i64)]|_=>none,fun _=>none⟩ [.slc x0 l0 c0] h
theorem v331 (x0:Int)(h:∀H' p,New H [.bool false,.bool false,.bool false,.bool false] 391 H' p->∃(J:Bool->Heap->Prop),((x0=(1:Int)->J true H')/\(¬x0=(1:Int)->(x0=(2:Int)->J true H')/\(¬x0=(2:Int)->J (decP (x0=(3:Int)) inferInstance) H')))/\∀H c,J c H->(c=true->4=4/\(∀v∈[.bool true,.bool true,.bool true,.bool false],One v)/\WOk H p 0 4/\∀H',H'=wrL H p 0 [.bool true,.bool true,.bool true,.bool false]->∃cs:List Value,cs.length=4/\RdL H' p 0 cs/\R (.agg cs.toArray) H')/\(c=false->(x0=(4:Int)->4=4/\(∀v∈[.bool true,.bool true,.bool false,.bool false]
 ,One v)/\WOk H p 0 4/\∀H',H'=wrL H p 0 [.bool true,.bool true,.bool false,.bool false]->∃cs:List Value,cs.length=4/\RdL H' p 0 cs/\R (.agg cs.toArray) H')/\(¬x0=(4:Int)->(x0=(6:Int)->4=4/\(∀v∈[.bool true,.bool true,.bool false,.bool false],One v)/\WOk H p 0 4/\∀H',H'=wrL H p 0 [.bool true,.bool true,.bool false,.bool false]->∃cs:List Value,cs.length=4/\RdL H' p 0 cs/\R (.agg cs.toArray) H')/\(¬x0=(6:Int)->(x0=(5:Int)->4=4/\(∀v∈[.bool true,.bool false,.bool false,.bool true],One v)/\WOk H p 0 4/\∀H',H'=wrL H p 0 [.bool true,.bool false,.bool false,.bool true]->∃cs:List Value,cs.length=4/\RdL H' p 0 cs/\R (.agg cs.toArray) H')/\(¬x0=(5:Int)->(x0=(7:Int)->4=4/\(∀(v:Value),v∈[.bool false,.bool false,.bool false,.bool true]->One v)/\WOk H p 0 4/\∀H',H'=wrL H p 0 [.bool false,.bool false,.bool false,.bool true]->∃cs:List Value,cs.length=4/\RdL H' p 0 cs/\R (.agg cs.toArray) H')/\(¬x0=(7:Int)->4=4/\(∀v∈[.bool false,.bool false,.bool false,.bool false],One v)/\WOk H p 0 4/\∀H',H'=wrL H p 0 [.bool false,.bool false,.bool false,.bool false]->∃cs:List Value,cs.length=4/\RdL H' p 0 cs/\R (.agg cs.toArray) H')))))):Ru 331 [.i x0] H R:=vcr ⟨fun _=>none,fun|5=>some [(4,.bool)]|_=>none⟩ [.int .i64 x0] h
theorem v332 (x0:List Value)(h:∀H' p,New H x0 74 H' p->∃cs:List Value,cs.length=5/\RdL H' p 0 cs/\Ru 333 [.agg cs.toArray] H' fun r H'=>∃c,r=.bool c/\R (.bool !c) H'):Ru 332 [.agg x0.toArray] H R:=vcr nn [.agg x0] h
theorem v333 (x0:List Value)(h:∀H' p,New H x0 74 H' p->∃n,rd H' p 0=some (.i n)/\Ru 331 [.i n] H' fun r H'=>∃cs:List Value,cs.length=4/\r=.agg cs.toArray/\∀H'_1 p_1,New H' [.bool false,.bool false,.bool false,.bool false] 391 H'_1 p_1->cs.length=4/\(∀v∈cs,One v)/\WOk H'_1 p_1 0 4/\∀H',H'=wrL H'_1 p_1 0 cs->∃n,rd H' p 0=some (.i n)/\Ru 362 [.i n] H' fun r H'=>∃c,r=.bool c/\(c=true->∃n,rd H' p 1=some (.i n)/\∃c,rd H' p_1 0=some (.bool c)/\Ru 363 [.i n,.bool c] H' fun r H'=>∃c,r=.bool c/\(c=true->∃n,rd H' p 2=some (.i n)/\∃c,rd H' p_1 1=some (.bool c)/\Ru 363 [.i n,.bool c] H' fun r H'=>∃c,r=.bool c/\(c=true->∃n,rd H' p 3=some (.i n)/\∃c,rd H' p_1 2=some (.bool c)/\Ru 363 [.i n,.bool c] H' fun r H'=>∃c,r=.bool c/\(c=true->∃c,rd H' p_1 3=some (.bool c)/\(c=true->R (.bool true) H')/\(c=false->∃x,rd H' p 4=some (.u x)/\R (.bool (decide (x=UInt64.ofNat (nat_lit 0)))) H'))/\(c=false->R (.bool false) H'))/\(c=false->R (.bool false) H'))/\(c=false->R (.bool false) H'))/\(c=false->R (.bool false) H')):Ru 333 [.agg x0.toArray] H R:=vcr nn [.agg x0] h
theorem v334 (x0:Option Addr)(l0 c0:Nat)(x1:Value)(h:Ru 364 [.slice x0 l0 c0,x1] H fun r H'=>∃n,r=.i n/\R (.bool (decide ((0:Int)<=n))) H'):Ru 334 [.slice x0 l0 c0,x1] H R:=vcr nn [.slc x0 l0 c0,.op x1] h
theorem v335 (x0:List Value)(x1 o1:Nat)(h:∀H' p,New H x0 74 H' p->∃cs:List Value,cs.length=5/\RdL H' p 0 cs/\Ru 259 [.agg cs.toArray] H' fun r H'=>∃a l c,r=.slice a l c/\∃cs:List Value,cs.length=5/\RdL H' p 0 cs/\Ru 262 [.agg cs.toArray] H' fun r H'=>∃n c_1,r=.tuple #[.i n,.bool c_1]/\(c_1=true->∀H'_1 q,New H' [.i n] 3 H'_1 q->∃new,new.length=1/\SlL H'_1 (some ⟨q,0,none⟩) new/\App 1 8 3 [.i 0] H'_1 a l c 1 new fun a' l' c' H'=>Ru 187 [.slice a' l' c',.func (.func 336) #[] #[.p x1 o1]] H' fun r H'=>∃c,r=.bool c/\R (.bool c) H')/\(c_1=false->Ru 187 [.slice a l c,.func (.func 336) #[] #[.p x1 o1]] H' fun r H'=>∃c,r=.bool c/\R (.bool c) H')):Ru 335 [.agg x0.toArray,.p x1 o1] H R:=vcr nn [.agg x0,.ptr x1 o1] h
theorem v336 (x0:Int)(x1 o1:Nat)(h:∃n,rd H x1 o1=some (.i n)/\R (.bool (decide (n<=x0))) H):Ru 336 [.i x0,.p x1 o1] H R:=vcr nn [.int .i64 x0,.ptr x1 o1] h
theorem v337 (x0:Option Addr)(l0 c0:Nat)(h:∀H' p,New H [.slice x0 l0 c0] 23 H' p->∀H'_1 p_1,New H' [.i 0] 3 H'_1 p_1->WOk H'_1 p_1 0 1/\∀H',H'=wr H'_1 p_1 0 (.i 0)->∃a l c,rd H' p 0=some (.slice a l c)/\Ru 201 [.slice a l c,.func (.func 365) #[] #[.p p 0,.p p_1 0]] H' fun r H'=>∃c,r=.bool c/\((!c)=true->R (.tuple #[.i 0,.i 6]) H')/\((!c)=false->∃n,rd H' p_1 0=some (.i n)/\R (.tuple #[.i n,.i 0]) H')):Ru 337 [.slice x0 l0 c0] H R:=vcr nn [.slc x0 l0 c0] h
theorem v338 (x0:List Value)(x1:UInt64)(x2:UInt64)(h:∀H' p,New H x0 74 H' p->∃n,rd H' p 0=some (.i n)/\(n=1->R (.int .u64 (↑(UInt64.toNat (x1+x2)):Int)) H')/\(¬n=1->(n=2->R (.int .u64 (↑(UInt64.toNat (x1-x2)):Int)) H')/\(¬n=2->(n=3->R (.int .u64 (↑(UInt64.toNat (x1*x2)):Int)) H')/\(¬n=3->(n=4->R (.int .u64 (↑(UInt64.toNat (0-x1)):Int)) H')/\(¬n=4->(n=5->∃x,rd H' p 4=some (.u x)/\R (.u x) H')/\(¬n=5->(n=6->R (.u x1) H')/\(¬n=6->R (.int .u64 0) H'))))))):Ru 338 [.agg x0.toArray,.u x1,.u x2] H R:=vcr nn [.agg x0,.u64 x1,.u64 x2] h
theorem v362 (x0:Int)(h:((0:Int)<=x0->R (.bool (decide (x0<(8:Int)))) H)/\(¬(0:Int)<=x0->R (.bool false) H)):Ru 362 [.i x0] H R:=vcr nn [.int .i64 x0] h
theorem v363 (x0:Int)(x1:Bool)(h:((!x1)=true->R (.bool (decide (x0=(0:Int)))) H)/\((!x1)=false->((0:Int)<=x0->R (.bool (decide (x0<=(2147483647:Int)))) H)/\(¬(0:Int)<=x0->R (.bool false) H))):Ru 363 [.i x0,.bool x1] H R:=vcr nn [.int .i64 x0,.bl x1] h
theorem v364 (x0:Option Addr)(l0 c0:Nat)(x1:Value)(h:∃(I:Int->Heap->Prop),∃(μ:Int->Heap->Nat),I (0:Int) H/\∀H n,I n H->(n<(↑l0:Int)->∃b o,At x0 b o/\((0:Int)<=n/\n<(↑l0:Int))/\∃cs:List Value,cs.length=5/\RdL H b (o+n.toNat*5) cs/\∃g u v,x1=.func (.func g) u v/\callable Tryz.prog g=true/\Ru g (Array.toList u++[.agg cs.toArray]++Array.toList v) H fun r H'=>∃c,r=.bool c/\(c=true->R (.i n) H')/\(c=false->I64 (n+(1:Int))/\I (n+(1:Int)) H'/\μ (n+(1:Int)) H'<μ n H))/\(¬n<(↑l0:Int)->R (.i (-1)) H)):Ru 364 [.slice x0 l0 c0,x1] H R:=vcr ⟨fun|2=>some [(8,.int .i64)]|_=>none,fun _=>none⟩ [.slc x0 l0 c0,.op x1] h
theorem v365 (x0:Int)(x1:Option Addr)(l1 c1:Nat)(x2 o2:Nat)(x3 o3:Nat)(h:∃a l c,rd H x2 o2=some (.slice a l c)/\∃b o,At a b o/\((0:Int)<=x0/\x0<(↑l:Int))/\∃n,rd H b (o+x0.toNat*5)=some (.i n)/\(n=7->∃n,rd H x3 o3=some (.i n)/\I64 ((↑l1:Int)+(1:Int))/\WOk H x3 o3 1/\∀H',H'=wr H x3 o3 (.i (maxI true n ((↑l1:Int)+(1:Int))))->R (.tuple #[]) H')/\(¬n=7->R (.tuple #[]) H)):Ru 365 [.i x0,.slice x1 l1 c1,.p x2 o2,.p x3 o3] H R:=vcr nn [.int .i64 x0,.slc x1 l1 c1,.ptr x2 o2,.ptr x3 o3] h
theorem v372 (x0:List Value)(x1:UInt64)(x2:UInt64)(h:∀H' p,New H x0 74 H' p->∃n,rd H' p 0=some (.i n)/\(n=1->R (.tuple #[.int .u64 1,.int .u64 1]) H')/\(¬n=1->(n=2->R (.tuple #[.int .u64 1,.int .u64 18446744073709551615]) H')/\(¬n=2->(n=3->R (.tuple #[.u x2,.u x1]) H')/\(¬n=3->(n=4->R (.tuple #[.int .u64 18446744073709551615,.int .u64 0]) H')/\(¬n=4->(n=6->R (.tuple #[.int .u64 1,.int .u64 0]) H')/\(¬n=6->R (.tuple #[.int .u64 0,.int .u64 0]) H')))))):Ru 372 [.agg x0.toArray,.u x1,.u x2] H R:=vcr nn [.agg x0,.u64 x1,.u64 x2] h
end Go.VC
namespace Go.VC
open Go Go.Proofs
theorem Runs.mono {P:Program}{f:FuncId}{a:List Value}{H:Heap}{R R':Value->Heap->Prop}(h:Runs P f a H R)(k:∀r H',R r H'->R' r H'):Runs P f a H R':=by
 intro w hw
 refine Calls.mono (h w hw) ?_
 rintro e w' ⟨v,rfl,hR,hs⟩
 exact⟨v,rfl,k _ _ hR,hs⟩
theorem rdL_iff {H:Heap}{b:Nat}:∀{vs:List Value} {o:Nat},RdL H b o vs<->∀j v,vs[j]?=some v->rd H b (o+j)=some v
 | [],o=>by simp[RdL]
 | u ::vs,o=>by
  simp only[RdL]
  rw[rdL_iff]
  constructor
  ·rintro⟨h1,h2⟩ j v hj
   cases j with
   | zero=>simp at hj;subst hj;exact h1
   | succ j=>have:=h2 j v (by simpa using hj);rw[<-this];congr 1;omega
  ·intro h
   refine⟨h 0 u (by simp),fun j v hj=>?_⟩
   rw[<-h (j+1) v (by simpa using hj)];congr 1;omega
theorem rdL_get' {H:Heap}{b o:Nat}{vs:List Value}(h:RdL H b o vs){j:Nat}{v:Value}(hj:vs[j]?=some v):rd H b (o+j)=some v:=rdL_iff.1 h j v hj
theorem rdL_append {H:Heap}{b:Nat}{xs ys:List Value}{o:Nat}:RdL H b o (xs++ys)<->RdL H b o xs/\RdL H b (o+xs.length) ys:=by
 induction xs generalizing o with
 | nil=>simp[RdL]
 | cons x xs ih=>
  simp only[List.cons_append,RdL,ih,List.length_cons,and_assoc]
  rw[show o+1+xs.length=o+(xs.length+1) from by omega]
theorem rdL_drop {H:Heap}{b o k:Nat}{vs:List Value}(h:RdL H b o vs):RdL H b (o+k) (vs.drop k):=by
 rw[rdL_iff] at h ⊢
 intro j v hj
 rw[List.getElem?_drop] at hj
 rw[Nat.add_assoc];exact h _ _ hj
theorem rdL_take {H:Heap}{b o k:Nat}{vs:List Value}(h:RdL H b o vs):RdL H b o (vs.take k):=by
 rw[rdL_iff] at h ⊢
 intro j v hj
 rw[List.getElem?_take] at hj
 split at hj
 ·exact h _ _ hj
 ·cases hj
theorem rdL_congr {H H':Heap}{b o:Nat}{vs:List Value}(h:RdL H b o vs)(e:∀j,o<=j->j<o+vs.length->rd H b j=rd H' b j):RdL H' b o vs:=by
 rw[rdL_iff] at h ⊢
 intro j v hj
 have hlt:=(List.getElem?_eq_some_iff.1 hj).1
 rw[<-e _ (by omega) (by omega)];exact h _ _ hj
theorem wrL_size (H:Heap)(b:Nat):∀(vs:List Value) (o:Nat),(wrL H b o vs).size=H.size:=by
 intro vs
 induction vs generalizing H with
 | nil=>intro o;rfl
 | cons v vs ih=>intro o;simp only[wrL,ih,wr_size]
theorem wrL_other {H:Heap}{b k:Nat}(hk:k≠b):∀{vs:List Value} {o:Nat},(wrL H b o vs)[k]?=H[k]?:=by
 intro vs
 induction vs generalizing H with
 | nil=>intro o;rfl
 | cons v vs ih=>intro o;simp only[wrL];rw[ih,wr_other hk]
theorem fz_wrL {H:Heap}{b b' o':Nat}:∀{vs:List Value} {o:Nat},fz (wrL H b o vs) b' o'=fz H b' o':=by
 intro vs
 induction vs generalizing H with
 | nil=>intro o;rfl
 | cons v vs ih=>intro o;simp only[wrL];rw[ih,fz_wr]
theorem rd_wr_isSome {H:Heap}{b o:Nat}{v:Value}{b' o':Nat}:(rd (wr H b o v) b' o').isSome=(rd H b' o').isSome:=by
 rw[rd_wr];split
 ·rename_i h;obtain⟨rfl,rfl⟩:=h;simp
 ·rfl
theorem rd_wrL_isSome {H:Heap}{b b' o':Nat}:∀{vs:List Value} {o:Nat},(rd (wrL H b o vs) b' o').isSome=(rd H b' o').isSome:=by
 intro vs
 induction vs generalizing H with
 | nil=>intro o;rfl
 | cons v vs ih=>intro o;simp only[wrL];rw[ih,rd_wr_isSome]
theorem rd_wrL_out {H:Heap}{b b' o':Nat}:∀{vs:List Value} {o:Nat},¬(b'=b/\o<=o'/\o'<o+vs.length)->rd (wrL H b o vs) b' o'=rd H b' o':=by
 intro vs
 induction vs generalizing H with
 | nil=>intro o _;rfl
 | cons v vs ih=>
  intro o h
  simp only[wrL]
  simp only[List.length_cons] at h
  rw[ih (by omega),rd_wr_ne (by omega)]
theorem rd_wrL_in {H:Heap}{b:Nat}:∀{vs:List Value} {o j:Nat} {v:Value},vs[j]?=some v->(rd H b (o+j)).isSome=true->rd (wrL H b o vs) b (o+j)=some v:=by
 intro vs
 induction vs generalizing H with
 | nil=>intro o j v h;simp at h
 | cons u vs ih=>
  intro o j v h hs
  simp only[wrL]
  cases j with
  | zero=>
   simp at h;subst h
   rw[Nat.add_zero] at hs ⊢
   rw[rd_wrL_out (by omega)]
   exact rd_wr_same hs
  | succ j=>
   rw[show o+(j+1)=o+1+j from by omega] at hs ⊢
   exact ih (by simpa using h) (by rw[rd_wr_isSome];exact hs)
theorem rdL_wrL {H:Heap}{b o:Nat}{vs:List Value}(h:WOk H b o vs.length):RdL (wrL H b o vs) b o vs:=by
 rw[rdL_iff]
 intro j v hj
 exact rd_wrL_in hj (h j (List.getElem?_eq_some_iff.1 hj).1).1
theorem rdL_wr_set {H:Heap}{b o k:Nat}{vs:List Value}{v:Value}(h:RdL H b o vs):RdL (wr H b (o+k) v) b o (vs.set k v):=by
 rw[rdL_iff] at h ⊢
 intro j u hj
 rw[List.getElem?_set] at hj
 rw[rd_wr]
 by_cases e:k=j
 ·subst e
  rw[if_pos ⟨rfl,rfl⟩]
  simp only[if_true] at hj
  split at hj
  ·rename_i hl
   obtain⟨w,hw⟩:∃w,vs[k]?=some w:=⟨vs[k],List.getElem?_eq_getElem hl⟩
   rw[h k w hw];simpa using hj
  ·cases hj
 ·rw[if_neg (by omega)]
  simp only[e,if_false] at hj
  exact h j u hj
theorem wok_wr {H:Heap}{b o n:Nat}{b' o':Nat}{v:Value}(h:WOk H b o n):WOk (wr H b' o' v) b o n:=fun i hi=>⟨by rw[rd_wr_isSome];exact (h i hi).1,by rw[fz_wr];exact (h i hi).2⟩
theorem wok_wrL {H:Heap}{b o n:Nat}{b' o':Nat}{vs:List Value}(h:WOk H b o n):WOk (wrL H b' o' vs) b o n:=fun i hi=>⟨by rw[rd_wrL_isSome];exact (h i hi).1,by rw[fz_wrL];exact (h i hi).2⟩
theorem wok_sub {H:Heap}{b o n o' n':Nat}(h:WOk H b o n)(h1:o<=o')(h2:o'+n'<=o+n):WOk H b o' n':=fun i hi=>by
 have:=h (o'-o+i) (by omega)
 rwa [show o+(o'-o+i)=o'+i from by omega] at this
def Mod (S:List Nat)(H H':Heap):Prop:=H.size<=H'.size/\∀b,b<H.size->b∉S->H'[b]?=H[b]?
abbrev Ext (H H':Heap):Prop:=Mod [] H H'
theorem Mod.refl {S:List Nat}{H:Heap}:Mod S H H:=⟨Nat.le_refl _,fun _ _ _=>rfl⟩
theorem Mod.trans {S:List Nat}{H H' H'':Heap}(h:Mod S H H')(k:Mod S H' H''):Mod S H H'':=
 ⟨Nat.le_trans h.1 k.1,fun b hb hs=>(k.2 b (Nat.lt_of_lt_of_le hb h.1) hs).trans (h.2 b hb hs)⟩
theorem Mod.mono {S T:List Nat}{H H':Heap}(h:Mod S H H')(hs:∀b∈S,b∈T):Mod T H H':=⟨h.1,fun b hb ht=>h.2 b hb fun h'=>ht (hs b h')⟩
theorem Mod.ext {S:List Nat}{H H':Heap}(h:Ext H H'):Mod S H H':=h.mono (by simp)
theorem Mod.trans_new {S T:List Nat}{H H' H'':Heap}(h:Mod S H H')(k:Mod T H' H'')(hs:∀b∈T,b∈S\/H.size<=b):Mod S H H'':=
 ⟨Nat.le_trans h.1 k.1,fun b hb hn=>(k.2 b (Nat.lt_of_lt_of_le hb h.1) (fun h'=>(hs b h').elim hn (by omega))).trans (h.2 b hb hn)⟩
theorem Mod.thenExt {S:List Nat}{H H' H'':Heap}(h:Mod S H H')(k:Ext H' H''):Mod S H H'':=h.trans k.ext
theorem Mod.push {S:List Nat}{H H':Heap}(h:Mod S H H')(x:Obj):Mod S H (H'.push x):=
 ⟨by have:=h.1;simp;omega,fun b hb hs=>by rw[Array.getElem?_push_lt (Nat.lt_of_lt_of_le hb h.1),<-h.2 b hb hs,Array.getElem?_eq_getElem]⟩
theorem Mod.new {S:List Nat}{H H' H'':Heap}{cs:List Value}{t p:Nat}(h:Mod S H H')(n:New H' cs t H'' p):Mod S H H'':=by
 obtain⟨_,rfl⟩:=n;exact h.push _
theorem Mod.wr {S:List Nat}{H H':Heap}{b o:Nat}{v:Value}(h:Mod S H H')(hb:b∈S\/H.size<=b):Mod S H (wr H' b o v):=
 ⟨by rw[wr_size];exact h.1,fun k hk hs=>by rw[wr_other (by rintro rfl;exact hb.elim hs (by omega))];exact h.2 k hk hs⟩
theorem Mod.wrL {S:List Nat}{H H':Heap}{b o:Nat}{vs:List Value}(h:Mod S H H')(hb:b∈S\/H.size<=b):Mod S H (wrL H' b o vs):=
 ⟨by rw[wrL_size];exact h.1,fun k hk hs=>by rw[wrL_other (by rintro rfl;exact hb.elim hs (by omega))];exact h.2 k hk hs⟩
theorem Mod.rd_eq {S:List Nat}{H H':Heap}(h:Mod S H H'){b o:Nat}(hb:b∉S)(hl:b<H.size):rd H' b o=rd H b o:=by unfold rd;rw[h.2 b hl hb]
theorem Mod.fz_eq {S:List Nat}{H H':Heap}(h:Mod S H H'){b o:Nat}(hb:b∉S)(hl:b<H.size):fz H' b o=fz H b o:=by unfold fz;rw[h.2 b hl hb]
theorem Mod.rd {S:List Nat}{H H':Heap}(h:Mod S H H'){b o:Nat}{v:Value}(hb:b∉S)(hv:rd H b o=some v):rd H' b o=some v:=by rw[h.rd_eq hb (rd_lt hv),hv]
theorem Mod.rdL {S:List Nat}{H H':Heap}(h:Mod S H H'){b o:Nat}{vs:List Value}(hb:b∉S)(hv:RdL H b o vs):RdL H' b o vs:=by
 rw[rdL_iff] at hv ⊢
 exact fun j v hj=>h.rd hb (hv j v hj)
theorem rdsome_lt {H:Heap}{b o:Nat}(h:(rd H b o).isSome=true):b<H.size:=by
 cases e:VC.rd H b o with
 | none=>rw[e] at h;cases h
 | some v=>exact rd_lt e
theorem Mod.wok {S:List Nat}{H H':Heap}(h:Mod S H H'){b o n:Nat}(hb:b∉S)(hv:WOk H b o n):WOk H' b o n:=fun i hi=>by
 have hl:=rdsome_lt (hv i hi).1
 rw[h.rd_eq hb hl,h.fz_eq hb hl];exact hv i hi
theorem New.mod {H H':Heap}{cs:List Value}{t p:Nat}(n:New H cs t H' p):Ext H H':=Mod.refl.new n
theorem New.rd {H H':Heap}{cs:List Value}{t p:Nat}(n:New H cs t H' p)(o:Nat):rd H' p o=cs[o]?:=by obtain⟨rfl,rfl⟩:=n;exact rd_new
theorem New.rdL {H H':Heap}{cs:List Value}{t p:Nat}(n:New H cs t H' p):RdL H' p 0 cs:=rdL_iff.2 fun j v hj=>by rw[n.rd,Nat.zero_add];exact hj
theorem New.wok {H H':Heap}{cs:List Value}{t p:Nat}(n:New H cs t H' p):WOk H' p 0 cs.length:=fun i hi=>by
 obtain⟨rfl,rfl⟩:=n
 rw[Nat.zero_add];exact⟨by rw[rd_new];simp[hi],fz_new⟩
theorem New.ge {H H':Heap}{cs:List Value}{t p:Nat}(n:New H cs t H' p):H.size<=p:=by obtain⟨rfl,_⟩:=n;exact Nat.le_refl _
theorem New.lt {H H':Heap}{cs:List Value}{t p:Nat}(n:New H cs t H' p):p<H'.size:=by obtain⟨rfl,rfl⟩:=n;simp
def Row (sz:Nat)(H:Heap)(a:Option Addr)(l:Nat)(cells:List Value):Prop:=cells.length=l*sz/\SlL H a cells
def Off (S:List Nat)(a:Option Addr):Prop:=∀b o,a=some ⟨b,o,none⟩->b∉S
theorem Off.nil {a:Option Addr}:Off [] a:=fun _ _ _=>by simp
theorem Mod.slL {S:List Nat}{H H':Heap}(h:Mod S H H'){a:Option Addr}{vs:List Value}(hb:Off S a)(hv:SlL H a vs):SlL H' a vs:=by
 rcases hv with rfl|⟨b,o,rfl,hr⟩
 ·exact .inl rfl
 ·exact .inr ⟨b,o,rfl,h.rdL (hb b o rfl) hr⟩
theorem Mod.row {S:List Nat}{H H':Heap}(h:Mod S H H'){sz:Nat}{a:Option Addr}{l:Nat}{vs:List Value}(hb:Off S a)(hv:Row sz H a l vs):Row sz H' a l vs:=⟨hv.1,h.slL hb hv.2⟩
theorem Ext.row {H H':Heap}(h:Ext H H'){sz:Nat}{a:Option Addr}{l:Nat}{vs:List Value}(hv:Row sz H a l vs):Row sz H' a l vs:=Mod.row h Off.nil hv
theorem Row.at {sz:Nat}{H:Heap}{a:Option Addr}{l:Nat}{cells:List Value}(h:Row sz H a l cells)(h0:0<l*sz):∃b o,a=some ⟨b,o,none⟩/\RdL H b o cells:=by
 rcases h.2 with rfl|h'
 ·have:=h.1;simp at this;omega
 ·exact h'
def i64s (xs:List Int):List Value:=xs.map fun x=>.int .i64 x
def u64s (xs:List UInt64):List Value:=xs.map fun x=>.int .u64 (x.toNat:Int)
@[simp] theorem i64s_length (xs:List Int):(i64s xs).length=xs.length:=by simp[i64s]
@[simp] theorem u64s_length (xs:List UInt64):(u64s xs).length=xs.length:=by simp[u64s]
@[simp] theorem i64s_append (xs ys:List Int):i64s (xs++ys)=i64s xs++i64s ys:=by simp[i64s]
@[simp] theorem u64s_append (xs ys:List UInt64):u64s (xs++ys)=u64s xs++u64s ys:=by simp[u64s]
theorem i64s_get {xs:List Int}{i:Nat}(h:i<xs.length):(i64s xs)[i]?=some (.int .i64 xs[i]):=by simp[i64s,h]
theorem u64s_get {xs:List UInt64}{i:Nat}(h:i<xs.length):(u64s xs)[i]?=some (.int .u64 (xs[i].toNat:Int)):=by simp[u64s,h]
theorem i64s_one {xs:List Int}:∀v∈i64s xs,One v:=by intro v hv;simp only[i64s,List.mem_map] at hv;obtain⟨x,_,rfl⟩:=hv;trivial
theorem u64s_one {xs:List UInt64}:∀v∈u64s xs,One v:=by intro v hv;simp only[u64s,List.mem_map] at hv;obtain⟨x,_,rfl⟩:=hv;trivial
abbrev RowI (H:Heap)(a:Option Addr)(l:Nat)(xs:List Int):Prop:=Row 1 H a l (i64s xs)
abbrev RowU (H:Heap)(a:Option Addr)(l:Nat)(xs:List UInt64):Prop:=Row 1 H a l (u64s xs)
theorem RowI.len {H:Heap}{a:Option Addr}{l:Nat}{xs:List Int}(h:RowI H a l xs):xs.length=l:=by have:=h.1;simpa using this
theorem RowU.len {H:Heap}{a:Option Addr}{l:Nat}{xs:List UInt64}(h:RowU H a l xs):xs.length=l:=by have:=h.1;simpa using this
theorem RowI.idx {H:Heap}{a:Option Addr}{l:Nat}{xs:List Int}(h:RowI H a l xs){i:Int}(h0:0<=i)(h1:i<l){K:Int->Prop}(hk:K (xs[i.toNat]'(by rw[h.len];omega))) :
  ∃b o,At a b o/\(0<=i/\i<l)/\∃n,rd H b (o+i.toNat)=some (.int .i64 n)/\K n:=by
 obtain⟨b,o,e,hr⟩:=h.at (by omega)
 exact⟨b,o,e,⟨h0,h1⟩,_,rdL_get' hr (i64s_get (by rw[h.len];omega)),hk⟩
theorem RowU.idx {H:Heap}{a:Option Addr}{l:Nat}{xs:List UInt64}(h:RowU H a l xs){i:Int}(h0:0<=i)(h1:i<l){K:UInt64->Prop}(hk:K (xs[i.toNat]'(by rw[h.len];omega))) :
  ∃b o,At a b o/\(0<=i/\i<l)/\∃n:UInt64,rd H b (o+i.toNat)=some (.int .u64 (n.toNat:Int))/\K n:=by
 obtain⟨b,o,e,hr⟩:=h.at (by omega)
 exact⟨b,o,e,⟨h0,h1⟩,_,rdL_get' hr (u64s_get (by rw[h.len];omega)),hk⟩
structure Buf (sz:Nat)(H:Heap)(n:Nat)(a:Option Addr)(l c:Nat)(cells:List Value):Prop where
 len:cells.length=l*sz
 le:l<=c
 ok:c*sz=0\/∃b,a=some ⟨b,0,none⟩/\n<=b/\RdL H b 0 cells/\WOk H b 0 (c*sz)
theorem Buf.row {sz:Nat}{H:Heap}{n:Nat}{a:Option Addr}{l c:Nat}{cells:List Value}(h:Buf sz H n a l c cells):Row sz H a l cells:=by
 refine⟨h.len,?_⟩
 rcases h.ok with h0|⟨b,e,_,hr,_⟩
 ·have hle:=Nat.mul_le_mul_right sz h.le
  exact .inl (List.length_eq_zero_iff.1 (by rw[h.len];omega))
 ·exact .inr ⟨b,0,e,hr⟩
theorem Buf.down {sz:Nat}{H:Heap}{n m:Nat}{a:Option Addr}{l c:Nat}{cells:List Value}(h:Buf sz H n a l c cells)(hm:m<=n):Buf sz H m a l c cells:=
 ⟨h.len,h.le,h.ok.imp id fun⟨b,e,hb,hr,hw⟩=>⟨b,e,by omega,hr,hw⟩⟩
theorem Buf.nil {sz:Nat}{H:Heap}{n:Nat}{a:Option Addr}:Buf sz H n a 0 0 []:=⟨by simp,Nat.le_refl _,.inl (by simp)⟩
theorem Buf.off {sz:Nat}{H:Heap}{n:Nat}{S:List Nat}{a:Option Addr}{l c:Nat}{cells:List Value}(h:Buf sz H n a l c cells)(h0:0<c*sz)(hs:∀b∈S,b<n):Off S a:=by
 rcases h.ok with h1|⟨b,rfl,hb,_⟩
 ·omega
 ·rintro b' o' e hm
  cases e
  have:=hs b hm;omega
theorem Buf.mod {sz:Nat}{S:List Nat}{H H':Heap}{n:Nat}{a:Option Addr}{l c:Nat}{cells:List Value}(h:Buf sz H n a l c cells)(k:Mod S H H')(hs:∀b∈S,b<n):Buf sz H' n a l c cells:=by
 refine⟨h.len,h.le,h.ok.imp id ?_⟩
 rintro⟨b,e,hb,hr,hw⟩
 have hn:b∉S:=fun hm=>by have:=hs b hm;omega
 exact⟨b,e,hb,k.rdL hn hr,k.wok hn hw⟩
theorem Buf.ext {sz:Nat}{H H':Heap}{n:Nat}{a:Option Addr}{l c:Nat}{cells:List Value}(h:Buf sz H n a l c cells)(k:Ext H H'):Buf sz H' n a l c cells:=h.mod k (by simp)
theorem New.buf {sz:Nat}{H H':Heap}{cs:List Value}{t p l:Nat}(n:New H cs t H' p)(hl:cs.length=l*sz):Buf sz H' H.size (some ⟨p,0,none⟩) l l cs:=
 ⟨hl,Nat.le_refl _,.inr ⟨p,rfl,n.ge,n.rdL,by rw[<-hl];exact n.wok⟩⟩
theorem growBy_le (need:Nat):∀r k,k<=need+(need+768) / 4->Builtin.growBy need r k<=need+(need+768) / 4
 | 0,k,h=>h
 | r+1,k,h=>by
  unfold Builtin.growBy
  split
  ·exact h
  ·exact growBy_le need r _ (by omega)
theorem nextcap_le {need cap:Nat}(h:cap<need):Builtin.nextslicecap need cap<=2*need+512:=by
 unfold Builtin.nextslicecap
 split
 ·omega
 ·split
  ·omega
  ·have:=growBy_le need 4 cap (by omega);omega
theorem Buf.app' {sz bytes e:Nat}{z:List Value}{H:Heap}{n:Nat}{a:Option Addr}{l c m:Nat}{cells new:List Value}{K:Option Addr->Nat->Nat->Heap->Prop}
  (h:Buf sz H n a l c cells) (hn:n<=H.size) (hm:new.length=m*sz) (hz:z.length=sz) (ho:∀v∈new,One v) (hf:(2*(l+m)+512)*bytes<=281474976710656) (hb:l+m<9223372036854775808)
  (k:∀a' c' H' S,Buf sz H' n a' (l+m) c' (cells++new)->Mod S H H'->(∀b∈S,n<=b/\0<c/\a=some ⟨b,0,none⟩)->(a'=a/\c'=c\/∃p,a'=some ⟨p,0,none⟩/\H.size<=p)->K a' (l+m) c' H'):App sz bytes e z H a l c m new K:=by
 refine⟨fun hle=>?_,fun hlt=>⟨hb,?_,cells,h.len,h.row.2,fun c' H' p hc hN=>?_⟩⟩
 ·rcases Classical.em (c*sz=0) with h0|hne
  ·have hc:=Nat.mul_le_mul_right sz hle
   have hmz:=Nat.mul_le_mul_right sz (Nat.le_add_left m l)
   have hlz:=Nat.mul_le_mul_right sz (Nat.le_add_right l m)
   have h1:new=[]:=List.length_eq_zero_iff.1 (by omega)
   have h2:cells=[]:=List.length_eq_zero_iff.1 (by rw[h.len];omega)
   refine .inl ⟨h1,k a c H [] ⟨?_,hle,.inl h0⟩ Mod.refl (by simp) (.inl ⟨rfl,rfl⟩)⟩
   rw[h1,h2];simp;omega
  ·obtain⟨b,e,hnb,hr,hw⟩:=h.ok.resolve_left hne
   have hc:=Nat.mul_le_mul_right sz hle
   rw[Nat.add_mul] at hc
   have hwn:WOk H b (0+l*sz) new.length:=wok_sub hw (by omega) (by rw[hm];omega)
   refine .inr ⟨b,0,e,hwn,ho,k a c _ [b] ⟨by rw[List.length_append,h.len,hm,Nat.add_mul],hle,.inr ⟨b,e,hnb,?_,wok_wrL hw⟩⟩ ((Mod.refl).wrL (.inl (by simp))) ?_ (.inl ⟨rfl,rfl⟩)⟩
   ·rw[rdL_append]
    refine⟨rdL_congr hr fun j _ hj=>(rd_wrL_out ?_).symm,?_⟩
    ·rw[h.len] at hj;omega
    ·rw[h.len];exact rdL_wrL hwn
   ·intro b' hb'
    simp at hb';subst hb'
    exact⟨hnb,Nat.pos_of_ne_zero fun h0=>hne (by rw[h0,Nat.zero_mul]),e⟩
 ·exact Nat.le_trans (Nat.mul_le_mul_right bytes (nextcap_le hlt)) hf
 ·have hl:(cells++new++rep (c'-(l+m)) z).length=c'*sz:=by
   rw[List.length_append,List.length_append,h.len,hm,rep_length,hz,<-Nat.add_mul,<-Nat.add_mul];congr 1;omega
  refine k _ c' H' [] ⟨by rw[List.length_append,h.len,hm,Nat.add_mul],hc,.inr ⟨p,rfl,Nat.le_trans hn hN.ge,?_,by have:=hN.wok;rwa [hl] at this⟩⟩ hN.mod (by simp) (.inr ⟨p,rfl,hN.ge⟩)
  exact (rdL_append.1 hN.rdL).1
theorem Buf.app {sz bytes e:Nat}{z:List Value}{H:Heap}{n:Nat}{a:Option Addr}{l c m:Nat}{cells new:List Value}{K:Option Addr->Nat->Nat->Heap->Prop}
  (h:Buf sz H n a l c cells) (hn:n<=H.size) (hm:new.length=m*sz) (hz:z.length=sz) (ho:∀v∈new,One v) (hf:(2*(l+m)+512)*bytes<=281474976710656) (hb:l+m<9223372036854775808)
  (k:∀a' c' H' S,Buf sz H' n a' (l+m) c' (cells++new)->Mod S H H'->(∀b∈S,n<=b)->K a' (l+m) c' H'):App sz bytes e z H a l c m new K:=
 h.app' hn hm hz ho hf hb fun a' c' H' S h1 h2 h3 _=>k a' c' H' S h1 h2 fun b hb=>(h3 b hb).1
end Go.VC
namespace Go.VC
open Go Go.Proofs
variable {H:Heap}{R:Value->Heap->Prop}
def Own (H:Heap)(b:Nat)(cells:List Value):Prop:=RdL H b 0 cells/\WOk H b 0 cells.length
theorem Own.rd {H:Heap}{b:Nat}{cells:List Value}(h:Own H b cells)(j:Nat){v:Value}(hj:cells[j]?=some v):rd H b j=some v:=by
 have:=rdL_get' h.1 hj;rwa [Nat.zero_add] at this
theorem Own.lt {H:Heap}{b:Nat}{cells:List Value}(h:Own H b cells)(h0:cells≠[]):b<H.size:=by
 cases cells with
 | nil=>exact (h0 rfl).elim
 | cons c r=>exact rd_lt (h.rd 0 rfl)
theorem Own.w {H:Heap}{b:Nat}{cells:List Value}(h:Own H b cells)(j n:Nat)(hj:Nat.ble (j+n) cells.length=true):WOk H b j n:=wok_sub h.2 (by omega) (by have:=Nat.le_of_ble_eq_true hj;omega)
theorem Own.wr {H:Heap}{b:Nat}{cells:List Value}(h:Own H b cells)(j:Nat)(v:Value):Own (wr H b j v) b (cells.set j v):=by
 have h1:=rdL_wr_set (k:=j) (v:=v) h.1
 rw[Nat.zero_add] at h1
 exact⟨h1,by rw[List.length_set];exact wok_wr h.2⟩
theorem Own.mod {S:List Nat}{H H':Heap}{b:Nat}{cells:List Value}(h:Own H b cells)(k:Mod S H H')(hb:b∉S):Own H' b cells:=⟨k.rdL hb h.1,k.wok hb h.2⟩
theorem New.own {H H':Heap}{cs:List Value}{t p:Nat}(n:New H cs t H' p):Own H' p cs:=⟨n.rdL,n.wok⟩
theorem maxI_t (a b:Int):maxI true a b=max a b:=by unfold maxI;simp
theorem maxI_f (a b:Int):maxI false a b=min a b:=by unfold maxI;simp
def meterC (now most budget:Int):List Value:=[.int .i64 now,.int .i64 most,.int .i64 budget]
theorem c171 (budget now most:Int)(h0:0<=now)(h1:now<=most)(h2:most<=budget)
  (k:∀H' p,New H (meterC now most budget) 248 H' p->R (.tuple #[.pointer (some ⟨p,0,none⟩),.int .i64 0]) H'):Ru 171 [.int .i64 budget,.int .i64 now,.int .i64 most] H R:=
 v171 _ _ _ ⟨by omega,fun _=>⟨by omega,fun _=>⟨by omega,fun _=>⟨rfl,fun H' p n=>k H' p n⟩⟩⟩⟩
theorem c107 (budget:Int)(h2:0<=budget)
  (k:∀H' p,New H (meterC 0 0 budget) 248 H' p->R (.tuple #[.pointer (some ⟨p,0,none⟩),.int .i64 0]) H'):Ru 107 [.int .i64 budget] H R:=
 v107 _ (c171 budget 0 0 (by omega) (by omega) h2 fun H' p n=>⟨_,_,rfl,k H' p n⟩)
theorem c172 {b:Nat}{now most budget:Int}(x1 x2:Int)(hm:Own H b (meterC now most budget))(hi:I64 (x2-now))
  (k:R (.bool (decide (x1<=x2-now))) H):Ru 172 [.pointer (some ⟨b,0,none⟩),.int .i64 x1,.int .i64 x2] H R:=
 v172 _ _ _ _ ⟨_,hm.rd 0 rfl,hi,k⟩
theorem c173 {b:Nat}{now most budget:Int}(x1:Int)(hm:Own H b (meterC now most budget))(hi:I64 (now+x1))
  (k:∀H',Own H' b (meterC (now+x1) (max most (now+x1)) budget)->Mod [b] H H'->R (.tuple #[]) H'):Ru 173 [.pointer (some ⟨b,0,none⟩),.int .i64 x1] H R:=by
 refine v173 _ _ _ ⟨_,hm.rd 0 rfl,hi,hm.w 0 1 rfl,?_⟩
 rintro _ rfl
 have h1:=hm.wr 0 (.int .i64 (now+x1))
 refine⟨_,h1.rd 1 rfl,_,h1.rd 0 rfl,h1.w 1 1 rfl,?_⟩
 rintro _ rfl
 refine k _ ?_ ((Mod.refl.wr (.inl (by simp))).wr (.inl (by simp)))
 have h2:=h1.wr 1 (.int .i64 (maxI true most (now+x1)))
 rw[maxI_t] at h2 ⊢
 exact h2
theorem c108 {b:Nat}{now most budget:Int}(x1:Int)(hm:Own H b (meterC now most budget))(h0:0<=x1)(h1:now+x1<=budget)(h2:0<=now)(h3:budget<=9223372036854775807)
  (k:∀H',Own H' b (meterC (now+x1) (max most (now+x1)) budget)->Mod [b] H H'->R (.int .i64 0) H'):Ru 108 [.pointer (some ⟨b,0,none⟩),.int .i64 x1] H R:=by
 refine v108 _ _ _ ⟨by omega,fun _=>⟨_,hm.rd 2 rfl,?_⟩⟩
 refine c172 _ _ hm ⟨by omega,by omega⟩ ⟨_,rfl,?_,fun _=>?_⟩
 ·intro e;simp at e;omega
 ·exact c173 _ hm ⟨by omega,by omega⟩ fun H' h' m=>k _ h' m
theorem c185 {b:Nat}{now most budget:Int}(x1:Int)(hm:Own H b (meterC now most budget))(h0:0<=x1)(h1:x1<=now)(h2:now<=most)(h3:now<=9223372036854775807)
  (k:∀H',Own H' b (meterC (now-x1) most budget)->Mod [b] H H'->R (.int .i64 0) H'):Ru 185 [.pointer (some ⟨b,0,none⟩),.int .i64 x1] H R:=by
 refine v185 _ _ _ ⟨by omega,fun _=>⟨_,hm.rd 0 rfl,by omega,fun _=>⟨⟨by omega,by omega⟩,?_⟩⟩⟩
 refine c173 _ hm ⟨by omega,by omega⟩ fun H' h' m=>k _ ?_ m
 rwa [show now+(0-x1)=now-x1 from by omega,show max most (now-x1)=most from by omega] at h'
end Go.VC
namespace Go.VC
open Go Go.Proofs
variable {H:Heap}{R:Value->Heap->Prop}
theorem Row.none {sz:Nat}{H:Heap}{l:Nat}{cells:List Value}(h:Row sz H none l cells):cells=[]:=by
 rcases h.2 with h|⟨_,_,e,_⟩
 ·exact h
 ·cases e
theorem Own.wrL {H:Heap}{b:Nat}{cells:List Value}(h:Own H b cells)(j:Nat)(vs:List Value)(hj:j+vs.length<=cells.length) :
  Own (wrL H b j vs) b (cells.take j++vs++cells.drop (j+vs.length)):=by
 refine⟨?_,?_⟩
 ·rw[rdL_append,rdL_append]
  have hw:WOk H b (0+(cells.take j).length) vs.length:=wok_sub h.2 (by omega) (by simp;omega)
  have hd:RdL H b (0+(cells.take j++vs).length) (cells.drop (j+vs.length)):=by
   have:=rdL_drop (k:=j+vs.length) h.1
   rwa [show 0+(cells.take j++vs).length=0+(j+vs.length) from by simp;omega]
  refine⟨⟨rdL_congr (rdL_take (k:=j) h.1) fun i _ hi=>(rd_wrL_out ?_).symm,?_⟩,rdL_congr hd fun i hi _=>(rd_wrL_out ?_).symm⟩
  ·simp at hi;omega
  ·have e:0+(cells.take j).length=j:=by simp;omega
   rw[e] at hw ⊢;exact rdL_wrL hw
  ·simp at hi;omega
 ·rw[show (cells.take j++vs++cells.drop (j+vs.length)).length=cells.length from by simp;omega]
  exact wok_wrL h.2
theorem c69 {a:Option Addr}{l c:Nat}{xs:List UInt64}(h:RowU H a l xs)(hl:l<=1099511627776)
  (k:∀a' c' H',Buf 1 H' H.size a' l c' (u64s xs)->Ext H H'->R (.slice a' l c') H'):Ru 69 [.slice a l c] H R:=by
 refine v69 _ _ _ ⟨?_,fun hn H' q n=>⟨u64s xs,by rw[u64s_length,h.len],(Ext.row n.mod h).2,?_⟩⟩
 ·rintro rfl
  have e:=h.none
  have hl:=h.1
  rw[e] at hl k
  simp at hl
  subst hl
  exact k _ _ _ Buf.nil Mod.refl
 ·refine (Buf.nil (sz:=1) (n:=H.size) (a:=some ⟨q,0,none⟩)).app n.mod.1 (by simp[h.len]) rfl u64s_one (by omega) (by omega) fun a' c' H'' S hb hm hs=>?_
  rw[Nat.zero_add] at hb ⊢
  exact k _ _ _ hb (n.mod.trans_new hm fun b hb=>.inr (hs b hb))
theorem c97 {a:Option Addr}{l c:Nat}{xs:List Int}(h:RowI H a l xs)(hl:l<=1099511627776)
  (k:∀a' c' H',Buf 1 H' H.size a' l c' (i64s xs)->Ext H H'->R (.slice a' l c') H'):Ru 97 [.slice a l c] H R:=by
 refine v97 _ _ _ ⟨?_,fun hn H' q n=>⟨i64s xs,by rw[i64s_length,h.len],(Ext.row n.mod h).2,?_⟩⟩
 ·rintro rfl
  have e:=h.none
  have hl:=h.1
  rw[e] at hl k
  simp at hl
  subst hl
  exact k _ _ _ Buf.nil Mod.refl
 ·refine (Buf.nil (sz:=1) (n:=H.size) (a:=some ⟨q,0,none⟩)).app n.mod.1 (by simp[h.len]) rfl i64s_one (by omega) (by omega) fun a' c' H'' S hb hm hs=>?_
  rw[Nat.zero_add] at hb ⊢
  exact k _ _ _ hb (n.mod.trans_new hm fun b hb=>.inr (hs b hb))
structure Arena (H:Heap)(b bw:Nat)(ws:List UInt64)(given:Nat):Prop where
 topC:∃c,ws.length<=c/\Own H b [.slice (some ⟨bw,0,none⟩) ws.length c,.int .i64 (given:Int)]
 row:Own H bw (u64s ws)
 ne:b≠bw
 le:given<=ws.length
 few:ws.length<=1048576
theorem Arena.mod {S:List Nat}{H H':Heap}{b bw:Nat}{ws:List UInt64}{given:Nat}(h:Arena H b bw ws given)(k:Mod S H H')(h1:b∉S)(h2:bw∉S):Arena H' b bw ws given:=
 ⟨h.topC.imp fun _ o=>⟨o.1,o.2.mod k h1⟩,h.row.mod k h2,h.ne,h.le,h.few⟩
theorem Arena.lt {H:Heap}{b bw:Nat}{ws:List UInt64}{given:Nat}(h:Arena H b bw ws given):b<H.size:=by
 obtain⟨c,_,o⟩:=h.topC
 exact o.lt (by simp)
theorem c170 (n:Int)(h0:1<=n)(h1:n<=1048576)(k:R (.int .i64 0) H):Ru 170 [.int .i64 n] H R:=v170 _ ⟨by omega,fun _=>⟨by omega,fun _=>k⟩⟩
theorem rep_u64 (n:Nat):rep n [.int .u64 0]=u64s (List.replicate n 0):=by
 unfold rep u64s
 induction n with
 | zero=>rfl
 | succ n ih=>rw[List.replicate_succ,List.replicate_succ,List.flatten_cons,ih];rfl
theorem c106 (n:Nat)(h0:1<=n)(h1:n<=1048576)
  (k:∀H' b bw,Arena H' b bw (List.replicate n 0) 0->Ext H H'->H.size<=b->H.size<=bw->R (.tuple #[.pointer (some ⟨b,0,none⟩),.int .i64 0]) H'):Ru 106 [.int .i64 (n:Int)] H R:=by
 refine v106 _ (c170 _ (by omega) (by omega) ⟨_,rfl,by omega,fun _=>⟨⟨by omega,by omega,by omega,by omega,by omega⟩,fun H' q hq H'' p hp=>?_⟩⟩)
 rw[Int.toNat_natCast,rep_u64] at hq
 rw[Int.toNat_natCast] at hp
 have e:(List.replicate n (0:UInt64)).length=n:=by simp
 refine k _ _ _ ⟨⟨_,Nat.le_refl _,by rw[e];exact hp.own⟩,hq.own.mod hp.mod (by simp),?_,by simp,by simpa using h1⟩ (hq.mod.new hp) (Nat.le_trans hq.mod.1 hp.ge) hq.ge
 have:=hq.lt;have:=hp.ge;omega
theorem c174 {b bw:Nat}{ws:List UInt64}{given:Nat}(h:Arena H b bw ws given)(k:R (.int .i64 ((ws.length:Int)-given)) H):Ru 174 [.pointer (some ⟨b,0,none⟩)] H R:=by
 obtain⟨cc,hcc,top⟩:=h.topC
 exact v174 _ _ ⟨_,_,_,top.rd 0 rfl,_,top.rd 1 rfl,by have:=h.le;have:=h.few;exact⟨by omega,by omega⟩,k⟩
theorem c109 {b bw:Nat}{ws:List UInt64}{given:Nat}(n:Nat)(h:Arena H b bw ws given)(hn:given+n<=ws.length)
  (k:∀H',Arena H' b bw ws (given+n)->Mod [b] H H'->R (.tuple #[.int .i64 (given:Int),.int .i64 0]) H'):Ru 109 [.pointer (some ⟨b,0,none⟩),.int .i64 (n:Int)] H R:=by
 have hf:=h.few
 obtain⟨cc,hcc,top⟩:=h.topC
 refine v109 _ _ _ ⟨by omega,fun _=>c174 h ⟨_,rfl,by omega,fun _=>⟨_,top.rd 1 rfl,_,top.rd 1 rfl,⟨by omega,by omega⟩,top.w 1 1 rfl,?_⟩⟩⟩
 rintro _ rfl
 refine k _ ⟨⟨cc,hcc,?_⟩,h.row.mod (S:=[b]) (Mod.refl.wr (.inl (by simp))) (by have:=h.ne;simp;omega),h.ne,hn,hf⟩ (Mod.refl.wr (.inl (by simp)))
 have:=top.wr 1 (.int .i64 ((given:Int)+n))
 rwa [<-Int.natCast_add] at this
theorem Arena.part {H:Heap}{b bw:Nat}{ws:List UInt64}{given:Nat}(h:Arena H b bw ws given)(at_ n:Nat)(hn:at_+n<=ws.length){cc:Nat}(hcc:ws.length<=cc) :
  RowU H (slA (some ⟨bw,0,none⟩) at_ cc 1) n ((ws.drop at_).take n):=by
 refine⟨by simp;omega,?_⟩
 unfold slA
 split
 ·rename_i e
  refine .inl ?_
  have:n=0:=by omega
  subst this;simp[u64s]
 ·refine .inr ⟨bw,at_,by simp[addr_add],?_⟩
  have:=rdL_take (k:=n) (rdL_drop (k:=at_) h.row.1)
  rw[Nat.zero_add] at this
  simpa [u64s,List.map_drop,List.map_take] using this
theorem c224 {b bw:Nat}{ws:List UInt64}{given:Nat}(h:Arena H b bw ws given)(at_ n:Nat)(hn:at_+n<=given)(g:FuncId)(u v:Array Value)(hg:callable Tryz.prog g=true)
  (k:∀cc,ws.length<=cc->Ru g (u.toList++[.slice (slA (some ⟨bw,0,none⟩) at_ cc 1) n (cc-at_)]++v.toList) H fun _ H'=>R (.int .i64 0) H') :
  Ru 224 [.pointer (some ⟨b,0,none⟩),.int .i64 (at_:Int),.int .i64 (n:Int),.func (.func g) u v] H R:=by
 have hf:=h.few
 obtain⟨cc,hcc,top⟩:=h.topC
 have hl:=h.le
 refine v224 _ _ _ _ _ ⟨fun H'=>H'=H,⟨by omega,fun _=>⟨by omega,fun _=>⟨_,top.rd 1 rfl,by omega,fun _=>⟨_,top.rd 1 rfl,⟨by omega,by omega⟩,by omega,fun _=>rfl⟩⟩⟩⟩,?_⟩
 rintro _ rfl
 refine⟨_,_,_,top.rd 0 rfl,⟨by omega,by omega⟩,⟨⟨by omega,by omega⟩,by omega,by omega⟩,g,u,v,rfl,hg,?_⟩
 rw[show ((at_:Int)+n).toNat-(at_:Int).toNat=n from by omega,Int.toNat_natCast]
 exact k cc hcc
theorem c238 {p:Nat}{v:Value}{a:Option Addr}{l c:Nat}{xs:List UInt64}(h:RowU H a l xs)(hp:Own H p [v])(hl:l<=1048576)
  (k:∀a' c' H',Buf 1 H' H.size a' l c' (u64s xs)->Own H' p [.slice a' l c']->Mod [p] H H'->R (.tuple #[]) H'):Ru 238 [.pointer (some ⟨p,0,none⟩),.slice a l c] H R:=by
 refine v238 _ _ _ _ _ (c69 h (by omega) fun a' c' H' hb he=>⟨_,_,_,rfl,(hp.mod he (by simp)).w 0 1 rfl,?_⟩)
 rintro _ rfl
 refine k _ _ _ (hb.mod (S:=[p]) (Mod.refl.wr (.inl (by simp))) (by have:=hp.lt (by simp);simpa using this)) ((hp.mod he (by simp)).wr 0 _) ((Mod.ext he).wr (.inl (by simp)))
theorem c183 {b bw:Nat}{ws:List UInt64}{given:Nat}(h:Arena H b bw ws given)(at_ n:Nat)(hn:at_+n<=given)
  (k:∀a' c' H',Buf 1 H' H.size a' n c' (u64s ((ws.drop at_).take n))->Ext H H'->R (.tuple #[.slice a' n c',.int .i64 0]) H') :
  Ru 183 [.pointer (some ⟨b,0,none⟩),.int .i64 (at_:Int),.int .i64 (n:Int)] H R:=by
 have hf:=h.few
 have hl:=h.le
 refine v183 _ _ _ _ fun H1 p n1=>?_
 have h1:=h.mod n1.mod (by simp) (by simp)
 refine c224 h1 at_ n hn 238 _ _ (by kernel_rfl) (fun cc hcc=>c238 (h1.part at_ n (by omega) hcc) n1.own (by omega) fun a' c' H2 hb ho hm=>⟨_,rfl,by simp,fun _=>⟨_,_,_,ho.rd 0 rfl,k _ _ _ (hb.down n1.mod.1) ?_⟩⟩)
 exact n1.mod.trans_new hm (by simpa using n1.ge)
theorem c194 {b bw:Nat}{ws:List UInt64}{given:Nat}(h:Arena H b bw ws given)(at_:Nat)(hn:at_+1<=given)
  (k:∀H',Ext H H'->R (.tuple #[.int .u64 ((ws[at_]'(by have:=h.le;omega)).toNat:Int),.int .i64 0]) H') :
  Ru 194 [.pointer (some ⟨b,0,none⟩),.int .i64 (at_:Int)] H R:=by
 have hf:=h.few
 have hl:=h.le
 refine v194 _ _ _ fun H1 p n1=>?_
 have h1:=h.mod n1.mod (by simp) (by simp)
 refine c224 h1 at_ 1 hn 238 _ _ (by kernel_rfl) (fun cc hcc=>c238 (h1.part at_ 1 (by omega) hcc) n1.own (by omega) fun a' c' H2 hb ho hm=>⟨_,rfl,by simp,fun _=>⟨_,_,_,ho.rd 0 rfl,?_⟩⟩)
 have hx:(ws.drop at_).take 1=[ws[at_]'(by omega)]:=by
  rw[List.drop_eq_getElem_cons (by omega)];rfl
 rw[hx] at hb
 refine RowU.idx (xs:=[ws[at_]'(by omega)]) hb.row (i:=0) (by omega) (by omega) (K:=fun x=>R (.tuple #[.int .u64 (x.toNat:Int),.int .i64 0]) H2) (k _ ?_)
 exact n1.mod.trans_new hm (by simpa using n1.ge)
def over {α:Type}(ws:List α)(at_:Nat)(xs:List α):List α:=ws.take at_++xs++ws.drop (at_+xs.length)
theorem over_length {α:Type}{ws:List α}{at_:Nat}{xs:List α}(h:at_+xs.length<=ws.length):(over ws at_ xs).length=ws.length:=by
 unfold over;simp;omega
theorem over_nil {α:Type}(ws:List α)(at_:Nat):over ws at_ []=ws:=by simp[over]
theorem c177 {b bw:Nat}{ws:List UInt64}{given:Nat}(h:Arena H b bw ws given)(at_:Nat){a:Option Addr}{l c:Nat}{xs:List UInt64}(hx:RowU H a l xs)(hn:at_+l<=given)
  (k:∀H',Arena H' b bw (over ws at_ xs) given->Mod [bw] H H'->R (.int .i64 0) H') :
  Ru 177 [.pointer (some ⟨b,0,none⟩),.int .i64 (at_:Int),.slice a l c] H R:=by
 have hf:=h.few
 have hl:=h.le
 have hxl:=hx.len
 refine v177 _ _ _ _ _ _ (c224 h at_ l hn 225 _ _ (by kernel_rfl) (fun cc hcc=>v225 _ _ _ _ fun H1 p n1=>⟨_,_,_,n1.rd 0,u64s xs,by simp[hxl],(Ext.row n1.mod hx).2,?_⟩))
 have h1:=h.mod n1.mod (by simp) (by simp)
 by_cases h0:xs=[]
 ·subst h0
  refine .inl ⟨rfl,_,rfl,k _ ?_ (Mod.refl.new n1)⟩
  rw[over_nil];exact h1
 ·have hl0:0<l:=by have:=List.length_pos_iff.2 h0;omega
  refine .inr ⟨bw,at_,?_,?_,u64s_one,?_⟩
  ·unfold slA At
   rw[if_neg (by omega)];simp[addr_add]
  ·exact wok_sub h1.row.2 (by omega) (by simp;omega)
  ·rintro _ rfl
   refine⟨_,rfl,k _ ⟨?_,?_,h.ne,by rw[over_length (by omega)];exact hl,by rw[over_length (by omega)];exact hf⟩ ((Mod.refl.new n1).wrL (.inl (by simp)))⟩
   ·rw[over_length (by omega)]
    exact h1.topC.imp fun _ o=>⟨o.1,o.2.mod (S:=[bw]) (Mod.refl.wrL (.inl (by simp))) (by simp[h.ne])⟩
   ·have:=h1.row.wrL at_ (u64s xs) (by simp;omega)
    simpa [over,u64s,List.map_take,List.map_drop] using this
end Go.VC
namespace Go.VC
open Go Go.Proofs
structure Op where
 kind:Int
 d:Int
 a:Int
 b:Int
 v:UInt64
deriving DecidableEq,Inhabited
def opC (o:Op):List Value:=[.int .i64 o.kind,.int .i64 o.d,.int .i64 o.a,.int .i64 o.b,.int .u64 (o.v.toNat:Int)]
def opsC (l:List Op):List Value:=l.flatMap opC
inductive Tree where
 | nil
 | op (o:Op) (r:Tree)
 | rep (o:Op) (b:Tree) (e:Op) (r:Tree)
namespace Tree
def flat:Tree->List Op
 | nil=>[]
 | op o r=>o ::flat r
 | rep o b e r=>o ::flat b++e ::flat r
def Ok:Tree->Prop
 | nil=>True
 | op o r=>1<=o.kind/\o.kind<=6/\Ok r
 | rep o b e r=>o.kind=7/\Ok b/\e.kind=0/\Ok r
def unroll:Tree->List Op
 | nil=>[]
 | op o r=>o ::unroll r
 | rep o b _ r=>(List.replicate o.v.toNat (unroll b)).flatten++unroll r
def size:Tree->Nat
 | nil=>0
 | op _ r=>1+size r
 | rep o b _ r=>o.v.toNat*size b+size r
def depth:Tree->Nat
 | nil=>0
 | op _ r=>depth r
 | rep _ b _ r=>max (depth b+1) (depth r)
def SizeOk:Tree->Prop
 | nil=>True
 | op _ r=>SizeOk r
 | rep o b _ r=>SizeOk b/\(size b=0\/size b<=65536/\o.v.toNat<=65536 / size b)/\SizeOk r
theorem size_eq:∀t:Tree,size t=(unroll t).length
 | nil=>rfl
 | op o r=>by simp[size,unroll,size_eq r,Nat.add_comm]
 | rep o b e r=>by simp[size,unroll,size_eq b,size_eq r,List.length_flatten,List.map_replicate,List.sum_replicate_nat]
def app:Tree->Tree->Tree
 | nil,u=>u
 | op o r,u=>op o (app r u)
 | rep o b e r,u=>rep o b e (app r u)
theorem flat_app:∀t u,flat (app t u)=flat t++flat u
 | nil,u=>rfl
 | op o r,u=>by simp[app,flat,flat_app r u]
 | rep o b e r,u=>by simp[app,flat,flat_app r u]
theorem ok_app:∀{t u},Ok t->Ok u->Ok (app t u)
 | nil,u,_,h=>h
 | op o r,u,h,k=>⟨h.1,h.2.1,ok_app h.2.2 k⟩
 | rep o b e r,u,h,k=>⟨h.1,h.2.1,h.2.2.1,ok_app h.2.2.2 k⟩
end Tree
def scan:List Op->Nat->Option Nat
 | [],n=>some n
 | o ::l,n=>
  if o.kind<0\/7<o.kind then none
  else if o.kind=0 then match n with
   | 0=>none
   | n+1=>scan l n
  else if o.kind=7 then scan l (n+1)
  else scan l n
theorem scan_append:∀(l m:List Op) (n:Nat),scan (l++m) n=(scan l n).bind (scan m)
 | [],m,n=>by simp[scan]
 | o ::l,m,n=>by
  simp only[List.cons_append,scan]
  split
  ·rfl
  ·split
   ·cases n with
    | zero=>rfl
    | succ n=>exact scan_append l m n
   ·split<;>exact scan_append l m _
theorem scan_tree:∀{t:Tree},t.Ok->∀n,scan t.flat n=some n
 | .nil,_,n=>rfl
 | .op o r,h,n=>by
  have h1:=h.1;have h2:=h.2.1
  simp only[Tree.flat,scan]
  rw[if_neg (by omega),if_neg (by omega),if_neg (by omega)]
  exact scan_tree h.2.2 n
 | .rep o b e r,h,n=>by
  simp only[Tree.flat,List.cons_append,scan]
  rw[if_neg (by have:=h.1;omega),if_neg (by have:=h.1;omega),if_pos h.1,scan_append,scan_tree h.2.1]
  simp only[Option.bind_some,scan]
  rw[if_neg (by have:=h.2.2.1;omega),if_pos h.2.2.1]
  exact scan_tree h.2.2.2 n
def zipFlat:List (Tree × Op)->Tree->List Op
 | [],t=>t.flat
 | (u,o) ::z,t=>zipFlat z u++o ::t.flat
def ZipOk:List (Tree × Op)->Tree->Prop
 | [],t=>t.Ok
 | (u,o) ::z,t=>o.kind=7/\t.Ok/\ZipOk z u
theorem zipFlat_app:∀(z:List (Tree × Op)) (t u:Tree),zipFlat z (t.app u)=zipFlat z t++u.flat
 | [],t,u=>Tree.flat_app t u
 | (x,o) ::z,t,u=>by simp[zipFlat,Tree.flat_app]
theorem zipOk_app:∀{z:List (Tree × Op)} {t u:Tree},ZipOk z t->u.Ok->ZipOk z (t.app u)
 | [],_,_,h,k=>Tree.ok_app h k
 | (_,_) ::_,_,_,h,k=>⟨h.1,Tree.ok_app h.2.1 k,h.2.2⟩
theorem scan_zip:∀(l:List Op) (z:List (Tree × Op)) (t:Tree),ZipOk z t->∀m,scan l z.length=some m->∃z' t',ZipOk z' t'/\z'.length=m/\zipFlat z' t'=zipFlat z t++l
 | [],z,t,h,m,hs=>⟨z,t,h,by simpa [scan] using hs,by simp⟩
 | o ::l,z,t,h,m,hs=>by
  simp only[scan] at hs
  split at hs
  ·cases hs
  ·split at hs
   ·rename_i hk _
    cases z with
    | nil=>cases hs
    | cons p z=>
     obtain⟨u,o'⟩:=p
     obtain⟨z',t',h1,h2,h3⟩:=scan_zip l z (u.app (.rep o' t o .nil)) (zipOk_app h.2.2 ⟨h.1,h.2.1,by assumption,trivial⟩) m hs
     refine⟨z',t',h1,h2,?_⟩
     rw[h3,zipFlat_app]
     simp[zipFlat,Tree.flat]
   ·split at hs
    ·obtain⟨z',t',h1,h2,h3⟩:=scan_zip l ((t,o) ::z) .nil ⟨by assumption,trivial,h⟩ m hs
     exact⟨z',t',h1,h2,by rw[h3];simp[zipFlat,Tree.flat]⟩
    ·obtain⟨z',t',h1,h2,h3⟩:=scan_zip l z (t.app (.op o .nil)) (zipOk_app h ⟨by omega,by omega,trivial⟩) m hs
     exact⟨z',t',h1,h2,by rw[h3,zipFlat_app];simp[Tree.flat]⟩
theorem scan_iff (l:List Op):scan l 0=some 0<->∃t:Tree,t.Ok/\t.flat=l:=by
 constructor
 ·intro h
  obtain⟨z,t,h1,h2,h3⟩:=scan_zip l [] .nil trivial 0 h
  cases z with
  | nil=>exact⟨t,h1,by simpa [zipFlat,Tree.flat] using h3⟩
  | cons _ _=>simp at h2
 ·rintro⟨t,h,rfl⟩
  exact scan_tree h 0
def Stop (x:List Op):Prop:=x=[]\/∃e r,x=e ::r/\e.kind=0
theorem flat_inj':∀{t u:Tree},t.Ok->u.Ok->∀{x y:List Op},Stop x->Stop y->t.flat++x=u.flat++y->t=u/\x=y
 | .nil,.nil,_,_,_,_,_,_,h=>⟨rfl,h⟩
 | .nil,.op o r,_,hu,x,y,hx,_,h=>by
  simp only[Tree.flat,List.nil_append,List.cons_append] at h
  rcases hx with rfl|⟨e,r',rfl,he⟩
  ·cases h
  ·cases h;have:=hu.1;omega
 | .nil,.rep o b e r,_,hu,x,y,hx,_,h=>by
  simp only[Tree.flat,List.nil_append,List.cons_append] at h
  rcases hx with rfl|⟨e',r',rfl,he⟩
  ·cases h
  ·cases h;have:=hu.1;omega
 | .op o r,.nil,ht,_,x,y,_,hy,h=>by
  simp only[Tree.flat,List.nil_append,List.cons_append] at h
  rcases hy with rfl|⟨e,r',rfl,he⟩
  ·cases h
  ·cases h;have:=ht.1;omega
 | .op o r,.op o' r',ht,hu,x,y,hx,hy,h=>by
  simp only[Tree.flat,List.cons_append,List.cons.injEq] at h
  obtain⟨h1,h2⟩:=flat_inj' ht.2.2 hu.2.2 hx hy h.2
  exact⟨by rw[h.1,h1],h2⟩
 | .op o r,.rep o' b' e' r',ht,hu,x,y,hx,hy,h=>by
  simp only[Tree.flat,List.cons_append,List.cons.injEq] at h
  have:=ht.2.1;have:=hu.1;rw[h.1] at *;omega
 | .rep o b e r,.nil,ht,_,x,y,_,hy,h=>by
  simp only[Tree.flat,List.nil_append,List.cons_append] at h
  rcases hy with rfl|⟨e',r',rfl,he⟩
  ·cases h
  ·cases h;have:=ht.1;omega
 | .rep o b e r,.op o' r',ht,hu,x,y,hx,hy,h=>by
  simp only[Tree.flat,List.cons_append,List.cons.injEq] at h
  have:=ht.1;have:=hu.2.1;rw[h.1] at *;omega
 | .rep o b e r,.rep o' b' e' r',ht,hu,x,y,hx,hy,h=>by
  simp only[Tree.flat,List.cons_append,List.append_assoc,List.cons.injEq] at h
  obtain⟨h1,h2⟩:=flat_inj' ht.2.1 hu.2.1 (.inr ⟨e,_,rfl,ht.2.2.1⟩) (.inr ⟨e',_,rfl,hu.2.2.1⟩) h.2
  simp only[List.cons.injEq] at h2
  obtain⟨h3,h4⟩:=flat_inj' ht.2.2.2 hu.2.2.2 hx hy h2.2
  exact⟨by rw[h.1,h1,h2.1,h3],h4⟩
theorem flat_inj {t u:Tree}(ht:t.Ok)(hu:u.Ok)(h:t.flat=u.flat):t=u:=
 (flat_inj' ht hu (x:=[]) (y:=[]) (.inl rfl) (.inl rfl) (by simpa using h)).1
end Go.VC
namespace Go.VC
open Go Go.Proofs
variable {H:Heap}{R:Value->Heap->Prop}
theorem opC_length (o:Op):(opC o).length=5:=rfl
theorem opsC_length (l:List Op):(opsC l).length=l.length*5:=by
 induction l with
 | nil=>rfl
 | cons o l ih=>simp only[opsC,List.flatMap_cons,List.length_append,List.length_cons] at *;rw[ih,opC_length];omega
theorem opC_one {o:Op}:∀v∈opC o,One v:=by intro v hv;simp[opC] at hv;rcases hv with rfl|rfl|rfl|rfl|rfl<;>trivial
theorem opsC_one {l:List Op}:∀v∈opsC l,One v:=by intro v hv;simp only[opsC,List.mem_flatMap] at hv;obtain⟨o,_,h⟩:=hv;exact opC_one v h
abbrev RowO (H:Heap)(a:Option Addr)(l:Nat)(ops:List Op):Prop:=Row 5 H a l (opsC ops)
theorem RowO.len {H:Heap}{a:Option Addr}{l:Nat}{ops:List Op}(h:RowO H a l ops):ops.length=l:=by have:=h.1;rw[opsC_length] at this;omega
theorem opsC_get {ops:List Op}{i:Nat}(hi:i<ops.length):∃r,(opsC ops).drop (i*5)=opC ops[i]++r:=by
 have h:ops=ops.take i++ops[i] ::ops.drop (i+1):=by rw[<-List.drop_eq_getElem_cons hi,List.take_append_drop]
 have e:opsC ops=opsC (ops.take i)++(opC ops[i]++opsC (ops.drop (i+1))):=(congrArg opsC h).trans (by simp only[opsC,List.flatMap_append,List.flatMap_cons])
 refine⟨opsC (ops.drop (i+1)),?_⟩
 rw[e]
 have hl:(opsC (ops.take i)).length=i*5:=by rw[opsC_length,List.length_take,Nat.min_eq_left (by omega)]
 rw[<-hl,List.drop_left]
theorem RowO.rdL {H:Heap}{a:Option Addr}{l:Nat}{ops:List Op}(h:RowO H a l ops){i:Int}(h0:0<=i)(h1:i<l):∃b o,At a b o/\RdL H b (o+i.toNat*5) (opC (ops[i.toNat]'(by rw[h.len];omega))):=by
 obtain⟨b,o,e,hr⟩:=h.at (by omega)
 obtain⟨r,hd⟩:=opsC_get (ops:=ops) (i:=i.toNat) (by rw[h.len];omega)
 have:=rdL_drop (k:=i.toNat*5) hr
 rw[hd] at this
 exact⟨b,o,e,(rdL_append.1 this).1⟩
theorem RowO.load {H:Heap}{a:Option Addr}{l:Nat}{ops:List Op}(h:RowO H a l ops){i:Int}(h0:0<=i)(h1:i<l){zs:List Value}(hz:zs.length=5){K:Nat->Heap->Prop}
  (k:∀H1 p,Own H1 p (opC (ops[i.toNat]'(by rw[h.len];omega)))->Ext H H1->H.size<=p->p<H1.size->K p H1) :
  ∃b o,At a b o/\(0<=i/\i<l)/\∃cs:List Value,List.length cs=5/\RdL H b (o+i.toNat*5) cs/\∀H' p,New H zs 74 H' p->List.length cs=5/\(∀v:Value,v∈cs->One v)/\WOk H' p 0 5/\∀H'',H''=wrL H' p 0 cs->K p H'':=by
 obtain⟨b,o,e,hr⟩:=h.rdL h0 h1
 refine⟨b,o,e,⟨h0,h1⟩,_,rfl,hr,fun H' p n=>⟨rfl,opC_one,by have:=n.wok;rwa [hz] at this,?_⟩⟩
 rintro _ rfl
 have ho:=n.own.wrL 0 (opC (ops[i.toNat]'(by rw[h.len];omega))) (by rw[hz];exact Nat.le_refl 5)
 rw[List.take_zero,List.nil_append,opC_length,Nat.zero_add,<-hz,List.drop_length,List.append_nil] at ho
 refine k _ p ho ?_ n.ge (by rw[wrL_size];exact n.lt)
 exact (Mod.refl (S:=[]).new n).trans_new (Mod.refl.wrL (S:=[p]) (.inl (by simp))) (by simpa using n.ge)
theorem Buf.shrink {sz:Nat}{H:Heap}{n:Nat}{a:Option Addr}{l l' c:Nat}{xs ys:List Value}(h:Buf sz H n a l c (xs++ys))(hl:xs.length=l'*sz)(hle:l'<=l):Buf sz H n a l' c xs:=
 ⟨hl,Nat.le_trans hle h.le,h.ok.imp id fun⟨b,e,hn,hr,hw⟩=>⟨b,e,hn,(rdL_append.1 hr).1,hw⟩⟩
theorem Buf.keep {sz:Nat}{S:List Nat}{H H':Heap}{n:Nat}{a:Option Addr}{l c:Nat}{cells:List Value}(h:Buf sz H n a l c cells)(k:Mod S H H')(hs:0<c->Off S a)(h1:sz=1):Buf sz H' n a l c cells:=by
 refine⟨h.len,h.le,?_⟩
 rcases h.ok with h0|⟨b,e,hb,hr,hw⟩
 ·exact .inl h0
 ·by_cases h0:c=0
  ·subst h0;exact .inl (by simp)
  ·have hn:=hs (by omega) b 0 e
   exact .inr ⟨b,e,hb,k.rdL hn hr,k.wok hn hw⟩
def around (o:Op)(stk:List Nat):List Nat:=if o.kind=0 then stk.dropLast else stk
def behind (o:Op)(i:Nat)(stk:List Nat):List Nat:=if o.kind=7 then around o stk++[i] else around o stk
def natsI (l:List Nat):List Int:=l.map fun k:Nat=>(k:Int)
theorem c201 {a:Option Addr}{l c:Nat}{ops:List Op}(h:RowO H a l ops)(hl:l<=4398046511104)(g:FuncId)(u v:Array Value)(hg:callable Tryz.prog g=true)
  (W:Nat->List Nat->List Nat->Heap->Prop) (T0:List Nat) (hoff:∀H',Mod T0 H H'->RowO H' a l ops)
  (h0:W 0 [] T0 H)
  (hT:∀i stk T H',W i stk T H'->∀b∈T,b<H'.size)
  (hM:∀i stk T S H' H'',W i stk T H'->Mod S H' H''->(∀b∈S,b∉T)->W i stk T H'')
  (hS:∀i (hi:i<ops.length) stk T H' a' l' c',W i stk T H'->Mod T0 H H'->RowO H' a l ops->(ops[i].kind=0->stk≠[])->0<=ops[i].kind->ops[i].kind<=7->RowI H' a' l' (natsI (around ops[i] stk))->stk.length<=i->
   Ru g (u.toList++[.int .i64 (i:Int),.slice a' l' c']++v.toList) H' fun _ H''=>∃T',W (i+1) (behind ops[i] i stk) T' H''/\Mod T H' H''/\∀b∈T',b∈T\/H'.size<=b)
  (k1:∀H' T,scan ops 0=some 0->W ops.length [] T H'->Mod T0 H H'->R (.bool true) H')
  (k2:∀H',scan ops 0≠some 0->Mod T0 H H'->R (.bool false) H') :
  Ru 201 [.slice a l c,.func (.func g) u v] H R:=by
 have hlen:=h.len
 refine v201 _ _ _ _ ⟨fun a1 l1 c1 well i H'=>well=true/\∃k:Nat,i=k/\k<=l/\∃stk T,W k stk T H'/\scan (ops.take k) 0=some stk.length/\stk.length<=k/\
   Buf 1 H' H.size a1 l1 c1 (i64s (natsI stk))/\Mod T0 H H'/\(∀b∈T,b∈T0\/H.size<=b)/\(0<c1->Off T a1),fun _ _ _ _ i _=>(l-i).toNat,
  ⟨rfl,0,rfl,by omega,[],T0,h0,rfl,Nat.le_refl _,Buf.nil,Mod.refl,fun b hb=>.inl hb,by omega⟩,?_⟩
 rintro H1 a1 l1 c1 _ _ ⟨rfl,k,rfl,hkl,stk,T,hW,hsc,hst,hB,hm,hTn,hOff⟩
 have hl1:stk.length=l1:=by have:=hB.len;simpa [natsI] using this
 have hrow:RowO H1 a l ops:=hoff _ hm
 refine⟨fun hlt=>?_,fun hge=>?_⟩
 ·have hk:k<l:=by omega
  have hko:k<ops.length:=by omega
  have hscn:scan (ops.take (k+1)) 0=(scan [ops[k]] stk.length):=by
   rw[List.take_succ_eq_append_getElem hko,scan_append,hsc];rfl
  refine hrow.load (by omega) hlt rfl fun H2 p hO e2 hp hpl=>?_
  have ek:ops[(k:Int).toNat]'(by omega)=ops[k]:=by simp
  rw[ek] at hO
  have bad:∀H',Mod T0 H H'->scan [ops[k]] stk.length=none->R (.bool false) H':=by
   intro H' m hn
   refine k2 H' ?_ m
   have:scan ops 0=none:=by
    have e:ops=ops.take (k+1)++ops.drop (k+1):=(List.take_append_drop ..).symm
    rw[e,scan_append,hscn,hn];rfl
   rw[this];simp
  have m2:Mod T0 H H2:=hm.thenExt e2
  refine⟨fun b H'=>H'=H2/\(b=true<->scan [ops[k]] stk.length=none),?_,?_⟩
  ·refine⟨_,hO.rd 0 rfl,fun hneg=>⟨rfl,by simp[scan,hneg]⟩,fun hneg=>⟨_,hO.rd 0 rfl,fun h7=>⟨rfl,by simp[scan,h7]⟩,fun h7=>⟨_,hO.rd 0 rfl,fun hz=>⟨rfl,?_⟩,fun hz=>⟨rfl,?_⟩⟩⟩⟩
   ·simp only[scan,hz]
    rw[<-hl1]
    cases stk with
    | nil=>simp[decP]
    | cons x s=>simp[decP];omega
   ·simp only[scan,hneg,h7,hz,if_false,or_self]
    split<;>simp
  ·rintro H2 b ⟨rfl,hb⟩
   refine⟨fun e=>bad _ m2 (hb.1 e),fun e=>?_⟩
   have hne:scan [ops[k]] stk.length≠none:=fun hn=>by rw[hb.2 hn] at e;cases e
   have hr0:0<=ops[k].kind/\ops[k].kind<=7:=by
    refine⟨?_,?_⟩
    ·exact Int.not_lt.1 fun h=>hne (by simp[scan,h])
    ·exact Int.not_lt.1 fun h=>hne (by simp[scan,h])
   have hz0:ops[k].kind=0->stk≠[]:=fun hz hnil=>hne (by simp[scan,hz,hnil])
   have hlen2:scan [ops[k]] stk.length=some (behind ops[k] k stk).length:=by
    unfold behind around
    simp only[scan]
    rw[if_neg (by omega)]
    by_cases hz:ops[k].kind=0
    ·have:=hz0 hz
     obtain⟨n,hn⟩:∃n,stk.length=n+1:=⟨stk.length-1,by have:=List.length_pos_iff.2 this;omega⟩
     rw[if_pos hz,if_neg (by omega),if_pos hz,hn];simp;omega
    ·rw[if_neg hz,if_neg hz]
     by_cases h7:ops[k].kind=7
     ·rw[if_pos h7,if_pos h7];simp
     ·rw[if_neg h7,if_neg h7]
   have hblen:(behind ops[k] k stk).length<=k+1:=by
    have h1:(around ops[k] stk).length<=stk.length:=by unfold around;split<;>simp
    unfold behind;split<;>simp<;>omega
   have hW2:W k stk T H2:=hM _ _ _ [] _ _ hW e2 (by simp)
   have hT2:=hT _ _ _ _ hW2
   have hpT:p∉T:=fun hmem=>by have:=hT _ _ _ _ hW p hmem;omega
   have call:∀(l2:Nat) (K:Value->Heap->Prop),Buf 1 H2 H.size a1 l2 c1 (i64s (natsI (around ops[k] stk)))->
     (∀r H4 T',W (k+1) (behind ops[k] k stk) T' H4->Own H4 p (opC ops[k])->Buf 1 H4 H.size a1 l2 c1 (i64s (natsI (around ops[k] stk)))->Mod T0 H H4->H2.size<=H4.size->
      (∀b∈T',b∈T0\/H.size<=b)->(∀b∈T',b<H4.size)->(0<c1->Off T' a1)->K r H4)->
     Ru g (u.toList++[.int .i64 (k:Int),.slice a1 l2 c1]++v.toList) H2 K:=by
    intro l2 K hB2 hK
    refine Runs.mono (hS k hko stk T H2 a1 l2 c1 hW2 m2 (hoff _ m2) hz0 hr0.1 hr0.2 hB2.row hst) ?_
    rintro r H4 ⟨T',hW4,m4,hT4⟩
    refine hK r H4 T' hW4 (hO.mod m4 hpT) (hB2.keep m4 hOff rfl) (m2.trans_new m4 hTn) m4.1 (fun b hb=>(hT4 b hb).elim (hTn b) fun h'=>.inr (Nat.le_trans m2.1 h')) (hT _ _ _ _ hW4) ?_
    intro hc b o e hbT
    rcases hT4 b hbT with h'|h'
    ·exact hOff hc b o e h'
    ·rcases hB2.ok with h0|⟨b',e',_,_,hw⟩
     ·omega
     ·rw[e'] at e;cases e
      have:=rdsome_lt (hw 0 (by omega)).1
      omega
   have fin:∀l2,l2<=k->Buf 1 H2 H.size a1 l2 c1 (i64s (natsI (around ops[k] stk)))->l2=(around ops[k] stk).length:=by
    intro l2 _ hB2;have:=hB2.len;simp[natsI] at this;omega
   refine⟨_,hO.rd 0 rfl,fun hz=>?_,fun hz=>?_⟩
   ·have hpos:=List.length_pos_iff.2 (hz0 hz)
    refine⟨⟨by omega,by omega⟩,⟨by omega,by have:=hB.le;omega⟩,g,u,v,rfl,hg,?_⟩
    have hB2:Buf 1 H2 H.size a1 ((l1:Int)-1).toNat c1 (i64s (natsI (around ops[k] stk))):=by
     have hB':=hB.ext e2
     have e:stk=around ops[k] stk++[stk.getLast (hz0 hz)]:=by unfold around;rw[if_pos hz,List.dropLast_concat_getLast]
     rw[e] at hB'
     simp only[natsI,List.map_append,i64s_append] at hB'
     refine hB'.shrink ?_ (by omega)
     unfold around;rw[if_pos hz];simp;omega
    refine call _ _ hB2 fun r H4 T' hW4 hO4 hB4 m4 hs4 hT4 hl4 hOff4=>⟨_,hO4.rd 0 rfl,fun h7=>by omega,fun h7=>?_⟩
    exact⟨⟨by omega,by omega⟩,⟨rfl,k+1,by push_cast;rfl,by omega,behind ops[k] k stk,T',hW4,by rw[hscn,hlen2],hblen,by unfold behind;rw[if_neg h7];exact hB4,m4,hT4,hOff4⟩,by dsimp only;omega⟩
   ·refine⟨g,u,v,rfl,hg,?_⟩
    have hB2:Buf 1 H2 H.size a1 l1 c1 (i64s (natsI (around ops[k] stk))):=by
     unfold around;rw[if_neg hz];exact hB.ext e2
    refine call _ _ hB2 fun r H4 T' hW4 hO4 hB4 m4 hs4 hT4 hl4 hOff4=>⟨_,hO4.rd 0 rfl,fun h7 H5 q n5=>⟨i64s [(k:Int)],rfl,.inr ⟨q,0,rfl,n5.rdL⟩,?_⟩,fun h7=>?_⟩
    ·have hl1k:l1<=k:=by omega
     refine (hB4.ext n5.mod).app' (Nat.le_trans m4.1 n5.mod.1) rfl rfl i64s_one (by omega) (by omega) fun a6 c6 H6 S hB6 m6 hS6 hf6=>?_
     have hST:∀b∈S,b∉T':=fun b hb hbT=>by
      obtain⟨_,hc,e⟩:=hS6 b hb
      exact hOff4 hc b 0 e hbT
     refine⟨⟨by omega,by omega⟩,⟨rfl,k+1,by push_cast;rfl,by omega,behind ops[k] k stk,T',hM _ _ _ _ _ _ (hM _ _ _ [] _ _ hW4 n5.mod (by simp)) m6 hST,by rw[hscn,hlen2],hblen,?_,(m4.thenExt n5.mod).trans_new m6 fun b hb=>.inr (hS6 b hb).1,hT4,?_⟩,by dsimp only;omega⟩
     ·unfold behind;rw[if_pos h7]
      simpa [natsI,i64s] using hB6
     ·intro hc b o e hbT
      rcases hf6 with ⟨rfl,rfl⟩|⟨p',e',hp'⟩
      ·exact hOff4 hc b o e hbT
      ·rw[e'] at e;cases e
       have:=hl4 _ hbT
       have:=n5.mod.1
       omega
    ·exact⟨⟨by omega,by omega⟩,⟨rfl,k+1,by push_cast;rfl,by omega,behind ops[k] k stk,T',hW4,by rw[hscn,hlen2],hblen,by unfold behind;rw[if_neg h7];exact hB4,m4,hT4,hOff4⟩,by dsimp only;omega⟩
 ·have hk:k=l:=by omega
  subst hk
  rw[<-hlen,List.take_length] at hsc
  refine⟨fun _=>?_,by simp⟩
  by_cases h0:stk=[]
  ·subst h0
   have:l1=0:=by simpa using hl1.symm
   rw[decide_eq_true (by omega)]
   rw[<-hlen] at hW
   exact k1 _ _ hsc hW hm
  ·have:=List.length_pos_iff.2 h0
   rw[decide_eq_false (by omega)]
   refine k2 _ ?_ hm
   rw[hsc];simp;omega
def dfold:List Op->Nat->Int->Int
 | [],_,d=>d
 | o ::l,n,d=>dfold l (if o.kind=0 then n-1 else if o.kind=7 then n+1 else n) (if o.kind=7 then max d (n+1) else d)
theorem dfold_append:∀(l m:List Op) (n k:Nat) (d:Int),scan l n=some k->dfold (l++m) n d=dfold m k (dfold l n d)
 | [],m,n,k,d,h=>by simp[scan] at h;subst h;rfl
 | o ::l,m,n,k,d,h=>by
  simp only[scan] at h
  split at h
  ·cases h
  ·simp only[List.cons_append,dfold]
   split at h
   ·rename_i hz
    cases n with
    | zero=>cases h
    | succ n=>simp only[hz,if_true];exact dfold_append l m n k _ (by simpa using h)
   ·rename_i hz
    split at h
    ·rename_i h7;simp only[h7,if_true];exact dfold_append l m _ k _ h
    ·rename_i h7;simp only[hz,h7,if_false];exact dfold_append l m _ k _ h
theorem dfold_tree:∀{t:Tree},t.Ok->∀(n:Nat) (d:Int),0<=d->dfold t.flat n d=if t.depth=0 then d else max d (n+t.depth)
 | .nil,_,n,d,_=>by simp[Tree.flat,dfold,Tree.depth]
 | .op o r,h,n,d,hd=>by
  have h1:=h.1;have h2:=h.2.1
  simp only[Tree.flat,dfold,Tree.depth]
  rw[if_neg (by omega),if_neg (by omega),if_neg (by omega)]
  exact dfold_tree h.2.2 n d hd
 | .rep o b e r,h,n,d,hd=>by
  have h7:=h.1
  have he:=h.2.2.1
  simp only[Tree.flat,List.cons_append,dfold,Tree.depth]
  rw[if_neg (by omega),if_pos h7,if_pos h7,dfold_append _ _ _ (n+1) _ (scan_tree h.2.1 (n+1)),dfold_tree h.2.1 _ _ (by omega)]
  simp only[dfold]
  rw[if_pos he,if_neg (by omega),Nat.add_sub_cancel]
  rw[dfold_tree h.2.2.2 n _ (by split<;>omega)]
  split<;>split<;>omega
theorem scan_bound:∀(l:List Op) (n m:Nat),scan l n=some m->m<=n+l.length
 | [],n,m,h=>by simp[scan] at h;simp;omega
 | o ::l,n,m,h=>by
  simp only[scan] at h
  split at h
  ·cases h
  ·split at h
   ·cases n with
    | zero=>cases h
    | succ n=>have:=scan_bound l n m h;simp;omega
   ·split at h
    ·have:=scan_bound l _ m h;simp;omega
    ·have:=scan_bound l _ m h;simp;omega
theorem c365 {a:Option Addr}{l c p p1 i n:Nat}{ops:List Op}{d:Int}(h:RowO H a l ops)(hi:i<l)(hp:rd H p 0=some (.slice a l c))(h1:Own H p1 [.int .i64 d])(hn:n<=4398046511104)
  (a':Option Addr) (c':Nat) (k:∀H',Own H' p1 [.int .i64 (if (ops[i]'(by rw[h.len];exact hi)).kind=7 then max d (n+1) else d)]->Mod [p1] H H'->R (.tuple #[]) H') :
  Ru 365 [.int .i64 (i:Int),.slice a' n c',.pointer (some ⟨p,0,none⟩),.pointer (some ⟨p1,0,none⟩)] H R:=by
 obtain⟨b,o,e,hr⟩:=h.rdL (i:=i) (by omega) (by omega)
 have hr0:=hr.1
 refine v365 _ _ _ _ _ _ _ _ ⟨_,_,_,hp,b,o,e,⟨by omega,by omega⟩,_,hr0,fun h7=>⟨_,h1.rd 0 rfl,⟨by omega,by omega⟩,h1.w 0 1 rfl,?_⟩,fun h7=>?_⟩
 ·rintro _ rfl
  have:=h1.wr 0 (.int .i64 (maxI true d ((n:Int)+1)))
  refine k _ ?_ (Mod.refl.wr (.inl (by simp)))
  rw[maxI_t] at this ⊢
  simp only[Int.toNat_natCast] at h7
  rw[if_pos h7];exact this
 ·refine k _ ?_ Mod.refl
  simp only[Int.toNat_natCast] at h7
  rw[if_neg h7];exact h1
theorem c337 {a:Option Addr}{l c:Nat}{ops:List Op}(h:RowO H a l ops)(hl:l<=4398046511104)
  (k1:∀H' t,Tree.Ok t->t.flat=ops->Ext H H'->R (.tuple #[.int .i64 (t.depth:Int),.int .i64 0]) H') (k2:∀H',scan ops 0≠some 0->Ext H H'->R (.tuple #[.int .i64 0,.int .i64 6]) H'):Ru 337 [.slice a l c] H R:=by
 refine v337 _ _ _ fun H1 p n1 H2 p1 n2=>⟨n2.own.w 0 1 rfl,?_⟩
 rintro _ rfl
 have m3:Mod [p1] H2 (wr H2 p1 0 (.int .i64 0)):=Mod.refl.wr (.inl (by simp))
 have o3:Own (wr H2 p1 0 (.int .i64 0)) p1 [.int .i64 0]:=n2.own.wr 0 _
 have g1:=n1.ge;have g2:=n2.ge;have l1:=n1.lt;have l2:=n2.lt
 have op3:Own (wr H2 p1 0 (.int .i64 0)) p [.slice a l c]:=(n1.own.mod n2.mod (by simp)).mod m3 (by simp;omega)
 have e3:Ext H (wr H2 p1 0 (.int .i64 0)):=(n1.mod.new n2).trans_new m3 (by simp;omega)
 have hlen:=h.len
 refine⟨_,_,_,op3.rd 0 rfl,c201 (e3.row h) hl 365 _ _ (by kernel_rfl) (fun i stk T H'=>T=[p,p1]/\scan (ops.take i) 0=some stk.length/\Own H' p [.slice a l c]/\Own H' p1 [.int .i64 (dfold (ops.take i) 0 0)]) [p,p1] ?_ ⟨rfl,rfl,op3,o3⟩ ?_ ?_ ?_ ?_ ?_⟩
 ·exact fun H' m=>Ext.row (e3.trans_new m (by simp;omega)) h
 ·rintro i stk T H' ⟨rfl,hs,h1,h2⟩
  have:=h1.lt (by simp);have:=h2.lt (by simp);simp;omega
 ·rintro i stk T S H' H'' ⟨rfl,hs,h1,h2⟩ m hS
  exact⟨rfl,hs,h1.mod m (fun hm=>hS _ hm (by simp)),h2.mod m (fun hm=>hS _ hm (by simp))⟩
 ·rintro i hi stk T H' a' l' c' ⟨rfl,hs,h1,h2⟩ _ hrow hz hk0 hk7 hrI hst
  have hl':=hrI.len
  simp only[natsI,List.length_map] at hl'
  have hle:(around ops[i] stk).length<=stk.length:=by unfold around;split<;>simp
  refine c365 hrow (by omega) (h1.rd 0 rfl) h2 (by omega) a' c' fun H'' ho m=>⟨[p,p1],⟨rfl,?_,h1.mod m (by simp;omega),?_⟩,m.mono (by simp),by simp⟩
  ·rw[List.take_succ_eq_append_getElem hi,scan_append,hs]
   simp only[Option.bind_some,scan]
   rw[if_neg (by omega)]
   unfold behind around
   by_cases h0:ops[i].kind=0
   ·have:=List.length_pos_iff.2 (hz h0)
    obtain⟨n,hn⟩:∃n,stk.length=n+1:=⟨stk.length-1,by omega⟩
    rw[if_pos h0,if_neg (by omega),if_pos h0,hn];simp;omega
   ·rw[if_neg h0,if_neg h0]
    by_cases h7:ops[i].kind=7
    ·rw[if_pos h7,if_pos h7];simp
    ·rw[if_neg h7,if_neg h7]
  ·rw[List.take_succ_eq_append_getElem hi,dfold_append _ _ _ _ _ hs]
   simp only[dfold]
   by_cases h7:ops[i].kind=7
   ·rw[if_pos h7] at ho ⊢
    have:l'=stk.length:=by rw[<-hl'];unfold around;rw[if_neg (by omega)]
    rw[<-this];exact ho
   ·rw[if_neg h7] at ho ⊢;exact ho
 ·rintro H' T hsc ⟨rfl,hs,h1,h2⟩ m
  obtain⟨t,ht,hf⟩:=(scan_iff ops).1 hsc
  refine⟨true,rfl,by simp,fun _=>⟨_,h2.rd 0 rfl,?_⟩⟩
  have hd:dfold (ops.take ops.length) 0 0=t.depth:=by
   rw[List.take_length,<-hf,dfold_tree ht 0 0 (by omega)]
   split<;>omega
  rw[hd]
  exact k1 _ t ht hf (e3.trans_new m (by simp;omega))
 ·intro H' hsc m
  exact⟨false,rfl,fun _=>k2 _ hsc (e3.trans_new m (by simp;omega)),by simp⟩
end Go.VC
namespace Go.VC
open Go Go.Proofs Go.Proofs.YthenlgnbegeliaaGreat
variable {H:Type}{enc:TypeId × Value->H}
theorem choose_list {α:Type}{Q:Nat->α->Prop}:∀l:Nat,(∀i,i<l->∃u,Q i u)->∃xs:List α,xs.length=l/\∀i u,xs[i]?=some u->Q i u
 | 0,_=>⟨[],rfl,by simp⟩
 | l+1,h=>by
  obtain⟨xs,h1,h2⟩:=choose_list l fun i hi=>h i (by omega)
  obtain⟨u,hu⟩:=h l (by omega)
  refine⟨xs++[u],by simp[h1],fun i v hv=>?_⟩
  rcases Nat.lt_or_ge i xs.length with hi|hi
  ·rw[List.getElem?_append_left hi] at hv;exact h2 i v hv
  ·rw[List.getElem?_append_right hi] at hv
   have:i=l:=by
    have:=(List.getElem?_eq_some_iff.1 hv).1
    simp at this;omega
   subst this
   rw[h1,Nat.sub_self] at hv
   simp at hv;subst hv;exact hu
theorem cellRd {w:World}{a:Addr}{v:Value}(h:w.cell? a=some v):a.spot=none/\rd w.heap a.block a.off=some v:=by
 unfold World.cell? at h
 unfold rd
 split at h
 ·rename_i c t f hc
  split at h
  ·cases h
  ·rename_i hs
   rw[hc]
   exact⟨by simpa using hs,h⟩
 ·cases h
theorem cells_get {w:World}{base:Nat}{a:Addr}{n:Nat}{cs:List Value}(h:w.cells? base a n=some cs):cs.length=n/\∀i v,cs[i]?=some v->w.cell? (a.add i)=some v:=by
 unfold World.cells? at h
 split at h
 ·have key:∀(n:Nat) (f:Nat->Option Value) (cs:List Value),(List.range n).mapM f=some cs->cs.length=n/\∀i v,cs[i]?=some v->f i=some v:=by
   intro n f
   induction n with
   | zero=>intro cs h;simp at h;subst h;simp
   | succ n ih=>
    intro cs h
    rw[List.range_succ,List.mapM_append] at h
    simp only[List.mapM_cons,List.mapM_nil,bind,Option.bind_eq_some_iff,pure,Option.some.injEq] at h
    obtain⟨c1,h1,c2,⟨v,hv,c3,rfl,rfl⟩,rfl⟩:=h
    obtain⟨l1,l2⟩:=ih c1 h1
    refine⟨by simp[l1],fun i u hu=>?_⟩
    rcases Nat.lt_or_ge i c1.length with hi|hi
    ·rw[List.getElem?_append_left hi] at hu;exact l2 i u hu
    ·rw[List.getElem?_append_right hi] at hu
     have:i=n:=by
      have:=(List.getElem?_eq_some_iff.1 hu).1
      simp at this;omega
     subst this
     rw[l1,Nat.sub_self] at hu
     simp at hu;subst hu;exact hv
  exact key n _ cs h
 ·cases h
theorem add_block (a:Addr)(n:Nat):(a.add n).block=a.block:=by unfold Addr.add;split<;>rfl
theorem add_off (a:Addr)(n:Nat):(a.add n).off=a.off+n:=by unfold Addr.add;split<;>simp_all
theorem add_zero' (a:Addr):a.add 0=a:=by unfold Addr.add;rw[if_pos rfl]
theorem und51:Tryz.prog.underlying 51=some (.int .u64):=by kernel_rfl
theorem und3:Tryz.prog.underlying 3=some (.int .i64):=by kernel_rfl
theorem und22:Tryz.prog.underlying 22=some (.slice 51):=by kernel_rfl
theorem und23:Tryz.prog.underlying 23=some (.slice 74):=by kernel_rfl
theorem cells51:Tryz.prog.cellsOf 51=1:=by kernel_rfl
theorem cells74:Tryz.prog.cellsOf 74=5:=by kernel_rfl
theorem bytes51:Tryz.prog.bytesOf 51=8:=by kernel_rfl
theorem bytes74:Tryz.prog.bytesOf 74=40:=by kernel_rfl
theorem und74 : Tryz.prog.underlying 74 = some (.struct #[⟨"Kind", 3, 0, false, "", "", 0⟩, ⟨"D", 3, 1, false, "", "", 8⟩, ⟨"A", 3, 2, false, "", "", 16⟩, ⟨"B", 3, 3, false, "", "", 24⟩, ⟨"V", 51, 4, false, "", "", 32⟩]) := by kernel_rfl
theorem und25 : Tryz.prog.underlying 25 = some (.struct #[⟨"Regs", 3, 0, false, "", "", 0⟩, ⟨"Ops", 23, 1, false, "", "", 8⟩]) := by kernel_rfl
theorem und27 : Tryz.prog.underlying 27 = some (.struct #[⟨"Mode", 3, 0, false, "", "", 0⟩, ⟨"X", 22, 1, false, "", "", 8⟩, ⟨"Theta", 22, 2, false, "", "", 32⟩, ⟨"Step", 25, 3, false, "", "", 56⟩, ⟨"Loss", 25, 5, false, "", "", 88⟩, ⟨"Len", 3, 7, false, "", "", 120⟩, ⟨"Words", 3, 8, false, "", "", 128⟩]) := by kernel_rfl
theorem cells3:Tryz.prog.cellsOf 3=1:=by kernel_rfl
theorem cells22:Tryz.prog.cellsOf 22=1:=by kernel_rfl
theorem cells23:Tryz.prog.cellsOf 23=1:=by kernel_rfl
theorem cells25:Tryz.prog.cellsOf 25=2:=by kernel_rfl
theorem cells27:Tryz.prog.cellsOf 27=9:=by kernel_rfl
theorem u64_of {n:Int}(h:(Lit.int .u64 n).wf=true):∃u:UInt64,n=(u.toNat:Int):=by
 have hx:0<=n/\n<=18446744073709551615:=by simpa [Lit.wf,IntKind.min,IntKind.max,IntKind.signed,IntKind.bits] using h
 exact⟨UInt64.ofNat n.toNat,by rw[UInt64.toNat_ofNat'];omega⟩
theorem open_words {w:World}{base:Nat}{sp:Nat->Bool}{held:Bool}{fuel:Nat}{cs:List Value}{x:DataW H × List MemPlace}(h:DataW.trod enc Tryz.prog w base sp held fuel 22 cs=some x) :
  ∃a l c xs,cs=[.slice a l c]/\RowU w.heap a l xs/\((x.1.weights Tryz.prog 22).all (·<=reachBytes)=true->l<=17592186044416):=by
 rcases DataW.trod_slice und22 h with ⟨rfl,rfl⟩|⟨a,len,cap,elems,rest,n,_,rfl,rfl,_,_,_,hel,hget,_,_⟩
 ·exact⟨none,0,0,[],rfl,⟨rfl,.inl rfl⟩,fun _=>by omega⟩
 ·rw[cells51] at hget
  obtain⟨xs,hx1,hx2⟩:=choose_list (Q:=fun i (u:UInt64)=>(i=0->a.spot=none)/\rd w.heap a.block (a.off+i)=some (.int .u64 (u.toNat:Int))) len fun i hi=>by
   have h1:=hget i hi
   rw[List.getElem?_eq_getElem (by omega)] at h1
   obtain⟨cs',hc,ht⟩:=Option.bind_eq_some_iff.1 h1
   obtain⟨m,rfl,_,hwf⟩:=DataW.trod_int und51 ht
   obtain⟨u,rfl⟩:=u64_of hwf
   obtain⟨_,hcell⟩:=cells_get hc
   have h2:=cellRd (hcell 0 _ rfl)
   refine⟨u,fun h0=>?_,?_⟩
   ·have:=h2.1;rw[h0,Nat.zero_mul,add_zero',add_zero'] at this;exact this
   ·have:=h2.2
    rw[add_block,add_block,add_off,add_off,Nat.mul_one,Nat.add_zero] at this;exact this
  refine⟨some a,len,cap,xs,rfl,⟨by simp[hx1],?_⟩,fun hw=>?_⟩
  ·rcases Nat.eq_zero_or_pos len with h0|h0
   ·left
    have:xs=[]:=List.length_eq_zero_iff.1 (by omega)
    subst this;rfl
   ·right
    have hs:=(hx2 0 _ (List.getElem?_eq_getElem (show 0<xs.length by omega))).1 rfl
    refine⟨a.block,a.off,?_,rdL_iff.2 fun j v hj=>?_⟩
    ·obtain⟨ab,ao,asp⟩:=a
     simp only at hs
     subst hs;rfl
    ·simp only[u64s,List.getElem?_map,Option.map_eq_some_iff] at hj
     obtain⟨u,hu,rfl⟩:=hj
     exact (hx2 j u hu).2
  ·simp only[DataW.weights,und22,List.all_cons,Bool.and_eq_true,decide_eq_true_eq,List.length_map,hel,bytes51] at hw
   have:=hw.1
   unfold reachBytes at this
   omega
theorem open_op {w:World}{base:Nat}{sp:Nat->Bool}{held:Bool}{fuel:Nat}{cs:List Value}{x:DataW H × List MemPlace}(h:DataW.trod enc Tryz.prog w base sp held fuel 74 cs=some x):∃o:Op,cs=opC o:=by
 obtain⟨xs,n,_,_,hl,hxl,hf⟩:=DataW.trod_struct und74 h
 have hl':cs.length=5:=hl.trans cells74
 obtain⟨c0,c1,c2,c3,c4,rfl⟩:∃c0 c1 c2 c3 c4,cs=[c0,c1,c2,c3,c4]:=by
  clear hf hl h
  match cs,hl' with
  | [c0,c1,c2,c3,c4],_=>exact⟨c0,c1,c2,c3,c4,rfl⟩
 ·
  have hx:xs.length=5:=hxl
  have f0:DataW.trod enc Tryz.prog w base sp held n 3 (([c0,c1,c2,c3,c4].drop 0).take (Tryz.prog.cellsOf 3))=xs[0]?:=hf 0 _ rfl
  have f1:DataW.trod enc Tryz.prog w base sp held n 3 (([c0,c1,c2,c3,c4].drop 1).take (Tryz.prog.cellsOf 3))=xs[1]?:=hf 1 _ rfl
  have f2:DataW.trod enc Tryz.prog w base sp held n 3 (([c0,c1,c2,c3,c4].drop 2).take (Tryz.prog.cellsOf 3))=xs[2]?:=hf 2 _ rfl
  have f3:DataW.trod enc Tryz.prog w base sp held n 3 (([c0,c1,c2,c3,c4].drop 3).take (Tryz.prog.cellsOf 3))=xs[3]?:=hf 3 _ rfl
  have f4:DataW.trod enc Tryz.prog w base sp held n 51 (([c0,c1,c2,c3,c4].drop 4).take (Tryz.prog.cellsOf 51))=xs[4]?:=hf 4 _ rfl
  rw[cells3,List.getElem?_eq_getElem (by omega)] at f0 f1 f2 f3
  rw[cells51,List.getElem?_eq_getElem (by omega)] at f4
  obtain⟨n0,e0,_,_⟩:=DataW.trod_int und3 f0
  obtain⟨n1,e1,_,_⟩:=DataW.trod_int und3 f1
  obtain⟨n2,e2,_,_⟩:=DataW.trod_int und3 f2
  obtain⟨n3,e3,_,_⟩:=DataW.trod_int und3 f3
  obtain⟨n4,e4,_,w4⟩:=DataW.trod_int und51 f4
  obtain⟨u,rfl⟩:=u64_of w4
  simp at e0 e1 e2 e3 e4
  subst e0 e1 e2 e3 e4
  exact⟨⟨n0,n1,n2,n3,u⟩,rfl⟩
theorem open_ops {w:World}{base:Nat}{sp:Nat->Bool}{held:Bool}{fuel:Nat}{cs:List Value}{x:DataW H × List MemPlace}(h:DataW.trod enc Tryz.prog w base sp held fuel 23 cs=some x) :
  ∃a l c ops,cs=[.slice a l c]/\RowO w.heap a l ops/\((x.1.weights Tryz.prog 23).all (·<=reachBytes)=true->l<=4398046511104):=by
 rcases DataW.trod_slice und23 h with ⟨rfl,rfl⟩|⟨a,len,cap,elems,rest,n,_,rfl,rfl,_,_,_,hel,hget,_,_⟩
 ·exact⟨none,0,0,[],rfl,⟨rfl,.inl rfl⟩,fun _=>by omega⟩
 ·rw[cells74] at hget
  obtain⟨xs,hx1,hx2⟩:=choose_list (Q:=fun i (o:Op)=>(i=0->a.spot=none)/\RdL w.heap a.block (a.off+i*5) (opC o)) len fun i hi=>by
   have h1:=hget i hi
   rw[List.getElem?_eq_getElem (by omega)] at h1
   obtain⟨cs',hc,ht⟩:=Option.bind_eq_some_iff.1 h1
   obtain⟨o,rfl⟩:=open_op ht
   obtain⟨_,hcell⟩:=cells_get hc
   refine⟨o,fun h0=>?_,rdL_iff.2 fun j v hj=>?_⟩
   ·have:=(cellRd (hcell 0 _ rfl)).1;rw[h0,Nat.zero_mul,add_zero',add_zero'] at this;exact this
   ·have:=(cellRd (hcell j v hj)).2
    rw[add_block,add_block,add_off,add_off] at this;exact this
  refine⟨some a,len,cap,xs,rfl,⟨by rw[opsC_length,hx1],?_⟩,fun hw=>?_⟩
  ·rcases Nat.eq_zero_or_pos len with h0|h0
   ·left
    have:xs=[]:=List.length_eq_zero_iff.1 (by omega)
    subst this;rfl
   ·right
    have hs:=(hx2 0 _ (List.getElem?_eq_getElem (show 0<xs.length by omega))).1 rfl
    refine⟨a.block,a.off,?_,?_⟩
    ·obtain⟨ab,ao,asp⟩:=a
     simp only at hs
     subst hs;rfl
    ·have key:∀(ys:List Op) (o:Nat),(∀i u,ys[i]?=some u->RdL w.heap a.block (o+i*5) (opC u))->RdL w.heap a.block o (opsC ys):=by
      intro ys
      induction ys with
      | nil=>intro o _;exact trivial
      | cons y ys ih=>
       intro o hy
       have e:opsC (y ::ys)=opC y++opsC ys:=rfl
       rw[e,rdL_append]
       refine⟨by have:=hy 0 y rfl;simpa using this,ih (o+(opC y).length) fun i u hu=>?_⟩
       have:=hy (i+1) u (by simpa using hu)
       rw[opC_length,show o+5+i*5=o+(i+1)*5 from by omega];exact this
     exact key xs a.off fun i u hu=>(hx2 i u hu).2
  ·simp only[DataW.weights,und23,List.all_cons,Bool.and_eq_true,decide_eq_true_eq,List.length_map,hel,bytes74] at hw
   have:=hw.1
   unfold reachBytes at this
   omega
end Go.VC
namespace Go.VC
open Go Go.Proofs
variable {H:Heap}{R:Value->Heap->Prop}
def mset (o:Op)(i:Nat)(stk:List Nat)(out:List Int):List Int:=
 if o.kind=0 then ((out.set i (-1)).set i ((stk.getLast?.getD 0:Nat):Int)).set (stk.getLast?.getD 0) (i:Int) else out.set i (-1)
def mfold:List Op->Nat->List Nat->List Int->List Nat × List Int
 | [],_,stk,out=>(stk,out)
 | o ::l,i,stk,out=>mfold l (i+1) (behind o i stk) (mset o i stk out)
theorem mfold_append:∀(l m:List Op) (i:Nat) (stk:List Nat) (out:List Int),mfold (l++m) i stk out=mfold m (i+l.length) (mfold l i stk out).1 (mfold l i stk out).2
 | [],m,i,stk,out=>rfl
 | o ::l,m,i,stk,out=>by
  simp only[List.cons_append,mfold,List.length_cons]
  rw[mfold_append l m (i+1),show i+1+l.length=i+(l.length+1) from by omega]
def matchT:Tree->Nat->List Int
 | .nil,_=>[]
 | .op _ r,i=>-1 ::matchT r (i+1)
 | .rep _ b _ r,i=>((i+1+b.flat.length:Nat):Int) ::matchT b (i+1)++(i:Int) ::matchT r (i+2+b.flat.length)
theorem matchT_length:∀(t:Tree) (i:Nat),(matchT t i).length=t.flat.length
 | .nil,_=>rfl
 | .op _ r,i=>by simp[matchT,Tree.flat,matchT_length r]
 | .rep _ b _ r,i=>by simp[matchT,Tree.flat,matchT_length r,matchT_length b]
theorem set_mid {α:Type}(A B:List α)(x y:α)(n:Nat)(h:n=A.length):(A++x ::B).set n y=A++y ::B:=by
 subst h;simp
theorem mfold_tree:∀{t:Tree},t.Ok->∀(A X B:List Int) (stk:List Nat),X.length=t.flat.length->mfold t.flat A.length stk (A++X++B)=(stk,A++matchT t A.length++B)
 | .nil,_,A,X,B,stk,hX=>by
  have:X=[]:=List.length_eq_zero_iff.1 hX
  subst this;simp[Tree.flat,mfold,matchT]
 | .op o r,h,A,X,B,stk,hX=>by
  cases X with
  | nil=>simp[Tree.flat] at hX
  | cons x X=>
   have h1:=h.1;have h2:=h.2.1
   have hm:mset o A.length stk (A++x ::X++B)=(A++[-1])++X++B:=by
    unfold mset;rw[if_neg (by omega),List.append_assoc,List.cons_append,set_mid _ _ _ _ _ rfl];simp
   have hb:behind o A.length stk=stk:=by unfold behind around;rw[if_neg (by omega),if_neg (by omega)]
   simp only[Tree.flat,mfold,hm,hb]
   have ih:=mfold_tree h.2.2 (A++[-1]) X B stk (by simpa [Tree.flat] using hX)
   rw[List.length_append,List.length_singleton] at ih
   rw[ih];simp[matchT]
 | .rep o b e r,h,A,X,B,stk,hX=>by
  have h7:=h.1;have he:=h.2.2.1
  simp only[Tree.flat,List.cons_append,List.length_cons,List.length_append] at hX
  obtain⟨x,X1,rfl⟩:∃x X1,X=x ::X1:=by cases X with|nil=>simp at hX|cons x X1=>exact⟨x,X1,rfl⟩
  obtain⟨Xb,y,Xr,rfl,hb,hr⟩:∃Xb y Xr,X1=Xb++y ::Xr/\Xb.length=b.flat.length/\Xr.length=r.flat.length:=by
   simp only[List.length_cons] at hX
   have hd:X1.drop b.flat.length≠[]:=by intro e';have:=congrArg List.length e';simp at this;omega
   obtain⟨y,Xr,e'⟩:=List.exists_cons_of_ne_nil hd
   refine⟨X1.take b.flat.length,y,Xr,by rw[<-e',List.take_append_drop],by simp;omega,?_⟩
   have:=congrArg List.length e';simp at this;omega
  have hm:mset o A.length stk (A++x :: (Xb++y ::Xr)++B)=(A++[-1])++Xb++(y :: (Xr++B)):=by
   unfold mset;rw[if_neg (by omega),List.append_assoc,List.cons_append,set_mid _ _ _ _ _ rfl];simp
  have hbo:behind o A.length stk=stk++[A.length]:=by unfold behind around;rw[if_pos h7,if_neg (by omega)]
  simp only[Tree.flat,List.cons_append,mfold,hm,hbo]
  have ihb:=mfold_tree h.2.1 (A++[-1]) Xb (y :: (Xr++B)) (stk++[A.length]) hb
  rw[List.length_append,List.length_singleton] at ihb
  rw[mfold_append,ihb]
  simp only[mfold]
  have hlb:=matchT_length b (A.length+1)
  have hme:mset e (A.length+1+b.flat.length) (stk++[A.length]) ((A++[-1])++matchT b (A.length+1)++(y :: (Xr++B))) =
    (A++((A.length+1+b.flat.length:Nat):Int) ::matchT b (A.length+1)++[(A.length:Int)])++Xr++B:=by
   unfold mset
   rw[if_pos he]
   simp only[List.getLast?_append,List.getLast?_singleton,Option.some_or,Option.getD_some]
   rw[set_mid _ _ _ _ _ (by simp[hlb];omega),set_mid _ _ _ _ _ (by simp[hlb];omega)]
   rw[List.append_assoc,List.append_assoc,List.singleton_append,set_mid _ _ _ _ _ rfl]
   simp only[List.append_assoc,List.cons_append,List.nil_append]
  have hbe:behind e (A.length+1+b.flat.length) (stk++[A.length])=stk:=by unfold behind around;rw[if_neg (by omega),if_pos he];simp
  rw[hme,hbe]
  have ihr:=mfold_tree h.2.2.2 (A++((A.length+1+b.flat.length:Nat):Int) ::matchT b (A.length+1)++[(A.length:Int)]) Xr B stk hr
  have hl2:(A++((A.length+1+b.flat.length:Nat):Int) ::matchT b (A.length+1)++[(A.length:Int)]).length=A.length+1+b.flat.length+1:=by simp[hlb];omega
  rw[hl2] at ihr
  rw[ihr]
  simp[matchT,show A.length+1+b.flat.length+1=A.length+2+b.flat.length from by omega]
structure MW (H:Heap)(a:Option Addr)(l c:Nat)(ops:List Op)(p p1 q p2 n i:Nat)(stk T:List Nat):Prop where
 fold:∃out:List Int,mfold (ops.take i) 0 [] (List.replicate l 0)=(stk,out)/\out.length=l/\Own H q (i64s out)
 op:Own H p [.slice a l c]
 o1:Own H p1 [.slice (some ⟨q,0,none⟩) l l]
 buf:∃a4 c4,Own H p2 [.slice a4 stk.length c4]/\Buf 1 H n a4 stk.length c4 (i64s (natsI stk))/\∀b,0<c4->a4=some ⟨b,0,none⟩->b∈T
 sub:p∈T/\p1∈T/\q∈T/\p2∈T
 lt:∀b∈T,b<H.size
 small:∀x∈stk,x<i
theorem MW.mod {S:List Nat}{H H':Heap}{a:Option Addr}{l c:Nat}{ops:List Op}{p p1 q p2 n i:Nat}{stk T:List Nat}(h:MW H a l c ops p p1 q p2 n i stk T)(m:Mod S H H')(hs:∀b∈S,b∉T) :
  MW H' a l c ops p p1 q p2 n i stk T:=by
 obtain⟨out,h1,h2,h3⟩:=h.fold
 obtain⟨a4,c4,h4,h5,h6⟩:=h.buf
 have f:=fun b (hb:b∈T) (hm:b∈S)=>hs b hm hb
 refine⟨⟨out,h1,h2,h3.mod m (f _ h.sub.2.2.1)⟩,h.op.mod m (f _ h.sub.1),h.o1.mod m (f _ h.sub.2.1),⟨a4,c4,h4.mod m (f _ h.sub.2.2.2),h5.keep m ?_ rfl,h6⟩,h.sub,fun b hb=>Nat.lt_of_lt_of_le (h.lt b hb) m.1,h.small⟩
 intro hc b o e hb
 rcases h5.ok with h0|⟨b',e',_⟩
 ·omega
 ·rw[e'] at e;cases e
  exact f _ (h6 _ hc e') hb
theorem i64s_set (xs:List Int)(k:Nat)(v:Int):(i64s xs).set k (.int .i64 v)=i64s (xs.set k v):=by simp[i64s,List.map_set]
theorem mset_length (o:Op)(i:Nat)(stk:List Nat)(out:List Int):(mset o i stk out).length=out.length:=by unfold mset;split<;>simp
theorem c202 {a:Option Addr}{l c:Nat}{ops:List Op}{p p1 q p2 n i:Nat}{stk T:List Nat}(h:MW H a l c ops p p1 q p2 n i stk T)(hr:RowO H a l ops)(hrT:∀H',Mod T H H'->RowO H' a l ops)(hi:i<ops.length)
  (hl:l<=4398046511104) (hn:n<=H.size) (hd:p<n/\p1<n/\q<n/\p2<n/\p≠p1/\p≠q/\p≠p2/\p1≠q/\p1≠p2/\q≠p2) (hz:ops[i].kind=0->stk≠[]) (hst:stk.length<=i)
  (a':Option Addr) (l' c':Nat) (k:∀H' T',MW H' a l c ops p p1 q p2 n (i+1) (behind ops[i] i stk) T'->Mod T H H'->(∀b∈T',b∈T\/H.size<=b)->R (.tuple #[]) H') :
  Ru 202 [.int .i64 (i:Int),.slice a' l' c',.pointer (some ⟨p1,0,none⟩),.pointer (some ⟨p,0,none⟩),.pointer (some ⟨p2,0,none⟩)] H R:=by
 obtain⟨out,hf,hlo,hq⟩:=h.fold
 obtain⟨a4,c4,h4,hB,hT4⟩:=h.buf
 have hlen:=hr.len
 obtain⟨hp,hp1,hqn,hp2,d1,d2,d3,d4,d5,d6⟩:=hd
 obtain⟨sp,sp1,sq,sp2⟩:=h.sub
 have hfold:mfold (ops.take (i+1)) 0 [] (List.replicate l 0)=(behind ops[i] i stk,mset ops[i] i stk out):=by
  rw[List.take_succ_eq_append_getElem hi,mfold_append,hf]
  simp only[mfold,List.length_take,Nat.zero_add,Nat.min_eq_left (Nat.le_of_lt hi)]
 have hsm:∀x∈behind ops[i] i stk,x<i+1:=by
  intro x hx
  have h1:∀y∈around ops[i] stk,y<i:=by
   intro y hy;unfold around at hy;split at hy
   ·exact h.small y (List.dropLast_subset _ hy)
   ·exact h.small y hy
  unfold behind at hx
  split at hx
  ·rcases List.mem_append.1 hx with h'|h'
   ·have:=h1 x h';omega
   ·simp at h';omega
  ·have:=h1 x hx;omega
 refine v202 _ _ _ _ _ _ _ _ _ _ ⟨_,_,_,h.o1.rd 0 rfl,q,0,rfl,⟨by omega,by omega⟩,wok_sub hq.2 (by omega) (by simp;omega),?_⟩
 rintro _ rfl
 simp only[Int.toNat_natCast,Nat.zero_add]
 have m1:Mod [q] H (wr H q i (.int .i64 (-1))):=Mod.refl.wr (.inl (by simp))
 have m1T:Mod T H (wr H q i (.int .i64 (-1))):=m1.mono (by simpa using sq)
 have hq1:Own (wr H q i (.int .i64 (-1))) q (i64s (out.set i (-1))):=by have:=hq.wr i (.int .i64 (-1));rwa [i64s_set] at this
 generalize wr H q i (.int .i64 (-1))=H1 at *
 have op1:=h.op.mod m1 (by simp[d2])
 have o11:=h.o1.mod m1 (by simp[d4])
 have h41:=h4.mod m1 (by simp;omega)
 have hB1:=hB.mod m1 (by simpa using hqn)
 obtain⟨b,o,eb,hrd⟩:=(hrT _ m1T).rdL (i:=i) (by omega) (by omega)
 simp only[Int.toNat_natCast] at hrd
 have hz1:=m1.1
 refine⟨_,_,_,op1.rd 0 rfl,b,o,eb,⟨by omega,by omega⟩,_,hrd.1,fun h7=>?_,fun h7=>⟨fun h0=>?_,fun h0=>?_⟩⟩
 ·refine⟨_,_,_,h41.rd 0 rfl,fun H2 q2 n2=>⟨i64s [(i:Int)],rfl,.inr ⟨q2,0,rfl,n2.rdL⟩,?_⟩⟩
  have g2:=n2.mod.1
  refine (hB1.ext n2.mod).app' (by omega) rfl rfl i64s_one (by omega) (by omega) fun a6 c6 H3 S hB3 m3 hS3 hf3=>?_
  have hST:∀b∈S,b∈T/\n<=b:=fun b hb=>⟨hT4 b (hS3 b hb).2.1 (hS3 b hb).2.2,(hS3 b hb).1⟩
  have m13:Mod T H1 H3:=(Mod.refl.new n2).trans_new m3 fun b hb=>.inl (hST b hb).1
  have nS:∀x,x<n->x∉S:=fun x hx hm=>by have:=(hST x hm).2;omega
  have m23:Mod S H1 H3:=(Mod.refl.new n2).trans_new m3 fun b hb=>.inl hb
  have h43:=h41.mod m23 (nS _ hp2)
  refine⟨h43.w 0 1 rfl,?_⟩
  rintro _ rfl
  have m4:Mod [p2] H3 (wr H3 p2 0 (.slice a6 (stk.length+1) c6)):=Mod.refl.wr (.inl (by simp))
  have h44:=h43.wr 0 (.slice a6 (stk.length+1) c6)
  have hbh:behind ops[i] i stk=stk++[i]:=by unfold behind around;rw[if_pos h7,if_neg (by omega)]
  have hms:mset ops[i] i stk out=out.set i (-1):=by unfold mset;rw[if_neg (by omega)]
  have z4:=m4.1
  have z3:=m3.1
  refine k _ (match a6 with|some ⟨b6,_,_⟩=>b6 ::T|none=>T) ⟨⟨_,hfold,by rw[mset_length,hlo],?_⟩,(op1.mod m23 (nS _ hp)).mod m4 (by simp;omega),(o11.mod m23 (nS _ hp1)).mod m4 (by simp;omega),⟨a6,c6,?_,?_,?_⟩,?_,?_,hsm⟩ ?_ ?_
  ·rw[hms];exact (hq1.mod m23 (nS _ hqn)).mod m4 (by simp;omega)
  ·rw[hbh];simpa using h44
  ·rw[hbh]
   have:=hB3.mod m4 (by simpa using hp2)
   simpa [natsI,i64s] using this
  ·rintro b6 hc rfl;simp
  ·split<;>simp[sp,sp1,sq,sp2]
  ·have hlt:∀b∈T,b<(wr H3 p2 0 (.slice a6 (stk.length+1) c6)).size:=fun b hb=>by have:=h.lt b hb;omega
   intro b hb
   rcases hB3.ok with h0|⟨b6,rfl,_,_,hw6⟩
   ·have:=hB3.le;omega
   ·simp only[List.mem_cons] at hb
    rcases hb with rfl|hb
    ·have:=rdsome_lt (hw6 0 (by have:=hB3.le;omega)).1;omega
    ·exact hlt b hb
  ·exact (m1T.trans m13).trans_new m4 (by simpa using .inl sp2)
  ·intro b hb
   rcases hf3 with ⟨rfl,rfl⟩|⟨p6,rfl,hp6⟩
   ·rcases hB.ok with h0|⟨b6,rfl,_,_,hw6⟩
    ·have:c6=0:=by omega
     have:=hB3.le;omega
    ·simp only[List.mem_cons] at hb
     rcases hb with rfl|hb
     ·exact .inl (hT4 _ (by have:=hB3.le;omega) rfl)
     ·exact .inl hb
   ·simp only[List.mem_cons] at hb
    rcases hb with rfl|hb
    ·exact .inr (by omega)
    ·exact .inl hb
 ·have hne:=hz h0
  have hpos:=List.length_pos_iff.2 hne
  have hcp:=hB1.le
  refine⟨_,_,_,h41.rd 0 rfl,_,_,_,h41.rd 0 rfl,⟨by omega,by omega⟩,RowI.idx hB1.row (by omega) (by omega) ?_⟩
  have hgl:(natsI stk)[((stk.length:Int)-1).toNat]'(by simp[natsI];omega)=((stk.getLast?.getD 0:Nat):Int):=by
   simp only[natsI,List.getElem_map]
   rw[List.getLast?_eq_some_getLast hne,Option.getD_some,List.getLast_eq_getElem]
   congr 2;omega
  rw[hgl]
  have hkl:stk.getLast?.getD 0<i:=by
   rw[List.getLast?_eq_some_getLast hne,Option.getD_some]
   exact h.small _ (List.getLast_mem hne)
  generalize hkk:stk.getLast?.getD 0=kk at *
  refine⟨_,_,_,h41.rd 0 rfl,_,_,_,h41.rd 0 rfl,⟨by omega,by omega⟩,⟨by omega,by omega⟩,h41.w 0 1 rfl,?_⟩
  rintro _ rfl
  have m2:Mod [p2] H1 (wr H1 p2 0 (.slice a4 ((stk.length:Int)-1).toNat c4)):=Mod.refl.wr (.inl (by simp))
  have h42:=h41.wr 0 (.slice a4 ((stk.length:Int)-1).toNat c4)
  have hq2:=hq1.mod m2 (by simp;omega)
  have o12:=o11.mod m2 (by simp;omega)
  have op2:=op1.mod m2 (by simp;omega)
  have hB2:=hB1.mod m2 (by simpa using hp2)
  have m2T:Mod T H1 _:=m2.mono (by simpa using sp2)
  generalize wr H1 p2 0 (.slice a4 ((stk.length:Int)-1).toNat c4)=H2 at *
  refine⟨_,_,_,o12.rd 0 rfl,_,_,_,o12.rd 0 rfl,q,0,rfl,⟨by omega,by omega⟩,wok_sub hq2.2 (by omega) (by simp;omega),?_⟩
  rintro _ rfl
  simp only[Nat.zero_add]
  have m3:Mod [q] H2 (wr H2 q i (.int .i64 (kk:Int))):=Mod.refl.wr (.inl (by simp))
  have hq3:Own (wr H2 q i (.int .i64 (kk:Int))) q (i64s ((out.set i (-1)).set i (kk:Int))):=by have:=hq2.wr i (.int .i64 (kk:Int));rwa [i64s_set] at this
  have o13:=o12.mod m3 (by simp;omega)
  have op3:=op2.mod m3 (by simp;omega)
  have h43:=h42.mod m3 (by simp;omega)
  have hB3:=hB2.mod m3 (by simpa using hqn)
  have m3T:Mod T H2 _:=m3.mono (by simpa using sq)
  generalize wr H2 q i (.int .i64 (kk:Int))=H3 at *
  refine⟨o13.rd 0 rfl,q,0,rfl,⟨by omega,by omega⟩,wok_sub hq3.2 (by omega) (by simp;omega),?_⟩
  rintro _ rfl
  simp only[Nat.zero_add,Int.toNat_natCast]
  have m4:Mod [q] H3 (wr H3 q kk (.int .i64 (i:Int))):=Mod.refl.wr (.inl (by simp))
  have hq4:Own (wr H3 q kk (.int .i64 (i:Int))) q (i64s (((out.set i (-1)).set i (kk:Int)).set kk (i:Int))):=by have:=hq3.wr kk (.int .i64 (i:Int));rwa [i64s_set] at this
  have hbh:behind ops[i] i stk=stk.dropLast:=by unfold behind around;rw[if_neg (by omega),if_pos h0]
  have hms:mset ops[i] i stk out=((out.set i (-1)).set i (kk:Int)).set kk (i:Int):=by unfold mset;rw[if_pos h0,hkk]
  have e1:stk=stk.dropLast++[stk.getLast hne]:=(List.dropLast_concat_getLast hne).symm
  have hdl:stk.dropLast.length=((stk.length:Int)-1).toNat:=by simp
  have m4T:Mod T H3 _:=m4.mono (by simpa using sq)
  have mm:=((m1T.trans m2T).trans m3T).trans m4T
  refine k _ T ⟨⟨_,hfold,by rw[mset_length,hlo],by rw[hms];exact hq4⟩,op3.mod m4 (by simp;omega),o13.mod m4 (by simp;omega),⟨a4,c4,?_,?_,hT4⟩,⟨sp,sp1,sq,sp2⟩,fun b hb=>Nat.lt_of_lt_of_le (h.lt b hb) mm.1,hsm⟩ mm (fun b hb=>.inl hb)
  ·rw[hbh,hdl];exact h43.mod m4 (by simp;omega)
  ·rw[hbh]
   have hB4:=hB3.mod m4 (by simpa using hqn)
   rw[e1] at hB4
   simp only[natsI,List.map_append,i64s_append] at hB4
   exact hB4.shrink (by simp[i64s]) (by simp)
 ·have hbh:behind ops[i] i stk=stk:=by unfold behind around;rw[if_neg h7,if_neg h0]
  have hms:mset ops[i] i stk out=out.set i (-1):=by unfold mset;rw[if_neg h0]
  refine k _ T ⟨⟨_,hfold,by rw[mset_length,hlo],by rw[hms];exact hq1⟩,op1,o11,⟨a4,c4,by rw[hbh];exact h41,by rw[hbh];exact hB1,hT4⟩,⟨sp,sp1,sq,sp2⟩,fun b hb=>Nat.lt_of_lt_of_le (h.lt b hb) m1.1,hsm⟩ m1T (fun b hb=>.inl hb)
theorem rep_i64 (n:Nat):rep n [.int .i64 0]=i64s (List.replicate n 0):=by
 unfold rep i64s
 induction n with
 | zero=>rfl
 | succ n ih=>rw[List.replicate_succ,List.replicate_succ,List.flatten_cons,ih];rfl
theorem c130 {a:Option Addr}{l c:Nat}{ops:List Op}(h:RowO H a l ops)(hl:l<=4398046511104)
  (k1:∀H' t a',Tree.Ok t->t.flat=ops->Ext H H'->Buf 1 H' H.size a' l l (i64s (matchT t 0))->R (.tuple #[.slice a' l l,.int .i64 0]) H')
  (k2:∀H',scan ops 0≠some 0->Ext H H'->R (.tuple #[.slice none 0 0,.int .i64 6]) H'):Ru 130 [.slice a l c] H R:=by
 refine v130 _ _ _ fun H1 p n1=>⟨_,_,_,n1.rd 0,⟨by omega,by omega,by omega,by omega,by omega⟩,fun H2 q n2 H3 p1 n3=>⟨n3.own.w 0 1 rfl,?_⟩⟩
 rintro _ rfl
 simp only[Int.toNat_natCast]
 rw[Int.toNat_natCast,rep_i64] at n2
 have g1:=n1.ge;have g2:=n2.ge;have g3:=n3.ge;have l1:=n1.lt;have l2:=n2.lt;have l3:=n3.lt
 have m4:Mod [p1] H3 (wr H3 p1 0 (.slice (some ⟨q,0,none⟩) l l)):=Mod.refl.wr (.inl (by simp))
 have o14:Own (wr H3 p1 0 (.slice (some ⟨q,0,none⟩) l l)) p1 [.slice (some ⟨q,0,none⟩) l l]:=n3.own.wr 0 _
 have op4:Own (wr H3 p1 0 (.slice (some ⟨q,0,none⟩) l l)) p [.slice a l c]:=(n1.own.mod (n2.mod.new n3) (by simp)).mod m4 (by simp;omega)
 have oq4:Own (wr H3 p1 0 (.slice (some ⟨q,0,none⟩) l l)) q (i64s (List.replicate l 0)):=(n2.own.mod n3.mod (by simp)).mod m4 (by simp;omega)
 have e4:Ext H (wr H3 p1 0 (.slice (some ⟨q,0,none⟩) l l)):=((n1.mod.new n2).new n3).trans_new m4 (by simp;omega)
 have z4:=m4.1
 have z5:(wr H3 p1 0 (.slice (some ⟨q,0,none⟩) l l)).size=H3.size:=wr_size ..
 generalize wr H3 p1 0 (.slice (some ⟨q,0,none⟩) l l)=H4 at *
 intro H5 p2 n5
 have g5:=n5.ge;have l5:=n5.lt
 have e5:=e4.new n5
 have hlen:=h.len
 have w0:MW H5 a l c ops p p1 q p2 (p2+1) 0 [] [p,p1,q,p2]:=
  ⟨⟨_,rfl,by simp,oq4.mod n5.mod (by simp)⟩,op4.mod n5.mod (by simp),o14.mod n5.mod (by simp),⟨none,0,n5.own,Buf.nil,by omega⟩,by simp,by simp;omega,by simp⟩
 refine⟨_,_,_,w0.op.rd 0 rfl,c201 (Ext.row e5 h) hl 202 _ _ (by kernel_rfl) (fun i stk T H'=>MW H' a l c ops p p1 q p2 (p2+1) i stk T/\p2+1<=H'.size/\∀b∈T,b∈[p,p1,q,p2]\/H5.size<=b) [p,p1,q,p2] ?_ ⟨w0,by omega,fun b hb=>.inl hb⟩ ?_ ?_ ?_ ?_ ?_⟩
 ·exact fun H' m=>Ext.row (e5.trans_new m (by simp;omega)) h
 ·exact fun i stk T H' h b hb=>h.1.lt b hb
 ·exact fun i stk T S H' H'' h m hs=>⟨h.1.mod m hs,Nat.le_trans h.2.1 m.1,h.2.2⟩
 ·rintro i hi stk T H' a' l' c' ⟨hW,hsz,hTn⟩ m0 hrow hz hk0 hk7 hrI hst
  refine c202 hW hrow (fun H'' m=>?_) hi hl hsz (by omega) hz hst a' l' c' fun H'' T' hW' m hT'=>⟨T',⟨hW',Nat.le_trans hsz m.1,fun b hb=>(hT' b hb).elim (hTn b) fun h'=>.inr (Nat.le_trans m0.1 h')⟩,m,hT'⟩
  exact Ext.row (e5.trans_new (m0.trans_new m hTn) (by simp;omega)) h
 ·rintro H' T hsc ⟨hW,_,_⟩ m
  obtain⟨t,ht,hf⟩:=(scan_iff ops).1 hsc
  refine⟨true,rfl,by simp,fun _=>⟨_,_,_,hW.o1.rd 0 rfl,?_⟩⟩
  obtain⟨out,h1,h2,h3⟩:=hW.fold
  have hm:=mfold_tree ht [] (List.replicate l 0) [] [] (by rw[hf];simp[hlen])
  rw[List.take_length,<-hf] at h1
  simp only[List.nil_append,List.append_nil,List.length_nil] at hm
  rw[hm] at h1
  have ho:out=matchT t 0:=(congrArg Prod.snd h1).symm
  subst ho
  refine k1 _ t _ ht hf (e5.trans_new m (by simp;omega)) ⟨by simp[h2],Nat.le_refl _,.inr ⟨q,rfl,by omega,h3.1,?_⟩⟩
  have:=h3.2
  simpa [h2] using this
 ·intro H' hsc m
  exact⟨false,rfl,fun _=>k2 _ hsc (e5.trans_new m (by simp;omega)),by simp⟩
end Go.VC
namespace Go.VC
open Go Go.Proofs
variable {H:Heap}{R:Value->Heap->Prop}
def askD (k:Int):Bool:=decide (1<=k/\k<=6)
def askA (k:Int):Bool:=decide (1<=k/\k<=4\/k=6)
def askB (k:Int):Bool:=decide (1<=k/\k<=3)
def askV (k:Int):Bool:=decide (k=5\/k=7)
def regOk (n:Int)(asked:Bool):Bool:=if asked then decide (0<=n/\n<=2147483647) else decide (n=0)
def rightB (o:Op):Bool:=decide (0<=o.kind/\o.kind<8) && (regOk o.d (askD o.kind) && (regOk o.a (askA o.kind) && (regOk o.b (askB o.kind) && (askV o.kind || decide (o.v=0)))))
def applyOp (o:Op)(x y:UInt64):UInt64:=
 if o.kind=1 then x+y else if o.kind=2 then x-y else if o.kind=3 then x*y else if o.kind=4 then 0-x else if o.kind=5 then o.v else if o.kind=6 then x else 0
def partialsOp (o:Op)(x y:UInt64):UInt64 × UInt64:=
 if o.kind=1 then (1,1) else if o.kind=2 then (1,18446744073709551615) else if o.kind=3 then (y,x) else if o.kind=4 then (18446744073709551615,0) else if o.kind=6 then (1,0) else (0,0)
def readsOp (o:Op):List Int:=if askB o.kind then [o.a,o.b] else if askA o.kind then [o.a] else []
theorem c331 (n:Int)(k:∀H',Ext H H'->R (.agg #[.bool (askD n),.bool (askA n),.bool (askB n),.bool (askV n)]) H'):Ru 331 [.int .i64 n] H R:=by
 refine v331 _ fun H1 p n1=>⟨fun c H'=>H'=H1/\(c=true<->n=1\/n=2\/n=3),⟨fun h=>⟨rfl,by simp[h]⟩,fun h=>⟨fun h2=>⟨rfl,by simp[h2]⟩,fun h2=>⟨rfl,by simp[decP,h,h2]⟩⟩⟩,?_⟩
 rintro H1 c ⟨rfl,hc⟩
 have fin:∀d a b v:Bool,d=askD n->a=askA n->b=askB n->v=askV n->∀H',H'=wrL H1 p 0 [.bool d,.bool a,.bool b,.bool v]->
   ∃cs:List Value,List.length cs=4/\RdL H' p 0 cs/\R (.agg (List.toArray cs)) H':=by
  rintro d a b v rfl rfl rfl rfl _ rfl
  refine⟨_,rfl,rdL_wrL (by exact n1.wok),k _ (n1.mod.trans_new (Mod.refl.wrL (S:=[p]) (.inl (by simp))) (by simpa using n1.ge))⟩
 have one:∀d a b v:Bool,∀x:Value,x∈[Value.bool d,.bool a,.bool b,.bool v]->One x:=by
  intro d a b v x hx;simp at hx;rcases hx with rfl|rfl|rfl|rfl<;>trivial
 refine⟨fun h=>?_,fun h=>⟨fun h4=>?_,fun h4=>⟨fun h6=>?_,fun h6=>⟨fun h5=>?_,fun h5=>⟨fun h7=>?_,fun h7=>?_⟩⟩⟩⟩⟩
 ·have:=hc.1 h
  exact⟨rfl,one _ _ _ _,n1.wok,fin _ _ _ _ (by simp[askD];omega) (by simp[askA];omega) (by simp[askB];omega) (by simp[askV];omega)⟩
 all_goals
  have hn:¬(n=1\/n=2\/n=3):=fun h'=>by rw[hc.2 h'] at h;cases h
  refine⟨rfl,one _ _ _ _,n1.wok,fin _ _ _ _ ?_ ?_ ?_ ?_⟩
  ·simp[askD];omega
  ·simp[askA];omega
  ·simp[askB];omega
  ·simp[askV];omega
theorem c362 (n:Int)(k:R (.bool (decide (0<=n/\n<8))) H):Ru 362 [.int .i64 n] H R:=by
 refine v362 _ ⟨fun h=>?_,fun h=>?_⟩
 ·rwa [show decide (n<8)=decide (0<=n/\n<8) from decide_eq_decide.2 ⟨fun h'=>⟨h,h'⟩,fun h'=>h'.2⟩]
 ·rwa [show false=decide (0<=n/\n<8) from (decide_eq_false fun h'=>h h'.1).symm]
theorem c363 (n:Int)(b:Bool)(k:R (.bool (regOk n b)) H):Ru 363 [.int .i64 n,.bool b] H R:=by
 refine v363 _ _ ?_
 unfold regOk at k
 cases b
 ·exact⟨fun _=>by simpa using k,by simp⟩
 ·refine⟨by simp,fun _=>⟨fun h=>?_,fun h=>?_⟩⟩
  ·rw[if_pos rfl] at k
   rwa [show decide (n<=2147483647)=decide (0<=n/\n<=2147483647) from decide_eq_decide.2 ⟨fun h'=>⟨h,h'⟩,fun h'=>h'.2⟩]
  ·rw[if_pos rfl] at k
   rwa [show false=decide (0<=n/\n<=2147483647) from (decide_eq_false fun h'=>h h'.1).symm]
theorem c333 (o:Op)(k:∀H',Ext H H'->R (.bool (rightB o)) H'):Ru 333 [.agg (opC o).toArray] H R:=by
 refine v333 (opC o) fun H1 p n1=>⟨_,n1.rd 0,c331 _ fun H2 e2=>⟨_,rfl,rfl,fun H3 p1 n3=>⟨rfl,?_,n3.own.w 0 4 rfl,?_⟩⟩⟩
 ·intro x hx;simp at hx;rcases hx with rfl|rfl|rfl|rfl<;>trivial
 ·rintro _ rfl
  have ho:=n3.own.wrL 0 [.bool (askD o.kind),.bool (askA o.kind),.bool (askB o.kind),.bool (askV o.kind)] (Nat.le_refl 4)
  simp only[List.take_zero,List.nil_append,List.length_cons,List.length_nil,Nat.zero_add] at ho
  have m3:Mod [p1] H3 _:=Mod.refl.wrL (b:=p1) (o:=0) (vs:=[.bool (askD o.kind),.bool (askA o.kind),.bool (askB o.kind),.bool (askV o.kind)]) (.inl (by simp))
  have g1:=n1.ge;have g3:=n3.ge;have z2:=e2.1;have l1:=n1.lt;have l3:=n3.lt
  have op:Own (wrL H3 p1 0 [.bool (askD o.kind),.bool (askA o.kind),.bool (askB o.kind),.bool (askV o.kind)]) p (opC o):=((n1.own.mod e2 (by simp)).mod n3.mod (by simp)).mod m3 (by simp;omega)
  have e4:Ext H (wrL H3 p1 0 [.bool (askD o.kind),.bool (askA o.kind),.bool (askB o.kind),.bool (askV o.kind)]):=((n1.mod.thenExt e2).new n3).trans_new m3 (by simp;omega)
  generalize wrL H3 p1 0 [.bool (askD o.kind),.bool (askA o.kind),.bool (askB o.kind),.bool (askV o.kind)]=H4 at *
  have K:=k _ e4
  unfold rightB at K
  refine⟨_,op.rd 0 rfl,c362 _ ⟨_,rfl,fun h1=>?_,fun h1=>?_⟩⟩
  ·rw[h1,Bool.true_and] at K
   refine⟨_,op.rd 1 rfl,_,ho.rd 0 rfl,c363 _ _ ⟨_,rfl,fun h2=>?_,fun h2=>?_⟩⟩
   ·rw[h2,Bool.true_and] at K
    refine⟨_,op.rd 2 rfl,_,ho.rd 1 rfl,c363 _ _ ⟨_,rfl,fun h3=>?_,fun h3=>?_⟩⟩
    ·rw[h3,Bool.true_and] at K
     refine⟨_,op.rd 3 rfl,_,ho.rd 2 rfl,c363 _ _ ⟨_,rfl,fun h4=>?_,fun h4=>?_⟩⟩
     ·rw[h4,Bool.true_and] at K
      refine⟨_,ho.rd 3 rfl,fun h5=>?_,fun h5=>?_⟩
      ·rw[h5,Bool.true_or] at K;exact K
      ·rw[h5,Bool.false_or] at K
       exact⟨_,op.rd 4 rfl,K⟩
     ·rw[h4,Bool.false_and] at K;exact K
    ·rw[h3,Bool.false_and] at K;exact K
   ·rw[h2,Bool.false_and] at K;exact K
  ·rw[h1,Bool.false_and] at K;exact K
theorem c262 (o:Op)(k1:askD o.kind=true->∀H',Ext H H'->R (.tuple #[.int .i64 o.d,.bool true]) H')(k2:askD o.kind=false->∀H',Ext H H'->R (.tuple #[.int .i64 0,.bool false]) H') :
  Ru 262 [.agg (opC o).toArray] H R:=by
 refine v262 (opC o) fun H1 p n1=>⟨_,n1.rd 0,c331 _ fun H2 e2=>⟨_,rfl,rfl,trivial,_,rfl,_,rfl,fun h=>?_,fun h=>⟨_,(n1.own.mod e2 (by simp)).rd 1 rfl,?_⟩⟩⟩
 ·exact k2 (by simpa using h) _ (n1.mod.thenExt e2)
 ·exact k1 (by simpa using h) _ (n1.mod.thenExt e2)
theorem c338 (o:Op)(x y:UInt64)(k:∀H',Ext H H'->R (.int .u64 ((applyOp o x y).toNat:Int)) H'):Ru 338 [.agg (opC o).toArray,.int .u64 (x.toNat:Int),.int .u64 (y.toNat:Int)] H R:=by
 refine v338 (opC o) _ _ fun H1 p n1=>⟨_,n1.rd 0,?_⟩
 have K:=k _ n1.mod
 unfold applyOp at K
 refine⟨fun h=>?_,fun h1=>⟨fun h=>?_,fun h2=>⟨fun h=>?_,fun h3=>⟨fun h=>?_,fun h4=>⟨fun h=>⟨_,n1.rd 4,?_⟩,fun h5=>⟨fun h=>?_,fun h6=>?_⟩⟩⟩⟩⟩⟩
 ·rwa [if_pos h] at K
 ·rwa [if_neg h1,if_pos h] at K
 ·rwa [if_neg h1,if_neg h2,if_pos h] at K
 ·rwa [if_neg h1,if_neg h2,if_neg h3,if_pos h] at K
 ·rwa [if_neg h1,if_neg h2,if_neg h3,if_neg h4,if_pos h] at K
 ·rwa [if_neg h1,if_neg h2,if_neg h3,if_neg h4,if_neg h5,if_pos h] at K
 ·rwa [if_neg h1,if_neg h2,if_neg h3,if_neg h4,if_neg h5,if_neg h6] at K
theorem c372 (o:Op)(x y:UInt64)(k:∀H',Ext H H'->R (.tuple #[.int .u64 ((partialsOp o x y).1.toNat:Int),.int .u64 ((partialsOp o x y).2.toNat:Int)]) H') :
  Ru 372 [.agg (opC o).toArray,.int .u64 (x.toNat:Int),.int .u64 (y.toNat:Int)] H R:=by
 refine v372 (opC o) _ _ fun H1 p n1=>⟨_,n1.rd 0,?_⟩
 have K:=k _ n1.mod
 unfold partialsOp at K
 refine⟨fun h=>?_,fun h1=>⟨fun h=>?_,fun h2=>⟨fun h=>?_,fun h3=>⟨fun h=>?_,fun h4=>⟨fun h=>?_,fun h6=>?_⟩⟩⟩⟩⟩
 ·rwa [if_pos h] at K
 ·rwa [if_neg h1,if_pos h] at K
 ·rwa [if_neg h1,if_neg h2,if_pos h] at K
 ·rwa [if_neg h1,if_neg h2,if_neg h3,if_pos h] at K
 ·rwa [if_neg h1,if_neg h2,if_neg h3,if_neg h4,if_pos h] at K
 ·rwa [if_neg h1,if_neg h2,if_neg h3,if_neg h4,if_neg h6] at K
end Go.VC
namespace Go.VC
open Go Go.Proofs
variable {H:Heap}{R:Value->Heap->Prop}
theorem c334 {a:Option Addr}{l c:Nat}{ops:List Op}(h:RowO H a l ops)(hl:l<=4398046511104)(g:FuncId)(u v:Array Value)(hg:callable Tryz.prog g=true)(f:Op->Bool)
  (hf:∀H' o (K:Value->Heap->Prop),Ext H H'->o∈ops->(∀H'',Ext H' H''->K (.bool (f o)) H'')->Ru g (u.toList++[.agg (opC o).toArray]++v.toList) H' K)
  (k:∀H',Ext H H'->R (.bool (ops.any f)) H'):Ru 334 [.slice a l c,.func (.func g) u v] H R:=by
 have hlen:=h.len
 refine v334 _ _ _ _ (v364 _ _ _ _ ⟨fun n H'=>∃k:Nat,n=k/\k<=l/\Ext H H'/\(ops.take k).any f=false,fun n _=>(l-n).toNat,⟨0,rfl,by omega,Mod.refl,rfl⟩,?_⟩)
 rintro H1 _ ⟨i,rfl,hil,e1,ha⟩
 refine⟨fun hlt=>?_,fun hge=>?_⟩
 ·have hi:i<ops.length:=by omega
  obtain⟨b,o,e,hr⟩:=RowO.rdL (e1.row h) (i:=i) (by omega) hlt
  simp only[Int.toNat_natCast] at hr
  refine⟨b,o,e,⟨by omega,hlt⟩,_,rfl,hr,g,u,v,rfl,hg,hf _ _ _ e1 (List.getElem_mem hi) fun H2 e2=>⟨_,rfl,fun ht=>⟨_,rfl,?_⟩,fun ht=>⟨⟨by omega,by omega⟩,⟨i+1,by push_cast;rfl,by omega,e1.thenExt e2,?_⟩,by dsimp only;omega⟩⟩⟩
  ·rw[decide_eq_true (by omega)]
   have:ops.any f=true:=List.any_eq_true.2 ⟨_,List.getElem_mem hi,ht⟩
   rw[<-this];exact k _ (e1.thenExt e2)
  ·rw[List.take_succ_eq_append_getElem hi,List.any_append,ha];simp[ht]
 ·have:i=ops.length:=by omega
  subst this
  rw[List.take_length] at ha
  refine⟨_,rfl,?_⟩
  rw[decide_eq_false (by omega),<-ha];exact k _ e1
theorem c187 {a:Option Addr}{l c:Nat}{xs:List Int}(h:RowI H a l xs)(hl:l<=4398046511104)(g:FuncId)(u v:Array Value)(hg:callable Tryz.prog g=true)(f:Int->Bool)
  (hf:∀H' o (K:Value->Heap->Prop),Ext H H'->o∈xs->(∀H'',Ext H' H''->K (.bool (f o)) H'')->Ru g (u.toList++[.int .i64 o]++v.toList) H' K)
  (k:∀H',Ext H H'->R (.bool (xs.any f)) H'):Ru 187 [.slice a l c,.func (.func g) u v] H R:=by
 have hlen:=h.len
 refine v187 _ _ _ _ (v241 _ _ _ _ ⟨fun n H'=>∃k:Nat,n=k/\k<=l/\Ext H H'/\(xs.take k).any f=false,fun n _=>(l-n).toNat,⟨0,rfl,by omega,Mod.refl,rfl⟩,?_⟩)
 rintro H1 _ ⟨i,rfl,hil,e1,ha⟩
 refine⟨fun hlt=>?_,fun hge=>?_⟩
 ·have hi:i<xs.length:=by omega
  refine RowI.idx (e1.row h) (by omega) hlt (K:=fun n_1=>∃g' u' v',Value.func (.func g) u v=.func (.func g') u' v'/\callable Tryz.prog g'=true/\Ru g' (Array.toList u'++[.int .i64 n_1]++Array.toList v') H1 _) ⟨g,u,v,rfl,hg,?_⟩
  simp only[Int.toNat_natCast]
  refine hf _ _ _ e1 (List.getElem_mem hi) fun H2 e2=>⟨_,rfl,fun ht=>⟨_,rfl,?_⟩,fun ht=>⟨⟨by omega,by omega⟩,⟨i+1,by push_cast;rfl,by omega,e1.thenExt e2,?_⟩,by omega⟩⟩
  ·rw[decide_eq_true (by omega)]
   have:xs.any f=true:=List.any_eq_true.2 ⟨_,List.getElem_mem hi,ht⟩
   rw[<-this];exact k _ (e1.thenExt e2)
  ·rw[List.take_succ_eq_append_getElem hi,List.any_append,ha];simp[ht]
 ·have:i=xs.length:=by omega
  subst this
  rw[List.take_length] at ha
  refine⟨_,rfl,?_⟩
  rw[decide_eq_false (by omega),<-ha];exact k _ e1
theorem c332 (o:Op)(k:∀H',Ext H H'->R (.bool !rightB o) H'):Ru 332 [.agg (opC o).toArray] H R:=
 v332 (opC o) fun _ _ n1=>⟨_,rfl,n1.rdL,c333 o fun _ e2=>⟨_,rfl,k _ (n1.mod.thenExt e2)⟩⟩
theorem c336 {p:Nat}{regs:Int}(x:Int)(hp:rd H p 0=some (.int .i64 regs))(k:R (.bool (decide (regs<=x))) H):Ru 336 [.int .i64 x,.pointer (some ⟨p,0,none⟩)] H R:=
 v336 _ _ _ ⟨_,hp,k⟩
theorem c330 {n:Nat}{a:Option Addr}{l c:Nat}{xs:List Int}(h:Buf 1 H n a l c (i64s xs))(hl:l<=2)
  (k:∀H' S,Buf 1 H' n a l c (i64s xs.reverse)->Mod S H H'->(∀b∈S,n<=b)->R (.tuple #[]) H'):Ru 330 [.slice a l c] H R:=by
 have hlen:xs.length=l:=by have:=h.len;simpa using this
 refine v330 _ _ _ ⟨⟨by omega,by omega⟩,fun i j H'=>(i=0/\j=l-1/\H'=H)\/(i=1/\j=(l:Int)-2/\l=2/\∃S,Buf 1 H' n a l c (i64s xs.reverse)/\Mod S H H'/\∀b∈S,n<=b),fun i _ _=>(2-i).toNat,.inl ⟨rfl,rfl,rfl⟩,?_⟩
 rintro H1 i j (⟨rfl,rfl,rfl⟩|⟨rfl,rfl,h2,S,hB,m,hS⟩)
 ·refine⟨fun hlt=>?_,fun hge=>?_⟩
  ·have h2:l=2:=by omega
   subst h2
   match xs,hlen with
   | [x,y],_=>
   have hc:=h.le
   rcases h.ok with h0|⟨b,rfl,hb,hr,hw⟩
   ·omega
   ·have r0:=hr.1
    have r1:=hr.2.1
    refine⟨b,0,rfl,⟨by omega,by omega⟩,y,?_,b,0,rfl,⟨by omega,by omega⟩,x,?_,b,0,rfl,⟨by omega,by omega⟩,wok_sub hw (by simp) (by simp;omega),?_⟩
    ·simpa using r1
    ·simpa using r0
    ·rintro _ rfl
     refine⟨b,0,rfl,⟨by omega,by omega⟩,wok_wr (wok_sub hw (by simp) (by simp;omega)),?_⟩
     rintro _ rfl
     refine⟨⟨by omega,by omega⟩,⟨by omega,by omega⟩,.inr ⟨by omega,by omega,rfl,[b],⟨by simp,hc,.inr ⟨b,rfl,hb,?_,wok_wr (wok_wr hw)⟩⟩,(Mod.refl.wr (.inl (by simp))).wr (.inl (by simp)),by simpa using hb⟩,by dsimp only;omega⟩
     have h1:=rdL_wr_set (k:=0) (v:=.int .i64 y) hr
     have h2:=rdL_wr_set (k:=1) (v:=.int .i64 x) h1
     simpa [i64s] using h2
  ·refine k _ [] ?_ Mod.refl (by simp)
   have:xs.reverse=xs:=by
    match xs,hlen with
    | [],_=>rfl
    | [x],_=>rfl
    | x ::y ::r,e=>simp at e;omega
   rw[this];exact h
 ·exact⟨fun hlt=>by omega,fun _=>k _ S hB m hS⟩
end Go.VC
namespace Go.VC
open Go Go.Proofs
theorem c259 {H:Heap}{R:Value->Heap->Prop}(o:Op)(k:∀a l c H',l<=2->Buf 1 H' H.size a l c (i64s (readsOp o))->Ext H H'->R (.slice a l c) H'):Ru 259 [.agg (opC o).toArray] H R:=by
 have hlen2:(readsOp o).length<=2:=by unfold readsOp;split<;>(try split)<;>simp
 have one:∀(H1:Heap) (x:Int) (a:Option Addr) (l c:Nat) (xs:List Int) (K:Option Addr->Nat->Nat->Heap->Prop),Ext H H1->l<=1->Buf 1 H1 H.size a l c (i64s xs)->
   (∀a' c' H',Buf 1 H' H.size a' (l+1) c' (i64s (xs++[x]))->Ext H H'->(∀p cs,Own H1 p cs->(∀b o,a=some ⟨b,o,none⟩->0<c->p≠b)->Own H' p cs)->(∀p,p<H1.size->p≠0\/True->True)->
    (a'=a/\c'=c\/∃p,a'=some ⟨p,0,none⟩/\H1.size<=p)->K a' (l+1) c' H')->
   ∀H2 q,New H1 [.int .i64 x] 3 H2 q->∃new:List Value,List.length new=1/\SlL H2 (some ⟨q,0,none⟩) new/\App 1 8 3 [.int .i64 0] H2 a l c 1 new K:=by
  intro H1 x a l c xs K e1 hl hB hK H2 q n2
  refine⟨i64s [x],rfl,.inr ⟨q,0,rfl,n2.rdL⟩,(hB.ext n2.mod).app' (Nat.le_trans e1.1 n2.mod.1) rfl rfl i64s_one (by omega) (by omega) fun a' c' H3 S hB3 m3 hS hf=>?_⟩
  rw[<-i64s_append] at hB3
  refine hK a' c' H3 hB3 ((e1.new n2).trans_new m3 fun b hb=>.inr (hS b hb).1) (fun p cs ho hne=>(ho.mod n2.mod (by simp)).mod m3 fun hm=>?_) (fun _ _ _=>trivial) ?_
  ·obtain⟨_,hc,e⟩:=hS p hm
   exact hne _ _ e hc rfl
  ·rcases hf with h|⟨p,e,hp⟩
   ·exact .inl h
   ·exact .inr ⟨p,e,Nat.le_trans n2.mod.1 hp⟩
 have rev:∀(H1:Heap) (a:Option Addr) (l c:Nat) (xs:List Int),Ext H H1->l<=2->Buf 1 H1 H.size a l c (i64s xs)->readsOp o=xs.reverse->Ru 330 [.slice a l c] H1 fun _ H'=>R (.slice a l c) H':=by
  intro H1 a l c xs e1 hl hB hx
  refine c330 hB hl fun H' S hB' m hS=>k a l c H' hl (by rw[hx];exact hB') (e1.trans_new m fun b hb=>.inr (hS b hb))
 refine v259 (opC o) fun H1 p n1=>⟨_,n1.rd 0,?_⟩
 have three:askB o.kind=true->∃n,rd H1 p 3=some (.int .i64 n)/\∀H'_1 q,New H1 [.int .i64 n] 3 H'_1 q->∃new:List Value,List.length new=1/\SlL H'_1 (some ⟨q,0,none⟩) new/\App 1 8 3 [.int .i64 0] H'_1 none 0 0 1 new fun a' l' c' H'=>∃n,rd H' p 2=some (.int .i64 n)/\∀H'_2 q,New H' [.int .i64 n] 3 H'_2 q->∃new:List Value,List.length new=1/\SlL H'_2 (some ⟨q,0,none⟩) new/\App 1 8
   3 [.int .i64 0] H'_2 a' l' c' 1 new fun a' l' c' H'=>Ru 330 [.slice a' l' c'] H' fun _ H'=>R (.slice a' l' c') H':=by
  intro hb
  refine⟨_,n1.rd 3,one _ _ _ _ _ [] _ n1.mod (by omega) Buf.nil fun a2 c2 H2 hB2 e2 ho2 _ hf2=>?_⟩
  have op2:=ho2 _ _ n1.own (by rintro b o h;cases h)
  refine⟨_,op2.rd 2 rfl,one _ _ _ _ _ _ _ e2 (by omega) hB2 fun a3 c3 H3 hB3 e3 ho3 _ hf3=>rev _ _ _ _ _ e3 (by omega) hB3 ?_⟩
  unfold readsOp;rw[if_pos hb];rfl
 have oneA:askB o.kind=false->askA o.kind=true->∃n,rd H1 p 2=some (.int .i64 n)/\∀H'_1 q,New H1 [.int .i64 n] 3 H'_1 q->∃new:List Value,List.length new=1/\SlL H'_1 (some ⟨q,0,none⟩) new
   /\App 1 8 3 [.int .i64 0] H'_1 none 0 0 1 new fun a' l' c' H'=>Ru 330 [.slice a' l' c'] H' fun _ H'=>R (.slice a' l' c') H':=by
  intro hb ha
  refine⟨_,n1.rd 2,one _ _ _ _ _ [] _ n1.mod (by omega) Buf.nil fun a2 c2 H2 hB2 e2 ho2 _ hf2=>rev _ _ _ _ _ e2 (by omega) hB2 ?_⟩
  unfold readsOp;rw[hb,ha];rfl
 refine⟨fun h=>three (by simp[askB];omega),fun h1=>⟨fun h=>three (by simp[askB];omega),fun h2=>⟨fun h=>three (by simp[askB];omega),fun h3=>⟨fun h=>oneA (by simp[askB];omega) (by simp[askA];omega),fun h4=>⟨fun h=>oneA (by simp[askB];omega) (by simp[askA];omega),fun h6=>?_⟩⟩⟩⟩⟩
 refine c330 (n:=H.size) (xs:=[]) Buf.nil (by omega) fun H' S hB' m hS=>k _ _ _ _ (by omega) ?_ (n1.mod.trans_new m fun b hb=>.inr (hS b hb))
 have:readsOp o=[]:=by
  unfold readsOp
  rw[show askB o.kind=false from by simp[askB];omega,show askA o.kind=false from by simp[askA];omega];rfl
 rw[this];exact Buf.nil
end Go.VC
namespace Go.VC
open Go Go.Proofs
variable {H:Heap}{R:Value->Heap->Prop}
def usesOp (o:Op):List Int:=if askD o.kind then readsOp o++[o.d] else readsOp o
def offB (regs:Int)(o:Op):Bool:=(usesOp o).any fun x=>decide (regs<=x)
theorem c335 {p:Nat}{regs:Int}(o:Op)(hp:rd H p 0=some (.int .i64 regs))(k:∀H',Ext H H'->R (.bool (offB regs o)) H'):Ru 335 [.agg (opC o).toArray,.pointer (some ⟨p,0,none⟩)] H R:=by
 refine v335 (opC o) _ _ fun H1 q n1=>⟨_,rfl,n1.rdL,c259 o fun a l c H2 hl hB e2=>⟨_,_,_,rfl,_,rfl,e2.rdL (by simp) n1.rdL,?_⟩⟩
 have e12:=n1.mod.thenExt e2
 refine c262 o (fun hd H3 e3=>⟨_,_,rfl,fun _ H4 q4 n4=>⟨i64s [o.d],rfl,.inr ⟨q4,0,rfl,n4.rdL⟩,?_⟩,by simp⟩) (fun hd H3 e3=>⟨_,_,rfl,by simp,fun _=>?_⟩)
 ·have e4:=(e12.thenExt e3).new n4
  refine ((hB.ext e3).ext n4.mod).app (by have:=e3.1;have:=n4.mod.1;have:=e2.1;omega) rfl rfl i64s_one (by omega) (by omega) fun a5 c5 H5 S hB5 m5 hS=>?_
  rw[<-i64s_append] at hB5
  have e5:Ext H H5:=e4.trans_new m5 fun b hb=>.inr (Nat.le_trans n1.mod.1 (hS b hb))
  refine c187 hB5.row (by omega) 336 _ _ (by kernel_rfl) (fun x=>decide (regs<=x)) (fun H' x K e' _ hK=>c336 x ((e5.thenExt e').rd (by simp) hp) (hK _ Mod.refl)) fun H6 e6=>⟨_,rfl,?_⟩
  have:=k _ (e5.thenExt e6)
  unfold offB usesOp at this
  rw[if_pos hd] at this;exact this
 ·have e5:=e12.thenExt e3
  refine c187 (hB.ext e3).row (by omega) 336 _ _ (by kernel_rfl) (fun x=>decide (regs<=x)) (fun H' x K e' _ hK=>c336 x ((e5.thenExt e').rd (by simp) hp) (hK _ Mod.refl)) fun H6 e6=>⟨_,rfl,?_⟩
  have:=k _ (e5.thenExt e6)
  unfold offB usesOp at this
  rw[if_neg (by simp[hd])] at this;exact this
theorem ofInt_nat' (n:Nat):UInt64.ofInt (n:Int)=UInt64.ofNat n:=by
 apply UInt64.toNat_inj.1
 rw[UInt64.ofInt,UInt64.toNat_ofNat',UInt64.toNat_ofNat']
 omega
structure Prog where
 regs:Int
 ops:List Op
def progC (p:Prog)(a:Option Addr)(l c:Nat):List Value:=[.int .i64 p.regs,.slice a l c]
theorem c134 (b:Bool)(e:Int)(k:R (.int .i64 (if b then e else 0)) H):Ru 134 [.bool b,.int .i64 e] H R:=
 v134 _ _ ⟨fun h=>by subst h;exact k,fun h=>by subst h;exact k⟩
def formB (p:Prog):Prop:=p.ops.length<=4096/\scan p.ops 0=some 0/\∀o∈p.ops,rightB o=true
theorem c263 {p:Prog}{a:Option Addr}{l c:Nat}(h:RowO H a l p.ops)(hl:l<=4398046511104)
  (k1:formB p->∀H',Ext H H'->R (.int .i64 0) H') (k2:¬formB p->∀H',Ext H H'->R (.int .i64 6) H'):Ru 263 [.agg (progC p a l c).toArray] H R:=by
 have hlen:=h.len
 refine v263 (progC p a l c) fun H1 q n1=>⟨_,_,_,n1.rd 1,?_⟩
 have tail:∀(H2:Heap) (a2:Option Addr) (l2 c2:Nat) (n:Int),Ext H1 H2->(n=0<->scan p.ops 0=some 0)->∃a l c n',(Value.tuple #[.slice a2 l2 c2,.int .i64 n]=.tuple #[.slice a l c,.int .i64 n'])/\∃a l c,rd H2 q 1=some (.slice a l c)/\((4096:Int) <
   (↑l:Int)->Ru 134 [.bool true,.int .i64 6] H2 fun r H'=>∃n,r=.int .i64 n/\R (.int .i64 n) H')/\(¬(4096:Int)<(↑l:Int)->(¬n'=(0:Int)->Ru 134 [.bool true,.int .i64 6] H2 fun r H'=>∃n,r=.int .i64
   n/\R (.int .i64 n) H')/\(¬¬n'=(0:Int)->∃a l c,rd H2 q 1=some (.slice a l c)/\Ru 334 [.slice a l c,.func (.func 332) #[] #[]] H2 fun r H'=>∃c,r=.bool c/\Ru 134 [.bool c,.int .i64 6] H' fun r H'=>∃n,
   r=.int .i64 n/\R (.int .i64 n) H')):=by
  intro H2 a2 l2 c2 n e2 hn
  have e12:=n1.mod.thenExt e2
  refine⟨_,_,_,_,rfl,_,_,_,e2.rd (by simp) (n1.rd 1),fun hb=>c134 _ _ ⟨_,rfl,k2 ?_ _ e12⟩,fun hb=>⟨fun hb2=>c134 _ _ ⟨_,rfl,k2 ?_ _ e12⟩,fun hb2=>⟨_,_,_,e2.rd (by simp) (n1.rd 1),?_⟩⟩⟩
  ·intro hF;have:=hF.1;omega
  ·intro hF;exact hb2 (hn.2 hF.2.1)
  ·refine c334 (Ext.row e12 h) hl 332 _ _ (by kernel_rfl) (fun o=>!rightB o) (fun H' o K e' _ hK=>c332 o hK) fun H3 e3=>⟨_,rfl,c134 _ _ ⟨_,rfl,?_⟩⟩
   by_cases hany:p.ops.any (fun o=>!rightB o)=true
   ·rw[hany]
    refine k2 (fun hF=>?_) _ (e12.thenExt e3)
    obtain⟨o,ho,hr⟩:=List.any_eq_true.1 hany
    rw[hF.2.2 o ho] at hr;cases hr
   ·rw[Bool.not_eq_true] at hany
    rw[hany]
    refine k1 ⟨by omega,hn.1 (Classical.not_not.1 hb2),fun o ho=>?_⟩ _ (e12.thenExt e3)
    have:=List.any_eq_false.1 hany o ho
    simpa using this
 refine c130 (Ext.row n1.mod h) hl (fun H2 t a2 ht hf e2 _=>tail _ _ _ _ _ e2 ?_) (fun H2 hs e2=>tail _ _ _ _ _ e2 ?_)
 ·exact⟨fun _=>(scan_iff _).2 ⟨t,ht,hf⟩,fun _=>rfl⟩
 ·exact⟨fun h'=>by simp at h',fun h'=>(hs h').elim⟩
def regsB (p:Prog):Prop:=1<=p.regs/\p.regs<=64/\∀o∈p.ops,∀x∈usesOp o,x<p.regs
theorem c264 {p:Prog}{a:Option Addr}{l c:Nat}(h:RowO H a l p.ops)(hl:l<=4398046511104)
  (k1:regsB p->∀H',Ext H H'->R (.int .i64 0) H') (k2:¬regsB p->∀H',Ext H H'->R (.int .i64 7) H'):Ru 264 [.agg (progC p a l c).toArray] H R:=by
 refine v264 (progC p a l c) fun H1 q n1=>⟨_,n1.rd 0,fun hb=>c134 _ _ ⟨_,rfl,k2 (fun hF=>by have:=hF.1;omega) _ n1.mod⟩,fun hb=>⟨_,n1.rd 0,fun hb2=>c134 _ _ ⟨_,rfl,k2 (fun hF=>by have:=hF.2.1;omega) _ n1.mod⟩,fun hb2=>⟨_,_,_,n1.rd 1,?_⟩⟩⟩
 refine c334 (Ext.row n1.mod h) hl 335 _ _ (by kernel_rfl) (offB p.regs) (fun H' o K e' _ hK=>c335 o (e'.rd (by simp) (n1.rd 0)) hK) fun H3 e3=>⟨_,rfl,c134 _ _ ⟨_,rfl,?_⟩⟩
 have e13:=n1.mod.thenExt e3
 by_cases hany:p.ops.any (offB p.regs)=true
 ·rw[hany]
  refine k2 (fun hF=>?_) _ e13
  obtain⟨o,ho,hr⟩:=List.any_eq_true.1 hany
  obtain⟨x,hx,hr⟩:=List.any_eq_true.1 hr
  have:=hF.2.2 o ho x hx
  simp at hr;omega
 ·rw[Bool.not_eq_true] at hany
  rw[hany]
  refine k1 ⟨by omega,by omega,fun o ho x hx=>?_⟩ _ e13
  have:=List.any_eq_false.1 hany o ho
  rw[Bool.not_eq_true] at this
  have:=List.any_eq_false.1 this x hx
  simp at this;omega
theorem c265 {p:Prog}{a:Option Addr}{l c:Nat}(h:RowO H a l p.ops)(hl:l<=4398046511104){t:Tree}(ht:t.Ok)(hf:t.flat=p.ops)
  (k1:t.depth<=8->∀H',Ext H H'->R (.int .i64 0) H') (k2:¬t.depth<=8->∀H',Ext H H'->R (.int .i64 8) H'):Ru 265 [.agg (progC p a l c).toArray] H R:=by
 refine v265 (progC p a l c) fun H1 q n1=>⟨_,_,_,n1.rd 1,c337 (Ext.row n1.mod h) hl (fun H2 t2 ht2 hf2 e2=>⟨_,_,rfl,c134 _ _ ⟨_,rfl,?_⟩⟩) (fun H2 hs _=>(hs ((scan_iff _).2 ⟨t,ht,hf⟩)).elim)⟩
 have hd:t2.depth=t.depth:=by
  have h1:=dfold_tree ht2 0 0 (by omega)
  have h2:=dfold_tree ht 0 0 (by omega)
  rw[hf2,<-hf,h2] at h1
  split at h1<;>split at h1<;>omega
 by_cases hb:t.depth<=8
 ·rw[decide_eq_false (by omega)];exact k1 hb _ (n1.mod.thenExt e2)
 ·rw[decide_eq_true (by omega)];exact k2 hb _ (n1.mod.thenExt e2)
theorem c260 (round:Nat)(times:UInt64)
  (k1:(round=0\/round<=65536/\times.toNat<=65536 / round)->R (.tuple #[.int .i64 ((times.toNat*round:Nat):Int),.bool true]) H)
  (k2:¬(round=0\/round<=65536/\times.toNat<=65536 / round)->R (.tuple #[.int .i64 0,.bool false]) H):Ru 260 [.int .i64 (round:Int),.int .u64 (times.toNat:Int)] H R:=by
 refine v260 _ _ ⟨fun h=>?_,fun h=>⟨fun h1=>k2 (by omega),fun h1=>⟨⟨by omega,by omega,by omega,by omega⟩,fun h2=>?_,fun h2=>?_⟩⟩⟩
 ·have h0:round=0:=by omega
  subst h0
  have:=k1 (.inl rfl)
  simpa using this
 all_goals
  have hd:(65536:Int) / (round:Int)=((65536 / round:Nat):Int):=by simp
  have hq:65536 / round<=65536:=Nat.div_le_self _ _
  rw[hd,ofInt_nat',UInt64.lt_iff_toNat_lt,UInt64.toNat_ofNat',Nat.mod_eq_of_lt (by omega)] at h2
 ·refine k2 ?_
  rintro (h'|⟨_,h'⟩)<;>omega
 ·have hm:times.toNat*round<=65536:=by
   have:=Nat.mul_le_mul_right round (show times.toNat<=65536 / round by omega)
   have:=Nat.div_mul_le_self 65536 round
   omega
  have e:(round:Int)*(times.toNat:Int)=((times.toNat*round:Nat):Int):=by push_cast;rw[Int.mul_comm]
  rw[e]
  refine⟨by omega,⟨by omega,by omega⟩,k1 (.inr ⟨by omega,by omega⟩)⟩
end Go.VC
namespace Go.VC
open Go Go.Proofs
def BlockOk (round:Nat)(times:UInt64):Prop:=round=0\/round<=65536/\times.toNat<=65536 / round
instance (r:Nat) (t:UInt64):Decidable (BlockOk r t):=inferInstanceAs (Decidable (_\/_))
def sizesT:Tree->List Int
 | .nil=>[]
 | .op _ r=>1 ::sizesT r
 | .rep o b _ r=>((o.v.toNat*b.size:Nat):Int) ::sizesT b++0 ::sizesT r
theorem sizesT_length:∀t:Tree,(sizesT t).length=t.flat.length
 | .nil=>rfl
 | .op _ r=>by simp[sizesT,Tree.flat,sizesT_length r]
 | .rep _ b _ r=>by simp[sizesT,Tree.flat,sizesT_length r,sizesT_length b]
abbrev MS:=List (Nat × UInt64 × Nat) × List Int
def topAdd (F:List (Nat × UInt64 × Nat))(n:Nat):List (Nat × UInt64 × Nat):=
 match F.getLast? with
 | some (at_,v,w)=>F.dropLast++[(at_,v,w+n)]
 | none=>F
def zstep (o:Op)(i:Nat)(s:MS):Option MS:=
 if o.kind=7 then some (s.1++[(i,o.v,0)],s.2)
 else if o.kind=0 then match s.1.getLast? with
  | some (at_,v,w)=>if BlockOk w v then some (topAdd s.1.dropLast (v.toNat*w),s.2.set at_ ((v.toNat*w:Nat):Int)) else none
  | none=>none
 else some (topAdd s.1 1,s.2.set i 1)
def zfold:List Op->Nat->MS->Option MS
 | [],_,s=>some s
 | o ::l,i,s=>(zstep o i s).bind (zfold l (i+1))
theorem zfold_append:∀(l m:List Op) (i:Nat) (s:MS),zfold (l++m) i s=(zfold l i s).bind (zfold m (i+l.length))
 | [],m,i,s=>by simp[zfold]
 | o ::l,m,i,s=>by
  simp only[List.cons_append,zfold,List.length_cons]
  cases h:zstep o i s with
  | none=>rfl
  | some s'=>simp only[Option.bind_some];rw[zfold_append l m,show i+1+l.length=i+(l.length+1) from by omega]
theorem topAdd_app (F:List (Nat × UInt64 × Nat))(a:Nat)(v:UInt64)(w n:Nat):topAdd (F++[(a,v,w)]) n=F++[(a,v,w+n)]:=by simp[topAdd]
theorem zfold_tree:∀{t:Tree},t.Ok->∀(A B:List Int) (F:List (Nat × UInt64 × Nat)) (a:Nat) (v:UInt64) (w:Nat),
  (t.SizeOk->zfold t.flat A.length (F++[(a,v,w)],A++List.replicate t.flat.length 0++B)=some (F++[(a,v,w+t.size)],A++sizesT t++B))/\
  (¬t.SizeOk->zfold t.flat A.length (F++[(a,v,w)],A++List.replicate t.flat.length 0++B)=none)
 | .nil,_,A,B,F,a,v,w=>⟨fun _=>by simp[Tree.flat,zfold,sizesT,Tree.size],fun h=>(h trivial).elim⟩
 | .op o r,h,A,B,F,a,v,w=>by
  have h1:=h.1;have h2:=h.2.1
  have hs:zstep o A.length (F++[(a,v,w)],A++List.replicate (Tree.op o r).flat.length 0++B)=some (F++[(a,v,w+1)],(A++[1])++List.replicate r.flat.length 0++B):=by
   unfold zstep
   rw[if_neg (by omega),if_neg (by omega),topAdd_app]
   simp only[Tree.flat,List.length_cons,List.replicate_succ,List.append_assoc,List.cons_append]
   rw[set_mid _ _ _ _ _ rfl]
   simp
  simp only[Tree.flat,zfold] at hs ⊢
  rw[hs,Option.bind_some]
  have ih:=zfold_tree h.2.2 (A++[1]) B F a v (w+1)
  rw[List.length_append,List.length_singleton] at ih
  refine⟨fun hk=>?_,fun hk=>ih.2 hk⟩
  rw[ih.1 hk]
  simp[Tree.size,sizesT,Nat.add_assoc]
 | .rep o b e r,h,A,B,F,a,v,w=>by
  have h7:=h.1;have he:=h.2.2.1
  have hs:zstep o A.length (F++[(a,v,w)],A++List.replicate (Tree.rep o b e r).flat.length 0++B) =
    some ((F++[(a,v,w)])++[(A.length,o.v,0)],(A++[0])++List.replicate b.flat.length 0++(0 :: (List.replicate r.flat.length 0++B))):=by
   unfold zstep
   rw[if_pos h7]
   have:(Tree.rep o b e r).flat.length=1+(b.flat.length+(1+r.flat.length)):=by simp[Tree.flat];omega
   rw[this,<-List.replicate_append_replicate,<-List.replicate_append_replicate,<-List.replicate_append_replicate]
   simp
  simp only[Tree.flat,List.cons_append,zfold] at hs ⊢
  rw[hs,Option.bind_some,zfold_append]
  have ihb:=zfold_tree h.2.1 (A++[0]) (0 :: (List.replicate r.flat.length 0++B)) (F++[(a,v,w)]) A.length o.v 0
  rw[List.length_append,List.length_singleton,Nat.zero_add] at ihb
  by_cases hb:b.SizeOk
  ·rw[ihb.1 hb,Option.bind_some]
   simp only[zfold]
   by_cases hB:BlockOk b.size o.v
   ·have hz:zstep e (A.length+1+b.flat.length) ((F++[(a,v,w)])++[(A.length,o.v,b.size)],(A++[0])++sizesT b++(0 :: (List.replicate r.flat.length 0++B))) =
      some (F++[(a,v,w+o.v.toNat*b.size)],(A++((o.v.toNat*b.size:Nat):Int) ::sizesT b++[0])++List.replicate r.flat.length 0++B):=by
     unfold zstep
     rw[if_neg (by omega),if_pos he]
     simp only[List.getLast?_append,List.getLast?_singleton,Option.some_or,List.dropLast_concat]
     rw[if_pos hB,topAdd_app,List.append_assoc,List.append_assoc,List.singleton_append,set_mid _ _ _ _ _ rfl]
     simp
    rw[hz,Option.bind_some]
    have ihr:=zfold_tree h.2.2.2 (A++((o.v.toNat*b.size:Nat):Int) ::sizesT b++[0]) B F a v (w+o.v.toNat*b.size)
    have hl:(A++((o.v.toNat*b.size:Nat):Int) ::sizesT b++[0]).length=A.length+1+b.flat.length+1:=by simp[sizesT_length];omega
    rw[hl] at ihr
    refine⟨fun hk=>?_,fun hk=>ihr.2 fun hr=>hk ⟨hb,hB,hr⟩⟩
    rw[ihr.1 hk.2.2]
    simp[Tree.size,sizesT,Nat.add_assoc]
   ·have hz:zstep e (A.length+1+b.flat.length) ((F++[(a,v,w)])++[(A.length,o.v,b.size)],(A++[0])++sizesT b++(0 :: (List.replicate r.flat.length 0++B)))=none:=by
     unfold zstep
     rw[if_neg (by omega),if_pos he]
     simp only[List.getLast?_append,List.getLast?_singleton,Option.some_or]
     rw[if_neg hB]
    rw[hz]
    exact⟨fun hk=>(hB hk.2.1).elim,fun _=>rfl⟩
  ·rw[ihb.2 hb]
   exact⟨fun hk=>(hb hk.1).elim,fun _=>rfl⟩
end Go.VC
