/- Texts that the claim rests on: CRef8, CRef9, CRef10, CRef11, CRef12, PAlong, CRef13, CRef14, CScal, VTop, CWakes, CStr1, CPlain, CBase, CFin, CView, CSum, CAgain, CTakes, CThaw, CThaw2, PBest, PLow, PTot, PBack, PUp. No condition. -/
import Derived.Test.YthenlgnbegeliaaGreatM05
namespace Go.VC
open Go Go.Proofs
variable {H:Heap}{R:Value->Heap->Prop}
structure SegZ (z:List Int)(i:Nat)(t:Tree):Prop where
 z:∃p s,z=p++(sizesT t++s)/\p.length=i
theorem SegZ.top (t:Tree):SegZ (sizesT t) 0 t:=⟨⟨[],[],by simp,rfl⟩⟩
theorem SegZ.op {z:List Int}{i:Nat}{o:Op}{r:Tree}(h:SegZ z i (.op o r)):z[i]?=some 1/\SegZ z (i+1) r:=by
 obtain⟨⟨p,s,e,hp⟩⟩:=h
 simp only[sizesT,List.cons_append] at e
 exact⟨at_mid e hp,⟨⟨p++[1],s,by rw[e];simp,by simp[hp]⟩⟩⟩
theorem SegZ.rep {z:List Int}{i:Nat}{o e:Op}{b r:Tree}(h:SegZ z i (.rep o b e r)):z[i]?=some ((o.v.toNat*b.size:Nat):Int)/\SegZ z (i+1) b/\z[i+1+b.flat.length]?=some 0/\SegZ z (i+2+b.flat.length) r:=by
 obtain⟨⟨p,s,eo,hp⟩⟩:=h
 simp only[sizesT,List.cons_append,List.append_assoc] at eo
 refine⟨at_mid eo hp,⟨⟨p++[((o.v.toNat*b.size:Nat):Int)],0 :: (sizesT r++s),by rw[eo];simp,by simp[hp]⟩⟩,?_,⟨⟨p++((o.v.toNat*b.size:Nat):Int) ::sizesT b++[0],s,by rw[eo];simp,by simp[sizesT_length];omega⟩⟩⟩
 refine at_mid (p:=p++((o.v.toNat*b.size:Nat):Int) ::sizesT b) (s:=sizesT r++s) ?_ ?_
 ·rw[eo];simp
 ·simp[sizesT_length];omega
theorem Seg.atZ {ops:List Op}{m z:List Int}:∀{t:Tree} {i:Nat},Seg ops m i t->SegZ z i t->t.Ok->∀{j:Nat} {o:Op},i<=j->j<i+t.flat.length->ops[j]?=some o->
  (o.kind=7->∃b e r,Seg ops m j (.rep o b e r)/\(Tree.rep o b e r).Ok/\(t.SizeOk->(Tree.rep o b e r).SizeOk)/\z[j]?=some ((o.v.toNat*b.size:Nat):Int))/\(o.kind≠7->z[j]?=some (if askD o.kind then 1 else 0))
 | .nil,i,_,_,_,j,o,h1,h2,_=>by simp[Tree.flat] at h2;omega
 | .op x r,i,h,hz,ok,j,o,h1,h2,hj=>by
  obtain⟨a,_,c⟩:=h.op
  obtain⟨za,zc⟩:=hz.op
  simp only[Tree.flat,List.length_cons] at h2
  rcases Nat.eq_or_lt_of_le h1 with e|hlt
  ·subst e;rw[a] at hj;cases hj
   have q1:=ok.1;have q2:=ok.2.1
   exact⟨fun h7=>by omega,fun _=>by rw[za,if_pos (by simp[askD];omega)]⟩
  ·obtain⟨p1,p2⟩:=c.atZ zc ok.2.2 (by omega) (by omega) hj
   refine⟨fun h7=>?_,p2⟩
   obtain⟨b,e,r',q1,q2,q3,q4⟩:=p1 h7
   exact⟨b,e,r',q1,q2,q3,q4⟩
 | .rep x b e r,i,h,hz,ok,j,o,h1,h2,hj=>by
  have hh:=h
  obtain⟨a,_,hb,he,_,hr⟩:=h.rep
  obtain⟨za,zb,ze,zr⟩:=hz.rep
  simp only[Tree.flat,List.length_cons,List.length_append] at h2
  rcases Nat.eq_or_lt_of_le h1 with e'|hlt
  ·subst e';rw[a] at hj;cases hj;exact⟨fun _=>⟨b,e,r,hh,ok,id,za⟩,fun h7=>(h7 ok.1).elim⟩
  ·rcases Nat.lt_or_ge j (i+1+b.flat.length) with h3|h3
   ·obtain⟨p1,p2⟩:=hb.atZ zb ok.2.1 (by omega) h3 hj
    refine⟨fun h7=>?_,p2⟩
    obtain⟨b',e',r',q1,q2,q3,q4⟩:=p1 h7
    exact⟨b',e',r',q1,q2,fun s=>q3 s.1,q4⟩
   ·rcases Nat.eq_or_lt_of_le h3 with h4|h4
    ·subst h4
     rw[he] at hj;cases hj
     have q:=ok.2.2.1
     exact⟨fun h7=>by omega,fun _=>by rw[ze,if_neg (by simp[askD];omega)]⟩
    ·obtain⟨p1,p2⟩:=hr.atZ zr ok.2.2.2 (by omega) (by omega) hj
     refine⟨fun h7=>?_,p2⟩
     obtain⟨b',e',r',q1,q2,q3,q4⟩:=p1 h7
     exact⟨b',e',r',q1,q2,fun s=>q3 s.2.2,q4⟩
theorem c323 {a:Option Addr}{l c:Nat}{t:Tree}(h:RowO H a l t.flat)(hl:l<=65536)(ok:t.Ok)(so:t.SizeOk)(hz:t.size<=65536)
  (k:∀a' c' H',Buf 1 H' H.size a' l c' (i64s (sizesT t))->Ext H H'->R (.tuple #[.slice a' l c',.int .i64 0]) H'):Ru 323 [.slice a l c] H R:=by
 have hlen:=h.len
 have sg:=Seg.top t
 have zg:=SegZ.top t
 have hzl:=sizesT_length t
 refine v323 _ _ _ (c322 h hl ok so hz fun H1 e1=>⟨_,_,rfl,by simp,fun _=>c250 (Ext.row e1 h) hl ok fun a2 c2 H2 hB2 e2=>⟨_,_,_,_,rfl,fun H3 q3 n3=>?_⟩⟩)
 generalize sizesT t=z at *
 have e13:=e1.thenExt e2
 refine⟨fun a' l' c' n H'=>∃i:Nat,n=i/\l'=i/\i<=l/\Buf 1 H' H2.size a' i c' (i64s (z.take i))/\Ext H2 H',fun _ _ _ n _=>(l-n).toNat,⟨0,rfl,rfl,by omega,by simpa [i64s] using Buf.nil,n3.mod⟩,?_⟩
 rintro H4 a4 i c4 n ⟨_,rfl,rfl,hi,hB4,e4⟩
 have h4:=Ext.row (e13.thenExt e4) h
 have hB2':=hB2.ext e4
 have push:∀(v:Int) (H5:Heap),Ext H4 H5->z[i]?=some v->i<l->∀H'_2 q,New H5 [.int .i64 v] 3 H'_2 q->∃new:List Value,List.length new=1/\SlL H'_2 (some ⟨q,0,none⟩) new/\App 1 8 3 [.int .i64 0] H'_2 a4 i c4 1 new fun a' l' c' H'=>
   I64 ((i:Int)+1)/\(∃j:Nat,(i:Int)+1=j/\l'=j/\j<=l/\Buf 1 H' H2.size a' j c' (i64s (z.take j))/\Ext H2 H')/\(fun _ _ _ n _=>((l:Int)-n).toNat:Option Addr->Nat->Nat->Int->Heap->Nat) a' l' c' ((i:Int)+1) H'<(fun _ _ _ n _=>((l:Int)-n).toNat:Option Addr->Nat->Nat->Int->Heap->Nat) a4 i c4 (i:Int) H4:=by
  intro v H5 e5 hv hil H6 q6 n6
  refine⟨i64s [v],rfl,.inr ⟨q6,0,rfl,n6.rdL⟩,((hB4.ext e5).ext n6.mod).app (by have:=e4.1;have:=e5.1;have:=n6.mod.1;omega) rfl rfl i64s_one (by omega) (by omega) fun a7 c7 H7 S hB7 m7 hS=>⟨by unfold I64;omega,⟨i+1,by omega,rfl,by omega,?_,((e4.thenExt e5).new n6).trans_new m7 fun b hb=>.inr (hS b hb)⟩,by dsimp only;omega⟩⟩
  rw[<-i64s_append] at hB7
  obtain⟨hil',hv'⟩:=List.getElem?_eq_some_iff.1 hv
  rw[List.take_succ_eq_append_getElem hil',hv'];exact hB7
 refine⟨fun hlt=>?_,fun hge=>?_⟩
 ·have hil:i<t.flat.length:=by omega
  obtain⟨p1,p2⟩:=sg.atZ zg ok (Nat.zero_le i) (by omega) (List.getElem?_eq_getElem hil)
  refine RowO.kd h4 hil ⟨fun h7=>?_,fun h7=>RowO.kd h4 hil (c356 _ fun H5 e5=>⟨_,rfl,rfl,⟨by omega,by omega⟩,_,rfl,_,rfl,fun hd=>push 1 H5 e5 (by rw[p2 h7,if_pos hd]) (by omega),fun hd=>push 0 H5 e5 (by rw[p2 h7,if_neg (by simp[hd])]) (by omega)⟩)⟩
  obtain⟨b,e,r,sgr,okr,sor,hzi⟩:=p1 h7
  exact c358 (within b) h4 hB2'.row hl sgr okr (sor so) fun H5 e5=>⟨_,rfl,push _ H5 e5 hzi (by omega)⟩
 ·have e:i=l:=by omega
  subst e
  rw[List.take_of_length_le (by omega)] at hB4
  exact k a4 c4 H4 (hB4.down (by have:=e13.1;omega)) (e13.thenExt e4)
inductive Cur (ops:List Op)(m z:List Int):Nat->List Op->Prop
 | done:Cur ops m z ops.length []
 | keep {i o out}:ops[i]?=some o->o.kind≠7->Cur ops m z (i+1) out->Cur ops m z i (o ::out)
 | enter {i o x out}:ops[i]?=some o->o.kind=7->z[i]?=some x->x≠0->Cur ops m z (i+1) out->Cur ops m z i (o ::out)
 | skip {i:Nat} {o:Op} {k:Nat} {out:List Op}:ops[i]?=some o->o.kind=7->z[i]?=some 0->m[i]?=some (k:Int)->i<k->Cur ops m z (k+1) out->Cur ops m z i out
theorem Cur.le {ops:List Op}{m z:List Int}{i:Nat}{out:List Op}(c:Cur ops m z i out):i<=ops.length:=by
 cases c with
 | done=>exact Nat.le_refl _
 | keep oi' _ _=>have:=(List.getElem?_eq_some_iff.1 oi').1;omega
 | enter oi' _ _ _ _=>have:=(List.getElem?_eq_some_iff.1 oi').1;omega
 | skip oi' _ _ _ _ _=>have:=(List.getElem?_eq_some_iff.1 oi').1;omega
theorem cur_tree {ops:List Op}{m z:List Int}:∀{t:Tree} {i:Nat} {out:List Op},Seg ops m i t->SegZ z i t->t.Ok->Cur ops m z (i+t.flat.length) out->Cur ops m z i (t.prune.flat++out)
 | .nil,i,out,_,_,_,c=>by simpa [Tree.prune,Tree.flat] using c
 | .op o r,i,out,h,hz,ok,c=>by
  obtain⟨a,_,hr⟩:=h.op
  obtain⟨_,zr⟩:=hz.op
  refine .keep a (by have:=ok.2.1;omega) (cur_tree hr zr ok.2.2 ?_)
  rw[show i+1+r.flat.length=i+(Tree.op o r).flat.length from by simp[Tree.flat];omega];exact c
 | .rep o b e r,i,out,h,hz,ok,c=>by
  obtain⟨a,ma,hb,he,_,hr⟩:=h.rep
  obtain⟨za,zb,ze,zr⟩:=hz.rep
  have hc:=cur_tree (out:=out) hr zr ok.2.2.2 (by rw[show i+2+b.flat.length+r.flat.length=i+(Tree.rep o b e r).flat.length from by simp[Tree.flat];omega];exact c)
  unfold Tree.prune
  split
  ·rename_i h0
   rw[h0] at za
   exact .skip a ok.1 za ma (by omega) (by rw[show i+1+b.flat.length+1=i+2+b.flat.length from by omega];exact hc)
  ·rename_i h0
   simp only[Tree.flat,List.cons_append,List.append_assoc]
   refine .enter a ok.1 za (by omega) (cur_tree hb zb ok.2.1 (.keep he (by have:=ok.2.2.1;omega) ?_))
   rw[show i+1+b.flat.length+1=i+2+b.flat.length from by omega];exact hc
theorem RowO.push {H:Heap}{a:Option Addr}{l:Nat}{ops:List Op}(h:RowO H a l ops){i:Nat}{o:Op}(hi:ops[i]?=some o){n:Nat}{a3:Option Addr}{l3 c3:Nat}{out:List Op}(hB:Buf 5 H n a3 l3 c3 (opsC out))(hn:n<=H.size)(hl3:l3<=1048576){K:Option Addr->Nat->Nat->Heap->Prop}
  (k:∀a' c' H' S,Buf 5 H' n a' (l3+1) c' (opsC (out++[o]))->Mod S H H'->(∀b∈S,n<=b)->K a' (l3+1) c' H') :
  ∃b q,At a b q/\((0:Int)<=i/\(i:Int)<l)/\∃cs:List Value,List.length cs=5/\RdL H b (q+Int.toNat (i:Int)*5) cs/\List.length cs=5/\∀H' p,New H (cs++[]) 74 H' p->∃new:List Value,List.length new=5/\SlL H' (some ⟨p,0,none⟩) new/\
   App 5 40 74 [.int .i64 0,.int .i64 0,.int .i64 0,.int .i64 0,.int .u64 0] H' a3 l3 c3 1 new K:=by
 have hl:=h.len
 obtain⟨hil,he⟩:=List.getElem?_eq_some_iff.1 hi
 obtain⟨b,q,e,hr⟩:=h.rdL (i:=(i:Int)) (by omega) (by omega)
 have he':ops[Int.toNat (i:Int)]'(by simpa using hil)=o:=by simpa using he
 rw[he'] at hr
 refine⟨b,q,e,⟨by omega,by omega⟩,opC o,rfl,hr,rfl,fun H1 p n1=>⟨opC o,rfl,.inr ⟨p,0,rfl,by have:=n1.rdL;simpa using this⟩,(hB.ext n1.mod).app (by have:=n1.mod.1;omega) rfl rfl opC_one (by omega) (by omega) fun a' c' H2 S hB2 m2 hS=>k a' c' H2 (S++[p]) ?_ ?_ ?_⟩⟩
 ·rw[show opsC (out++[o])=opsC out++opC o from by simp[opsC]];exact hB2
 ·exact (Mod.ext n1.mod).trans (m2.mono (by simp +contextual))
 ·intro b' hb'
  rcases List.mem_append.1 hb' with h1|h1
  ·exact hS b' h1
  ·simp at h1;subst h1;have:=n1.ge;omega
theorem c249 {a:Option Addr}{l c:Nat}{t:Tree}(h:RowO H a l t.flat)(hl:l<=65536)(ok:t.Ok)(so:t.SizeOk)(hz:t.size<=65536)
  (k:∀a' c' H',Buf 5 H' H.size a' t.prune.flat.length c' (opsC t.prune.flat)->Ext H H'->R (.slice a' t.prune.flat.length c') H'):Ru 249 [.slice a l c] H R:=by
 have hlen:=h.len
 have cur0:Cur t.flat (matchT t 0) (sizesT t) 0 (t.prune.flat++[]):=cur_tree (Seg.top t) (SegZ.top t) ok (by rw[Nat.zero_add];exact .done)
 rw[List.append_nil] at cur0
 have hpl:=Tree.len_prune t
 refine v249 _ _ _ (c250 h hl ok fun a1 c1 H1 hB1 e1=>⟨_,_,_,_,rfl,c323 (Ext.row e1 h) hl ok so hz fun a2 c2 H2 hB2 e2=>⟨_,_,_,_,rfl,fun H3 q3 n3=>?_⟩⟩)
 have e12:=e1.thenExt e2
 generalize matchT t 0=m at *
 generalize sizesT t=z at *
 generalize hT:t.prune.flat=T at *
 refine⟨fun a' l' c' n H'=>∃(i:Nat) (out rest:List Op),n=i/\l'=out.length/\out++rest=T/\Cur t.flat m z i rest/\i<=l/\Buf 5 H' H2.size a' l' c' (opsC out)/\Ext H2 H',fun _ _ _ n _=>(l-n).toNat,⟨0,[],T,rfl,rfl,rfl,cur0,by omega,by simpa [opsC] using Buf.nil,n3.mod⟩,?_⟩
 rintro H4 a4 l4 c4 n ⟨i,out,rest,rfl,hl4,hor,cur,hi,hB4,e4⟩
 have h4:=Ext.row (e12.thenExt e4) h
 have m4:RowI H4 a1 l m:=((hB1.ext e2).ext e4).row
 have z4:RowI H4 a2 l z:=(hB2.ext e4).row
 have hol:out.length<=T.length:=by rw[<-hor];simp
 have hn4:=e4.1
 refine⟨fun hlt=>?_,fun hge=>?_⟩
 ·cases cur with
  | done=>omega
  | keep oi hk cur'=>
   rename_i o rest'
   refine RowO.kdn h4 oi ⟨fun h7=>(hk h7).elim,fun _=>RowO.push h4 oi hB4 (by omega) (by omega) fun a5 c5 H5 S hB5 m5 hS=>⟨by unfold I64;omega,⟨i+1,out++[o],rest',by omega,by simp[hl4],by rw[List.append_assoc];exact hor,cur',by omega,hB5,e4.trans_new m5 fun b hb=>.inr (hS b hb)⟩,by dsimp only;omega⟩⟩
  | enter oi hk zi hx cur'=>
   rename_i o x rest'
   refine RowO.kdn h4 oi ⟨fun _=>RowI.idxn z4 zi ⟨fun h0=>(hx h0).elim,fun _=>RowO.push h4 oi hB4 (by omega) (by omega) fun a5 c5 H5 S hB5 m5 hS=>⟨by unfold I64;omega,⟨i+1,out++[o],rest',by omega,by simp[hl4],by rw[List.append_assoc];exact hor,cur',by omega,hB5,e4.trans_new m5 fun b hb=>.inr (hS b hb)⟩,by dsimp only;omega⟩⟩,fun h7=>(h7 hk).elim⟩
  | skip oi hk zi mi hik cur'=>
   rename_i o k'
   have hk2:k'+1<=t.flat.length:=cur'.le
   refine RowO.kdn h4 oi ⟨fun _=>RowI.idxn z4 zi ⟨fun _=>RowI.idxn m4 mi ⟨by unfold I64;omega,⟨k'+1,out,rest,by omega,hl4,hor,cur',by omega,hB4,e4⟩,by dsimp only;omega⟩,fun h0=>(h0 rfl).elim⟩,fun h7=>(h7 hk).elim⟩
 ·have hr:rest=[]:=by
   cases cur with
   | done=>rfl
   | keep oi' _ _=>have:=(List.getElem?_eq_some_iff.1 oi').1;omega
   | enter oi' _ _ _ _=>have:=(List.getElem?_eq_some_iff.1 oi').1;omega
   | skip oi' _ _ _ _ _=>have:=(List.getElem?_eq_some_iff.1 oi').1;omega
  subst hr
  rw[List.append_nil] at hor
  subst hor
  subst hl4
  exact k a4 c4 H4 (hB4.down (by have:=e12.1;omega)) (e12.thenExt e4)
end Go.VC
namespace Go.VC
open Go Go.Proofs
variable {H:Heap}{R:Value->Heap->Prop}
theorem RowO.opn {H:Heap}{a:Option Addr}{l:Nat}{ops:List Op}(h:RowO H a l ops){i:Nat}(hi:i<ops.length):∃b q,At a b q/\((0:Int)<=i/\(i:Int)<l)/\RdL H b (q+Int.toNat (i:Int)*5) (opC ops[i]):=by
 have hl:=h.len
 obtain⟨b,o,e,hr⟩:=h.rdL (i:=(i:Int)) (by omega) (by omega)
 exact⟨b,o,e,⟨by omega,by omega⟩,by simpa using hr⟩
theorem good_few {p:Prog}{t:Tree}(g:GoodP p t):p.ops.length<=4096:=g.form.1
theorem c319 {p:Prog}{t:Tree}{a:Option Addr}{l c:Nat}(g:GoodP p t)(h:RowO H a l p.ops)(k:∀H',Ext H H'->R (.bool true) H'):Ru 319 [.agg (progC p a l c).toArray] H R:=by
 have hlen:=h.len
 have hf:=good_few g
 refine v319 _ fun H1 q n1=>⟨_,_,_,n1.rd 1,fun hx=>by omega,fun _=>⟨_,_,_,n1.rd 1,c324 (Ext.row n1.mod h) (by omega) g.form.2.1 ⟨_,rfl,by simp,fun _=>⟨fun n H'=>∃i:Nat,n=i/\i<=l/\Ext H1 H',fun n _=>(l-n).toNat,⟨0,rfl,by omega,Mod.refl⟩,?_⟩⟩⟩⟩
 rintro H2 n ⟨i,rfl,hi,e2⟩
 have h2:=Ext.row (n1.mod.thenExt e2) h
 refine⟨_,_,_,e2.rd (by simp) (n1.rd 1),fun hlt=>?_,fun hge=>k H2 (n1.mod.thenExt e2)⟩
 obtain⟨b,o,e,hr,hd⟩:=RowO.opn h2 (i:=i) (by omega)
 exact⟨_,_,_,e2.rd (by simp) (n1.rd 1),b,o,e,hr,_,rfl,hd,c355 _ (g.form.2.2 _ (List.getElem_mem _)) fun H3 e3=>⟨_,rfl,by simp,fun _=>⟨by unfold I64;omega,⟨i+1,by omega,by omega,e2.thenExt e3⟩,by dsimp only;omega⟩⟩⟩
theorem c320 {p:Prog}{t:Tree}{a:Option Addr}{l c:Nat}(g:GoodP p t)(h:RowO H a l p.ops)(k:∀H',Ext H H'->R (.bool true) H'):Ru 320 [.agg (progC p a l c).toArray] H R:=by
 have hlen:=h.len
 have hf:=good_few g
 obtain⟨g1,g2,g3⟩:=g.regs
 refine v320 _ fun H1 q n1=>⟨fun H'=>H'=H1,⟨_,n1.rd 0,fun hx=>by omega,fun _=>⟨_,n1.rd 0,fun hx=>by omega,fun _=>rfl⟩⟩,?_⟩
 intro H2 e2;subst e2
 refine⟨fun n H'=>∃i:Nat,n=i/\i<=l/\Ext H2 H',fun n _=>(l-n).toNat,⟨0,rfl,by omega,Mod.refl⟩,?_⟩
 rintro H3 n ⟨i,rfl,hi,e3⟩
 have h3:=Ext.row (n1.mod.thenExt e3) h
 refine⟨_,_,_,e3.rd (by simp) (n1.rd 1),fun hlt=>?_,fun hge=>k H3 (n1.mod.thenExt e3)⟩
 have hil:i<p.ops.length:=by omega
 obtain⟨b,o,e,hr,hd⟩:=RowO.opn h3 (i:=i) hil
 have hm:=List.getElem_mem hil
 have hu:=g3 _ hm
 generalize p.ops[i]=x at *
 refine⟨_,_,_,e3.rd (by simp) (n1.rd 1),b,o,e,hr,_,rfl,hd,fun H4 s n4=>⟨rfl,opC_one,n4.own.w 0 5 rfl,fun H5 h5=>?_⟩⟩
 obtain⟨e5,o5⟩:=tmpE (cs:=opC x) n4 rfl h5
 refine⟨_,o5.rd 0 rfl,c356 _ fun H6 e6=>⟨[.bool (askD x.kind),.bool (askA x.kind),.bool (askB x.kind),.bool (askV x.kind)],rfl,rfl,fun H7 w n7=>⟨rfl,?_,n7.own.w 0 4 rfl,fun H8 h8=>?_⟩⟩⟩
 ·intro x hx;simp at hx;rcases hx with rfl|rfl|rfl|rfl<;>trivial
 obtain⟨e8,o8⟩:=tmpE (cs:=[.bool (askD x.kind),.bool (askA x.kind),.bool (askB x.kind),.bool (askV x.kind)]) n7 rfl h8
 have e58:=e6.thenExt e8
 have ox:=o5.mod e58 (by simp)
 have e38:=(e3.thenExt e5).thenExt e58
 have pr:rd H8 q 0=some (.int .i64 p.regs):=e38.rd (by simp) (n1.rd 0)
 have hD:askD x.kind=true->x.d<p.regs:=fun hq=>hu x.d (by unfold usesOp;rw[if_pos hq];simp)
 have hA:askA x.kind=true->x.a<p.regs:=fun hq=>hu x.a (by
  have:x.a∈readsOp x:=by unfold readsOp;by_cases hB:askB x.kind=true<;>simp[hB,hq]
  unfold usesOp;split
  ·simp[this]
  ·exact this)
 have hB:askB x.kind=true->x.b<p.regs:=fun hq=>hu x.b (by
  have:x.b∈readsOp x:=by unfold readsOp;simp[hq]
  unfold usesOp;split
  ·simp[this]
  ·exact this)
 have fin:I64 ((i:Int)+1)/\(∃j:Nat,(i:Int)+1=j/\j<=l/\Ext H2 H8)/\(fun n _=>((l:Int)-n).toNat:Int->Heap->Nat) ((i:Int)+1) H8<(fun n _=>((l:Int)-n).toNat:Int->Heap->Nat) (i:Int) H3:=⟨by unfold I64;omega,⟨i+1,by omega,by omega,e38⟩,by dsimp only;omega⟩
 have partB:∃c,rd H8 w 2=some (.bool c)/\(c=true->∃n_6,rd H8 s 3=some (.int .i64 n_6)/\∃n_7,rd H8 q 0=some (.int .i64 n_7)/\(n_7<=n_6->R (.bool false) H8)/\(¬n_7<=n_6->I64 ((i:Int)+1)/\(∃j:Nat,(i:Int)+1=j/\j<=l/\Ext H2 H8)/\(fun n _=>((l:Int)-n).toNat:Int->Heap->Nat) ((i:Int)+1) H8<(fun n _=>((l:Int)-n).toNat:Int->Heap->Nat) (i:Int) H3))/\(c=false->I64 ((i:Int)+1)/\(∃j:Nat,(i:Int)+1=j/\j<=l/\Ext H2 H8)/\(fun n _=>((l:Int)-n).toNat:Int->Heap->Nat) ((i:Int)+1) H8<(fun n _=>((l:Int)-n).toNat:Int->Heap->Nat) (i:Int) H3):=
  ⟨_,o8.rd 2 rfl,fun hq=>⟨_,ox.rd 3 rfl,_,pr,fun hx=>by have:=hB hq;omega,fun _=>fin⟩,fun _=>fin⟩
 have i3:((0:Int)<=2/\(2:Int)<4):=by omega
 have i1:((0:Int)<=1/\(1:Int)<4):=by omega
 refine⟨⟨by omega,by omega⟩,_,o8.rd 0 rfl,fun hq=>⟨_,ox.rd 1 rfl,_,pr,fun hx=>by have:=hD hq;omega,fun _=>⟨i1,_,o8.rd 1 rfl,fun hq2=>⟨_,ox.rd 2 rfl,_,pr,fun hx=>by have:=hA hq2;omega,fun _=>⟨i3,partB⟩⟩,fun _=>⟨i3,partB⟩⟩⟩,fun _=>⟨i1,_,o8.rd 1 rfl,fun hq2=>⟨_,ox.rd 2 rfl,_,pr,fun hx=>by have:=hA hq2;omega,fun _=>⟨i3,partB⟩⟩,fun _=>⟨i3,partB⟩⟩⟩
theorem c247 {p:Prog}{t:Tree}{a:Option Addr}{l c:Nat}(g:GoodP p t)(h:RowO H a l p.ops)(n:Int)(k:∀H',Ext H H'->R (.int .i64 0) H'):Ru 247 [.agg (progC p a l c).toArray,.int .i64 n] H R:=by
 have hlen:=h.len
 have hf:=good_few g
 refine v247 _ _ fun H1 q n1=>⟨fun _=>⟨progC p a l c,rfl,n1.rdL,c319 g (Ext.row n1.mod h) fun H2 e2=>⟨_,rfl,by simp,fun _=>k H2 (n1.mod.thenExt e2)⟩⟩,fun _=>⟨fun _=>⟨progC p a l c,rfl,n1.rdL,c320 g (Ext.row n1.mod h) fun H2 e2=>⟨_,rfl,by simp,fun _=>k H2 (n1.mod.thenExt e2)⟩⟩,fun _=>⟨fun _=>⟨_,_,_,n1.rd 1,?_⟩,fun _=>⟨_,_,_,n1.rd 1,?_⟩⟩⟩⟩
 ·refine c321 (t:=t) (by rw[g.flat];exact Ext.row n1.mod h) (by omega) g.ok fun d hd=>⟨_,_,rfl,fun hx=>by have:=g.depth;omega,fun _=>k H1 n1.mod⟩
 ·exact c322 (t:=t) (by rw[g.flat];exact Ext.row n1.mod h) (by omega) g.ok g.size g.few fun H2 e2=>⟨_,_,rfl,k H2 (n1.mod.thenExt e2)⟩
theorem c248 {p:Prog}{t:Tree}{a:Option Addr}{l c:Nat}(g:GoodP p t)(h:RowO H a l p.ops)(k:∀H',Ext H H'->R (.int .i64 0) H'):Ru 248 [.agg (progC p a l c).toArray] H R:=by
 refine v248 _ fun H1 q n1=>⟨fun n H'=>∃i:Nat,n=i/\i<=4/\Ext H1 H',fun n _=>(4-n).toNat,⟨0,rfl,by omega,Mod.refl⟩,?_⟩
 rintro H2 n ⟨i,rfl,hi,e2⟩
 refine⟨fun hlt=>⟨progC p a l c,rfl,e2.rdL (by simp) n1.rdL,c247 g (Ext.row (n1.mod.thenExt e2) h) _ fun H3 e3=>⟨_,rfl,by simp,fun _=>⟨by unfold I64;omega,⟨i+1,by omega,by omega,e2.thenExt e3⟩,by dsimp only;omega⟩⟩⟩,fun _=>k H2 (n1.mod.thenExt e2)⟩
theorem c196 {p p':Prog}{t t':Tree}{a a':Option Addr}{l c l' c':Nat}(g:GoodP p t)(h:RowO H a l p.ops)(g':GoodP p' t')(h':RowO H a' l' p'.ops)(k:∀H',Ext H H'->R (.int .i64 0) H') :
  Ru 196 [.agg (progC p a l c).toArray,.agg (progC p' a' l' c').toArray] H R:=by
 refine v196 _ _ fun H1 q n1 H2 q2 n2=>⟨fun n H'=>∃i:Nat,n=i/\i<=4/\Ext H2 H',fun n _=>(4-n).toNat,⟨0,rfl,by omega,Mod.refl⟩,?_⟩
 rintro H3 n ⟨i,rfl,hi,e3⟩
 have e03:=(n1.mod.new n2).thenExt e3
 refine⟨fun hlt=>⟨progC p a l c,rfl,(n2.mod.thenExt e3).rdL (by simp) n1.rdL,c247 g (Ext.row e03 h) _ fun H4 e4=>⟨_,rfl,by simp,fun _=>⟨progC p' a' l' c',rfl,(e3.thenExt e4).rdL (by simp) n2.rdL,c247 g' (Ext.row (e03.thenExt e4) h') _ fun H5 e5=>⟨_,rfl,by simp,fun _=>⟨by unfold I64;omega,⟨i+1,by omega,by omega,(e3.thenExt e4).thenExt e5⟩,by dsimp only;omega⟩⟩⟩⟩⟩,fun _=>k H3 e03⟩
theorem c197 {p p':Prog}{a a':Option Addr}{l c l' c':Nat}(x y:Int)(hx:1<=x/\x<=64)(hy:0<=y/\y<=64)(h1:x+y+1<=p.regs)(h2:x+y<=p'.regs)(k:∀H',Ext H H'->R (.int .i64 0) H') :
  Ru 197 [.agg (progC p a l c).toArray,.agg (progC p' a' l' c').toArray,.int .i64 x,.int .i64 y] H R:=by
 refine v197 _ _ _ _ fun H1 q n1 H2 q2 n2=>⟨fun H'=>H'=H2,⟨fun h=>by omega,fun _=>⟨fun h=>by omega,fun _=>⟨fun h=>by omega,fun _=>⟨fun h=>by omega,fun _=>rfl⟩⟩⟩⟩,?_⟩
 intro H3 e3;subst e3
 exact⟨_,n2.mod.rd (by simp) (n1.rd 0),by unfold I64;omega,by unfold I64;omega,fun h=>by omega,fun _=>⟨_,n2.rd 0,by unfold I64;omega,fun h=>by omega,fun _=>k _ (n1.mod.new n2)⟩⟩
def chainC (p p':Prog)(a a':Option Addr)(l c l' c':Nat)(x:Int)(ta:Option Addr)(tl tc:Nat):List Value:=[.int .i64 p.regs,.slice a l c,.int .i64 p'.regs,.slice a' l' c',.int .i64 x,.slice ta tl tc]
theorem c122 {p p':Prog}{t t':Tree}{a a':Option Addr}{l c l' c':Nat}(x:Int)(ta:Option Addr)(tl tc:Nat)(g:GoodP p t)(h:RowO H a l p.ops)(g':GoodP p' t')(h':RowO H a' l' p'.ops)
  (hx:1<=x/\x<=64) (hy:tl<=64) (h1:x+tl+1<=p.regs) (h2:x+tl<=p'.regs) (k:∀H',Ext H H'->R (.int .i64 0) H'):Ru 122 [.agg (chainC p p' a a' l c l' c' x ta tl tc).toArray] H R:=by
 refine v122 _ fun H1 q n1=>⟨progC p a l c,rfl,⟨n1.rd 0,n1.rd 1,trivial⟩,progC p' a' l' c',rfl,⟨n1.rd 2,n1.rd 3,trivial⟩,c196 g (Ext.row n1.mod h) g' (Ext.row n1.mod h') fun H2 e2=>⟨_,rfl,by simp,fun _=>?_⟩⟩
 have r:∀i v,(chainC p p' a a' l c l' c' x ta tl tc)[i]?=some v->rd H2 q i=some v:=fun i v hv=>e2.rd (by simp) (by rw[n1.rd];exact hv)
 refine⟨progC p a l c,rfl,⟨r 0 _ rfl,r 1 _ rfl,trivial⟩,progC p' a' l' c',rfl,⟨r 2 _ rfl,r 3 _ rfl,trivial⟩,_,r 4 _ rfl,_,_,_,r 5 _ rfl,c197 x tl hx (by omega) h1 h2 fun H3 e3=>⟨_,rfl,k H3 ((n1.mod.thenExt e2).thenExt e3)⟩⟩
theorem c59 {p p':Prog}{t t':Tree}{a a':Option Addr}{l c l' c':Nat}(x:Int)(ta:Option Addr)(tl tc:Nat)(L:Int)(g:GoodP p t)(h:RowO H a l p.ops)(g':GoodP p' t')(h':RowO H a' l' p'.ops)
  (hx:1<=x/\x<=64) (hy:tl<=64) (h1:x+tl+1<=p.regs) (h2:x+tl<=p'.regs) (hL:0<=L/\L<65536) (k:∀H',Ext H H'->R (.int .i64 0) H'):Ru 59 [.agg (progC p a l c).toArray,.agg (progC p' a' l' c').toArray,.int .i64 x,.slice ta tl tc,.int .i64 L] H R:=by
 refine v59 _ _ _ _ _ _ _ fun H1 q n1 H2 q2 n2=>⟨progC p a l c,rfl,n2.mod.rdL (by simp) n1.rdL,progC p' a' l' c',rfl,n2.rdL,⟨rfl,rfl⟩,?_⟩
 refine c122 x ta tl tc g (Ext.row (n1.mod.new n2) h) g' (Ext.row (n1.mod.new n2) h') hx hy h1 h2 fun H3 e3=>⟨_,rfl,by simp,fun _=>⟨fun h=>by omega,fun _=>⟨fun h=>by omega,fun _=>k H3 ((n1.mod.new n2).thenExt e3)⟩⟩⟩
end Go.VC
namespace Go.VC
open Go Go.Proofs
theorem sizeOk_prune':∀{t:Tree},t.SizeOk->t.prune.SizeOk
 | .nil,h=>h
 | .op o r,h=>sizeOk_prune' (t:=r) h
 | .rep o b e r,h=>by
  unfold Tree.prune
  split
  ·exact sizeOk_prune' h.2.2
  ·exact⟨sizeOk_prune' h.1,by rw[Tree.size_prune];exact h.2.1,sizeOk_prune' h.2.2⟩
theorem steps_le:∀{t:Tree},t.Full->t.steps<=t.size*(2*t.depth+1)
 | .nil,_=>by simp[Tree.steps]
 | .op o r,h=>by
  have ih:=steps_le (t:=r) h
  simp only[Tree.steps,Tree.size,Tree.depth,Nat.add_mul] at ih ⊢
  omega
 | .rep o b e r,h=>by
  obtain⟨hv,hb,fb,fr⟩:=h
  have ih1:=steps_le fb
  have ih2:=steps_le fr
  simp only[Tree.steps,Tree.size,Tree.depth,Nat.add_mul]
  have d1:2*b.depth+1+2<=2*max (b.depth+1) r.depth+1:=by omega
  have d2:2*r.depth+1<=2*max (b.depth+1) r.depth+1:=by omega
  have k1:o.v.toNat*b.size*(2*b.depth+1+2)<=o.v.toNat*b.size*(2*max (b.depth+1) r.depth+1):=Nat.mul_le_mul_left _ d1
  have k2:r.size*(2*r.depth+1)<=r.size*(2*max (b.depth+1) r.depth+1):=Nat.mul_le_mul_left _ d2
  have k3:o.v.toNat*b.steps<=o.v.toNat*(b.size*(2*b.depth+1)):=Nat.mul_le_mul_left _ ih1
  have k4:o.v.toNat*1<=o.v.toNat*b.size:=Nat.mul_le_mul_left _ hb
  rw[<-Nat.mul_assoc] at k3
  rw[Nat.mul_add (o.v.toNat*b.size)] at k1
  rw[Nat.mul_add]
  omega
def Lay (t:Tree):Prop:=∀(ops:List Op) (m:List Int) (a a':Option Addr) (l c l' c' i:Nat) (e:Int) (H:Heap) (R:Value->Heap->Prop),RowO H a l ops->RowI H a' l' m->l<=65536->Seg ops m i t->t.Ok->t.Full->t.SizeOk->t.size<=65536->t.depth<=8->e=((i+t.flat.length:Nat):Int)->
  (∀a3 c3 H',Buf 5 H' H.size a3 t.size c3 (opsC t.unroll)->Ext H H'->R (.tuple #[.slice a3 t.size c3,.int .i64 (t.steps:Int)]) H')->Ru 251 [.slice a l c,.slice a' l' c',.int .i64 (i:Int),.int .i64 e] H R
theorem flat_rep_succ (q:Nat)(l:List Op):(List.replicate (q+1) l).flatten=(List.replicate q l).flatten++l:=by
 rw[List.replicate_succ',List.flatten_append];simp
theorem c251:∀(N:Nat) (t:Tree),t.flat.length<N->Lay t
 | 0,t,hN=>by omega
 | N+1,t,hN=>by
  intro ops m a a' l c l' c' i e H R h h' hl sg ok fu so hsz hde he k
  subst he
  have hlen:=h.len
  have hsl:=sg.lt
  have hst:=steps_le fu
  have hst2:t.steps<=1114112:=Nat.le_trans hst (Nat.le_trans (Nat.mul_le_mul hsz (show 2*t.depth+1<=17 by omega)) (by omega))
  refine v251 _ _ _ _ _ _ _ _ fun H0 q0 n0=>⟨fun a3 l3 c3 n x H'=>∃(rest:Tree) (out:List Op) (j:Nat),x=j/\l3=out.length/\Seg ops m j rest/\rest.Ok/\rest.Full/\rest.SizeOk/\j+rest.flat.length=i+t.flat.length/\rest.flat.length<=t.flat.length/\rest.depth<=8/\out++rest.unroll=t.unroll/\0<=n/\n+rest.steps=t.steps/\Buf 5 H' H.size a3 l3 c3 (opsC out)/\Ext H H',fun _ _ _ _ x _=>(((i+t.flat.length:Nat):Int)-x).toNat,
   ⟨t,[],i,rfl,rfl,sg,ok,fu,so,rfl,Nat.le_refl _,hde,rfl,by omega,by omega,by simpa [opsC] using Buf.nil,n0.mod⟩,?_⟩
  rintro H1 a3 l3 c3 n x ⟨rest,out,j,rfl,hl3,sr,okr,fur,sor,hj,hle,hdr,hout,n0',hn,hB,e1⟩
  have h1:=Ext.row e1 h
  have h1':=Ext.row e1 h'
  have hz1:=e1.1
  have hol:out.length+rest.size=t.size:=by rw[Tree.size_eq,Tree.size_eq,<-hout];simp
  refine⟨fun hlt=>⟨by unfold I64;omega,?_⟩,fun hge=>?_⟩
  ·match rest,sr,okr,fur,sor,hj,hle,hdr,hout,hn,hol with
   | .nil,_,_,_,_,hj,_,_,_,_,_=>simp[Tree.flat] at hj;omega
   | .op o r,sr,okr,fur,sor,hj,hle,hdr,hout,hn,hol=>
    obtain⟨oj,_,sr'⟩:=sr.op
    simp only[Tree.flat,List.length_cons,Tree.size,Tree.steps,Tree.unroll,Tree.depth] at hj hle hn hol hout hdr
    refine RowO.kdn h1 oj ⟨fun _=>RowO.push h1 oj hB (by omega) (by omega) fun a5 c5 H5 S hB5 m5 hS=>⟨by unfold I64;omega,⟨r,out++[o],j+1,by omega,by simp[hl3],sr',okr.2.2,fur,sor,by omega,by omega,hdr,by rw[List.append_assoc];exact hout,by omega,by omega,hB5,e1.trans_new m5 fun b hb=>.inr (hS b hb)⟩,by dsimp only;omega⟩,fun h7=>(h7 (fun h7'=>by have:=okr.2.1;omega)).elim⟩
   | .rep o b e r,sr,okr,fur,sor,hj,hle,hdr,hout,hn,hol=>
    have srr:=sr
    obtain⟨oj,mj,sb,_,_,sr'⟩:=sr.rep
    obtain⟨s1,s2,s3⟩:=size_bound sor
    obtain⟨fv,fb0,fb,fr⟩:=fur
    simp only[Tree.flat,List.length_cons,List.length_append,Tree.size,Tree.steps,Tree.unroll,Tree.depth] at hj hle hn hol hout hdr
    refine RowO.kdn h1 oj ⟨fun h7=>(h7 okr.1).elim,fun h7=>⟨by unfold I64;omega,RowI.idxn h1' mj ?_⟩⟩
    have hc:(j:Int)+1=((j+1:Nat):Int):=by omega
    rw[hc]
    have hbs:b.steps<=1114112:=by
     have h3:o.v.toNat*(b.steps+1)<=1114112:=by omega
     have h4:1*(b.steps+1)<=o.v.toNat*(b.steps+1):=Nat.mul_le_mul_right _ fv
     omega
    refine c251 N b (by omega) _ _ _ _ _ _ _ _ _ _ _ _ h1 h1' hl sb okr.2.1 fb sor.1 s1 (by omega) (by omega) fun a4 c4 H2 hB4 e2=>⟨_,_,_,_,rfl,?_⟩
    have ap:Apart a3 c3 a4 c4:=by
     intro bb q1 q2 f1 f2
     subst f1
     have hlt1:=hB.lt q1 (by omega)
     rcases hB4.ok with h0|⟨b',f3,h0,_⟩
     ·omega
     ·rw[f3] at f2;cases f2;omega
    refine⟨fun a5 l5 c5 n5 x H'=>∃q:Nat,x.toNat=q/\q<=o.v.toNat/\l5=out.length+q*b.size/\n5=n+1+((q*(b.steps+1):Nat):Int)/\Buf 5 H' H.size a5 l5 c5 (opsC (out++(List.replicate q b.unroll).flatten))/\Buf 5 H' H.size a4 b.size c4 (opsC b.unroll)/\Apart a5 c5 a4 c4/\Ext H H',fun _ _ _ _ x _=>o.v.toNat-x.toNat,
     ⟨0,rfl,by omega,by simp[hl3],by simp,by simpa using hB.ext e2,hB4.down (by omega),ap,e1.thenExt e2⟩,?_⟩
    rintro H3 a5 l5 c5 n5 x ⟨q,hx,hq,rfl,rfl,hB5,hB6,ap5,e3⟩
    have h3:=Ext.row e3 h
    have h3':=Ext.row e3 h'
    have hz3:=e3.1
    refine RowO.vvn h3 oj ⟨fun hlt2=>?_,fun hge2=>?_⟩
    ·rw[UInt64.lt_iff_toNat_lt,hx] at hlt2
     have hq1:(q+1)*b.size<=o.v.toNat*b.size:=Nat.mul_le_mul_right _ hlt2
     have hq2:(q+1)*(b.steps+1)<=o.v.toNat*(b.steps+1):=Nat.mul_le_mul_right _ hlt2
     rw[Nat.succ_mul] at hq1 hq2
     refine⟨opsC b.unroll,hB6.len,hB6.row.2,hB5.app2 hB6 ap5 (by omega) (by omega) (by omega) hB6.len rfl opsC_one (by omega) (by omega) fun a7 c7 H7 S hB7 hB8 ap7 m7 hS=>⟨by unfold I64;omega,by unfold I64;omega,⟨q+1,?_,by omega,by rw[Nat.succ_mul];omega,by rw[Nat.succ_mul];push_cast;omega,?_,hB8,ap7,e3.trans_new m7 fun b hb=>.inr (hS b hb).1⟩,?_⟩⟩
     ·have e1':(UInt64.ofNat 1).toNat=1:=rfl
      rw[UInt64.toNat_add,hx]
      have:=o.v.toNat_lt
      show (q+(UInt64.ofNat 1).toNat) % _=_
      rw[e1'];omega
     ·rw[flat_rep_succ,<-List.append_assoc,show opsC (out++(List.replicate q b.unroll).flatten++b.unroll)=opsC (out++(List.replicate q b.unroll).flatten)++opsC b.unroll from by simp[opsC]]
      exact hB7
     ·dsimp only
      have e1':(UInt64.ofNat 1).toNat=1:=rfl
      rw[UInt64.toNat_add,hx]
      have:=o.v.toNat_lt
      show _-(q+(UInt64.ofNat 1).toNat) % _<_
      rw[e1'];omega
    ·rw[UInt64.lt_iff_toNat_lt,hx] at hge2
     have hqv:q=o.v.toNat:=by omega
     subst hqv
     refine RowI.idxn h3' mj ⟨by unfold I64;omega,⟨r,out++(List.replicate o.v.toNat b.unroll).flatten,j+2+b.flat.length,by omega,?_,sr',okr.2.2.2,fr,sor.2.2,by omega,by omega,by omega,by rw[List.append_assoc];exact hout,by omega,by omega,hB5,e3⟩,by dsimp only;omega⟩
     simp[List.length_flatten,List.map_replicate,List.sum_replicate_nat,<-Tree.size_eq]
  ·match rest,hj,hout,hn,hol with
   | .nil,_,hout,hn,hol=>
    simp only[Tree.unroll,List.append_nil,Tree.steps,Tree.size] at hout hn hol
    have h5:n=t.steps:=by omega
    rw[h5]
    have h6:l3=t.size:=by omega
    rw[h6,hout] at hB
    rw[h6];exact k a3 c3 H1 hB e1
   | .op o r,hj,_,_,_=>simp[Tree.flat] at hj;omega
   | .rep o b e r,hj,_,_,_=>simp[Tree.flat] at hj;omega
theorem c198 {H:Heap}{R:Value->Heap->Prop}{p:Prog}{t:Tree}{a:Option Addr}{l c:Nat}(g:GoodP p t)(h:RowO H a l p.ops)(k:∀a' c' H',Buf 5 H' H.size a' t.size c' (opsC t.unroll)->Ext H H'->R (.tuple #[.slice a' t.size c',.int .i64 0]) H'):Ru 198 [.agg (progC p a l c).toArray] H R:=by
 have hlen:=h.len
 have hf:=good_few g
 have hpl:=Tree.len_prune t
 have hfl:=g.flat
 have hdp:=Tree.depth_prune t
 have gd:=g.depth
 have hl2:t.flat.length=p.ops.length:=by rw[hfl]
 have hlp:t.prune.flat.length<=65536:=by omega
 have hzp:t.prune.size<=65536:=by rw[Tree.size_prune];exact g.few
 refine v198 _ fun H1 q n1=>⟨progC p a l c,rfl,n1.rdL,c248 g (Ext.row n1.mod h) fun H2 e2=>⟨_,rfl,by simp,fun _=>⟨_,_,_,e2.rd (by simp) (n1.rd 1),?_⟩⟩⟩
 have e12:=n1.mod.thenExt e2
 refine c249 (t:=t) (by rw[hfl];exact Ext.row e12 h) (by omega) g.ok g.size g.few fun a3 c3 H3 hB3 e3=>⟨_,_,_,rfl,c250 (t:=t.prune) hB3.row hlp (Tree.ok_prune g.ok) fun a4 c4 H4 hB4 e4=>⟨_,_,_,_,rfl,?_⟩⟩
 refine c251 _ t.prune (Nat.lt_succ_self _) _ _ _ _ _ _ _ _ 0 _ _ _ (hB3.ext e4).row hB4.row hlp (Seg.top _) (Tree.ok_prune g.ok) (Tree.full_prune t) (sizeOk_prune' g.size) hzp (by omega) (by omega) fun a5 c5 H5 hB5 e5=>⟨_,_,_,_,rfl,?_⟩
 rw[Tree.unroll_prune,Tree.size_prune] at hB5
 rw[Tree.size_prune]
 have e05:=((e12.thenExt e3).thenExt e4).thenExt e5
 exact k a5 c5 H5 (hB5.down (by have:=((e12.thenExt e3).thenExt e4).1;omega)) e05
end Go.VC
namespace Go.VC
open Go Go.Proofs
def dusC (l:List Dual):List Value:=l.flatMap duC
abbrev RowD (H:Heap)(a:Option Addr)(l:Nat)(ds:List Dual):Prop:=Row 2 H a l (dusC ds)
@[simp] theorem dusC_length (l:List Dual):(dusC l).length=l.length*2:=by
 induction l with
 | nil=>rfl
 | cons d l ih=>
  have:dusC (d ::l)=duC d++dusC l:=rfl
  rw[this,List.length_append,ih,List.length_cons]
  show 2+_=_;omega
theorem dusC_app (l m:List Dual):dusC (l++m)=dusC l++dusC m:=by simp[dusC]
theorem dusC_split {l:List Dual}{i:Nat}(hi:i<l.length):dusC l=dusC (l.take i)++(duC l[i]++dusC (l.drop (i+1))):=by
 have h:l=l.take i++l[i] ::l.drop (i+1):=by rw[<-List.drop_eq_getElem_cons hi,List.take_append_drop]
 exact (congrArg dusC h).trans (by simp only[dusC,List.flatMap_append,List.flatMap_cons])
theorem dusC_rdL {H:Heap}{b o:Nat}{l:List Dual}(h:RdL H b o (dusC l)){i:Nat}(hi:i<l.length):RdL H b (o+i*2) (duC l[i]):=by
 rw[dusC_split hi] at h
 have h1:=(rdL_append.1 h).2
 have h2:=(rdL_append.1 h1).1
 rw[dusC_length,List.length_take,Nat.min_eq_left (by omega)] at h2
 exact h2
theorem RowD.len {H:Heap}{a:Option Addr}{l:Nat}{ds:List Dual}(h:RowD H a l ds):ds.length=l:=by have:=h.1;rw[dusC_length] at this;omega
theorem RowD.get {H:Heap}{a:Option Addr}{l:Nat}{ds:List Dual}(h:RowD H a l ds){i:Nat}(hi:i<ds.length):∃b o,At a b o/\((0:Int)<=i/\(i:Int)<l)/\RdL H b (o+Int.toNat (i:Int)*2) (duC ds[i]):=by
 have hl:=RowD.len h
 obtain⟨b,o,e,hr⟩:=h.at (by omega)
 exact⟨b,o,e,⟨by omega,by omega⟩,by rw[show Int.toNat (i:Int)=i from by omega];exact dusC_rdL hr hi⟩
theorem Own.getD {H:Heap}{q:Nat}{ds:List Dual}(h:Own H q (dusC ds)){i:Int}(h0:0<=i)(hi:i.toNat<ds.length):RdL H q (0+i.toNat*2) (duC ds[i.toNat]):=dusC_rdL h.1 hi
theorem Own.wD {H:Heap}{q:Nat}{ds:List Dual}(h:Own H q (dusC ds)){i:Int}(hi:i.toNat<ds.length):WOk H q (0+i.toNat*2) 2:=by
 have:=h.2;rw[dusC_length] at this;exact wok_sub this (by omega) (by omega)
theorem Own.setD {H H':Heap}{q:Nat}{ds:List Dual}(h:Own H q (dusC ds)){i:Int}(hi:i.toNat<ds.length){d:Dual}(e:H'=VC.wrL H q (0+i.toNat*2) (duC d)):Own H' q (dusC (ds.set i.toNat d)):=by
 have hlen:(duC d).length=2:=rfl
 have:=h.wrL (0+i.toNat*2) (duC d) (by rw[dusC_length,hlen];omega)
 rw[<-e,Nat.zero_add,hlen] at this
 have e2:(dusC ds).take (i.toNat*2)++duC d++(dusC ds).drop (i.toNat*2+2)=dusC (ds.set i.toNat d):=by
  rw[dusC_split hi]
  have l1:(dusC (ds.take i.toNat)).length=i.toNat*2:=by rw[dusC_length,List.length_take,Nat.min_eq_left (by omega)]
  have l2:(dusC (ds.take i.toNat)++duC ds[i.toNat]).length=i.toNat*2+2:=by rw[List.length_append,l1];rfl
  rw[List.take_append_of_le_length (by omega),List.take_of_length_le (by omega),<-List.append_assoc,<-l2,List.drop_left]
  rw[List.set_eq_take_append_cons_drop,if_pos hi,dusC_app]
  show _=_++(duC d++dusC _)
  simp
 rw[e2] at this;exact this
theorem dufwd_snoc (us:List Op)(o:Op):∀l:List Dual,dufwd (us++[o]) l=duStep o (dufwd us l):=by
 induction us with
 | nil=>intro l;rfl
 | cons u us ih=>intro l;simp only[List.cons_append,dufwd];exact ih _
theorem rgd_eq {l:List Dual}{i:Int}(h0:0<=i)(h:i.toNat<l.length):rgd l i=l[i.toNat]:=by
 unfold rgd;rw[List.getD_eq_getElem?_getD,List.getElem?_eq_getElem h];rfl
def zerosD (n:Nat):List Dual:=List.replicate n (0,0)
theorem rep_dus (n:Nat):rep n [.int .u64 0,.int .u64 0]=dusC (zerosD n):=by
 induction n with
 | zero=>rfl
 | succ n ih=>
  have:rep (n+1) [.int .u64 0,.int .u64 0]=[.int .u64 0,.int .u64 0]++rep n [.int .u64 0,.int .u64 0]:=rfl
  rw[this,ih]
  rfl
theorem c124 {H:Heap}{R:Value->Heap->Prop}{p:Prog}{t:Tree}{a x:Option Addr}{l c n c1:Nat}{ds:List Dual}(g:GoodP p t)(h:RowO H a l p.ops)(hd:RowD H x n ds)(hn:(n:Int)<=p.regs)
  (k:∀q H',Own H' q (dusC (dufwd t.unroll (ds++zerosD (p.regs.toNat-n))))->Ext H H'->H.size<=q->R (.tuple #[.slice (some ⟨q,0,none⟩) p.regs.toNat p.regs.toNat,.int .i64 0]) H') :
  Ru 124 [.agg (progC p a l c).toArray,.slice x n c1] H R:=by
 have hdl:=RowD.len hd
 obtain⟨g1,g2,_⟩:=g.regs
 refine v124 _ _ _ _ fun H1 q1 n1=>⟨progC p a l c,rfl,n1.rdL,c198 g (Ext.row n1.mod h) fun a2 c2 H2 hB2 e2=>⟨_,_,_,_,rfl,by simp,fun _=>⟨_,e2.rd (by simp) (n1.rd 0),fun hx=>by omega,fun _=>⟨_,e2.rd (by simp) (n1.rd 0),⟨by omega,by omega,by omega,by unfold I64;omega⟩,fun H3 q n3=>?_⟩⟩⟩⟩
 have e12:=n1.mod.thenExt e2
 have hq0:H.size<=q:=by have:=e12.1;have:=n3.ge;omega
 have hq2:H2.size<=q:=n3.ge
 rw[rep_dus] at n3
 have e23:=n3.mod
 have hgr:=fun (o:Op) (ho:o∈t.unroll)=>good_reg g ho
 have hgk:=fun (o:Op) (ho:o∈t.unroll)=>(mem_unroll g.ok ho).2
 have hts:=Tree.size_eq t
 have hfew:=g.few
 generalize t.unroll=us at *
 generalize hN:p.regs.toNat=N at *
 refine⟨fun H'=>Own H' q (dusC (ds++zerosD (N-n)))/\Mod [q] H3 H',⟨fun m H'=>∃i:Nat,m=i/\i<=n/\Own H' q (dusC (ds.take i++zerosD (N-i)))/\Mod [q] H3 H',fun m _=>(n-m).toNat,⟨0,rfl,by omega,by simpa using n3.own,Mod.refl⟩,?_⟩,?_⟩
 ·rintro H4 m ⟨i,rfl,hi,o4,m4⟩
  have x24:Ext H2 H4:=e23.trans_new m4 (by simpa using hq2)
  have d4:=Ext.row (e12.thenExt x24) hd
  have hlen:(ds.take i++zerosD (N-i)).length=N:=by simp[zerosD];omega
  refine⟨fun hlt=>?_,fun hge=>?_⟩
  ·have hil:i<ds.length:=by omega
   obtain⟨b,o,e,hr,hrd⟩:=RowD.get d4 hil
   refine⟨b,o,e,hr,_,rfl,hrd,q,0,rfl,⟨by omega,by omega⟩,rfl,duC_one,o4.wD (i:=(i:Int)) (by rw[hlen];omega),fun H5 h5=>⟨by unfold I64;omega,⟨i+1,by omega,by omega,?_,m4.trans (wrLM h5)⟩,by dsimp only;omega⟩⟩
   have o5:=o4.setD (i:=(i:Int)) (by rw[hlen];omega) h5
   have e5:(ds.take i++zerosD (N-i)).set (Int.toNat (i:Int)) ds[i]=ds.take (i+1)++zerosD (N-(i+1)):=by
    rw[show Int.toNat (i:Int)=i from by omega,List.set_append,if_neg (by rw[List.length_take];omega),List.length_take,Nat.min_eq_left (by omega),Nat.sub_self]
    have:zerosD (N-i)=(0,0) ::zerosD (N-(i+1)):=by unfold zerosD;rw[<-List.replicate_succ];congr 1;omega
    rw[this,List.set_cons_zero,List.take_succ_eq_append_getElem hil,List.append_assoc];rfl
   rw[e5] at o5;exact o5
  ·have e:i=n:=by omega
   subst e
   rw[List.take_of_length_le (by omega)] at o4
   exact⟨o4,m4⟩
 ·rintro H4 ⟨o4,m4⟩
  generalize hr0:ds++zerosD (N-n)=r0 at *
  have hrl:r0.length=N:=by rw[<-hr0];simp[zerosD];omega
  refine⟨fun m H'=>∃i:Nat,m=i/\i<=us.length/\Own H' q (dusC (dufwd (us.take i) r0))/\Mod [q] H3 H',fun m _=>(us.length-m).toNat,⟨0,rfl,by omega,by rw[List.take_zero];exact o4,m4⟩,?_⟩
  rintro H5 m ⟨i,rfl,hi,o5,m5⟩
  have x25:Ext H2 H5:=e23.trans_new m5 (by simpa using hq2)
  have hB5:=hB2.ext x25
  have hlen:(dufwd (us.take i) r0).length=N:=by rw[dufwd_length,hrl]
  refine⟨fun hlt=>?_,fun hge=>?_⟩
  ·have hil:i<us.length:=by omega
   obtain⟨b,o,e,hr,hrd⟩:=RowO.opn (ops:=us) hB5.row hil
   have hreg:=hgr _ (List.getElem_mem hil)
   have hkd:=hgk _ (List.getElem_mem hil)
   obtain⟨r1,r2,r3,r4,r5,r6⟩:=hreg
   have hsn:dufwd (us.take (i+1)) r0=duStep us[i] (dufwd (us.take i) r0):=by rw[List.take_succ_eq_append_getElem hil,dufwd_snoc]
   generalize us[i]=u at *
   have rdD:rd H5 b (o+Int.toNat (i:Int)*5+1)=some (.int .i64 u.d):=rdL_get' hrd (j:=1) rfl
   have rdA:rd H5 b (o+Int.toNat (i:Int)*5+2)=some (.int .i64 u.a):=rdL_get' hrd (j:=2) rfl
   have rdB:rd H5 b (o+Int.toNat (i:Int)*5+3)=some (.int .i64 u.b):=rdL_get' hrd (j:=3) rfl
   have ga:u.a.toNat<(dufwd (us.take i) r0).length:=by rw[hlen];omega
   have gb:u.b.toNat<(dufwd (us.take i) r0).length:=by rw[hlen];omega
   have gd:u.d.toNat<(dufwd (us.take i) r0).length:=by rw[hlen];omega
   refine⟨b,o,e,hr,_,rdD,b,o,e,hr,_,rfl,hrd,b,o,e,hr,_,rdA,q,0,rfl,⟨r3,by omega⟩,_,rfl,o5.getD r3 ga,b,o,e,hr,_,rdB,q,0,rfl,⟨r5,by omega⟩,_,rfl,o5.getD r5 gb,c199 u hkd _ _ fun H6 e6=>⟨_,rfl,rfl,e6.rd (by simp) rdD,q,0,rfl,⟨r1,by omega⟩,rfl,duC_one,(o5.mod e6 (by simp)).wD gd,fun H7 h7=>⟨by unfold I64;omega,⟨i+1,by omega,by omega,?_,(m5.thenExt e6).trans (wrLM h7)⟩,by dsimp only;omega⟩⟩⟩
   have o7:=(o5.mod e6 (by simp)).setD gd h7
   rw[hsn]
   unfold duStep
   rw[rgd_eq r3 ga,rgd_eq r5 gb];exact o7
  ·have e:i=us.length:=by omega
   subst e
   rw[List.take_length] at o5
   exact k q H5 o5 (e12.thenExt x25) hq0
end Go.VC
namespace Go.VC
open Go Go.Proofs
variable {H:Heap}{R:Value->Heap->Prop}
theorem copyLoop {H0 H:Heap}{n:Nat}{x:Option Addr}{l0:Nat}{xs:List UInt64}(hx:RowU H0 x l0 xs)(hl0:l0<=1048576){a:Option Addr}{l c:Nat}{pre:List UInt64}(hB:Buf 1 H n a l c (u64s pre))(hl:l<=1048576)(e:Ext H0 H)(hn:n=H0.size)
  {J:Option Addr->Nat->Nat->Heap->Prop} (k:∀a' c' H',Buf 1 H' n a' (l+l0) c' (u64s (pre++xs))->Ext H0 H'->J a' (l+l0) c' H') :
  ∃(I:Option Addr->Nat->Nat->Int->Heap->Prop),∃(μ:Option Addr->Nat->Nat->Int->Heap->Nat),I a l c (0:Int) H/\∀H a l c n,I a l c n H->(n<(↑l0:Int)->∃b o,At x b o/\((0:Int)<=n/\n<(↑l0:Int))/\∃y:UInt64,rd H b (o+Int.toNat n)=some (.int .u64 (↑(UInt64.toNat y):Int))/\∀H' q,New H [.int .u64 (↑(UInt64.toNat y):Int)] 51 H' q->∃new:List Value,List.length new=1/\SlL H' (some ⟨q,0,none⟩) new/\App 1 8 51 [.int .u64 0] H' a l c 1 new fun a' l' c' H'=>I64 (n+(1:Int))/\I a' l' c' (n+(1:Int)) H'/\μ a' l' c' (n+(1:Int)) H'<μ a l c n H)/\(¬n<(↑l0:Int)->J a l c H):=by
 have hxl:=hx.len
 refine⟨fun a' l' c' m H'=>∃i:Nat,m=i/\l'=l+i/\i<=l0/\Buf 1 H' n a' l' c' (u64s (pre++xs.take i))/\Ext H0 H',fun _ _ _ m _=>(l0-m).toNat,⟨0,rfl,rfl,by omega,by simpa using hB,e⟩,?_⟩
 rintro H1 a1 l1 c1 m ⟨i,rfl,rfl,hi,hB1,e1⟩
 have h1:=Ext.row e1 hx
 refine⟨fun hlt=>RowU.idx h1 (by omega) hlt fun H2 q n2=>?_,fun hge=>?_⟩
 ·have hil:i<xs.length:=by omega
  refine⟨u64s [xs[i]],rfl,.inr ⟨q,0,rfl,by have:=n2.rdL;simpa [u64s] using this⟩,(hB1.ext n2.mod).app (by have:=e1.1;have:=n2.mod.1;omega) rfl rfl u64s_one (by omega) (by omega) fun a3 c3 H3 S hB3 m3 hS=>⟨by unfold I64;omega,⟨i+1,by omega,by omega,by omega,?_,(e1.new n2).trans_new m3 fun b hb=>.inr (by have:=hS b hb;omega)⟩,by dsimp only;omega⟩⟩
  rw[<-u64s_append,List.append_assoc,<-List.take_succ_eq_append_getElem hil] at hB3;exact hB3
 ·have e':i=l0:=by omega
  subst e'
  rw[List.take_of_length_le (by omega)] at hB1
  exact k a1 c1 H1 hB1 e1
theorem c123 {a0 a1 a2:Option Addr}{l0 l1 l2 c0 c1 c2:Nat}{x y z:List UInt64}(h0:RowU H a0 l0 x)(h1:RowU H a1 l1 y)(h2:RowU H a2 l2 z)(b0:l0<=262144)(b1:l1<=262144)(b2:l2<=262144)
  (k:∀a' c' H',Buf 1 H' H.size a' (l0+l1+l2) c' (u64s (x++y++z))->Ext H H'->R (.slice a' (l0+l1+l2) c') H'):Ru 123 [.slice a0 l0 c0,.slice a1 l1 c1,.slice a2 l2 c2] H R:=by
 refine v123 _ _ _ _ _ _ _ _ _ fun H1 q n1=>⟨fun a l c H'=>l=l0/\Buf 1 H' H.size a l0 c (u64s x)/\Ext H H',copyLoop (pre:=[]) h0 (by omega) (by simpa [u64s] using Buf.nil) (by omega) n1.mod rfl fun a' c' H' hB e=>⟨by omega,by simpa using hB,e⟩,?_⟩
 rintro H2 a l c ⟨rfl,hB,e⟩
 exact copyLoop h1 (by omega) hB (by omega) e rfl fun a' c' H' hB' e'=>copyLoop h2 (by omega) hB' (by omega) e' rfl fun a'' c'' H'' hB'' e''=>k a'' c'' H'' hB'' e''
theorem c20 {w:UInt64}{a1 a2 a3 a4:Option Addr}{l1 l2 c1 c2 c3 c4:Nat}{x y:List UInt64}(h1:RowU H a1 l1 x)(h2:RowU H a2 l2 y)(h3:RowU H a3 l1 x)(h4:RowU H a4 l2 y)(b1:l1<=262144)(b2:l2<=262144)(k:∀H',Ext H H'->R (.bool true) H') :
  Ru 20 [.agg [.int .u64 (w.toNat:Int),.slice a1 l1 c1,.slice a2 l2 c2].toArray,.agg [.int .u64 (w.toNat:Int),.slice a3 l1 c3,.slice a4 l2 c4].toArray] H R:=by
 refine v20 _ _ fun H1 p n1 H2 q n2=>⟨fun H'=>H'=H2,⟨w,n2.mod.rd (by simp) (n1.rd 0),w,n2.rd 0,fun h=>(h rfl).elim,fun _=>⟨_,_,_,n2.mod.rd (by simp) (n1.rd 1),_,_,_,n2.rd 1,fun h=>(h rfl).elim,fun _=>⟨_,_,_,n2.mod.rd (by simp) (n1.rd 2),_,_,_,n2.rd 2,fun h=>(h rfl).elim,fun _=>rfl⟩⟩⟩,?_⟩
 intro H3 e3;subst e3
 have e:=n1.mod.new n2
 have rp:∀i v,[Value.int .u64 (w.toNat:Int),.slice a1 l1 c1,.slice a2 l2 c2][i]?=some v->rd H3 p i=some v:=fun i v hv=>n2.mod.rd (by simp) (by rw[n1.rd];exact hv)
 have rq:∀i v,[Value.int .u64 (w.toNat:Int),.slice a3 l1 c3,.slice a4 l2 c4][i]?=some v->rd H3 q i=some v:=fun i v hv=>by rw[n2.rd];exact hv
 refine⟨fun n H'=>H'=H3/\∃i:Nat,n=i/\i<=l1,fun n _=>(l1-n).toNat,⟨rfl,0,rfl,by omega⟩,?_⟩
 rintro H4 n ⟨e4,i,rfl,hi⟩
 subst e4
 refine⟨_,_,_,rp 1 _ rfl,fun hlt=>⟨_,_,_,rp 1 _ rfl,RowU.idx (Ext.row e h1) (by omega) hlt ⟨_,_,_,rq 1 _ rfl,RowU.idx (Ext.row e h3) (by omega) hlt ⟨fun h=>(h rfl).elim,fun _=>⟨by unfold I64;omega,⟨rfl,i+1,by omega,by omega⟩,by dsimp only;omega⟩⟩⟩⟩,fun hge=>?_⟩
 refine⟨fun n H'=>H'=H4/\∃i:Nat,n=i/\i<=l2,fun n _=>(l2-n).toNat,⟨rfl,0,rfl,by omega⟩,?_⟩
 rintro H5 n ⟨e5,j,rfl,hj⟩
 subst e5
 exact⟨_,_,_,rp 2 _ rfl,fun hlt=>⟨_,_,_,rp 2 _ rfl,RowU.idx (Ext.row e h2) (by omega) hlt ⟨_,_,_,rq 2 _ rfl,RowU.idx (Ext.row e h4) (by omega) hlt ⟨fun h=>(h rfl).elim,fun _=>⟨by unfold I64;omega,⟨rfl,j+1,by omega,by omega⟩,by dsimp only;omega⟩⟩⟩⟩,fun hge=>k _ e⟩
end Go.VC
namespace Go.VC
open Go Go.Proofs
def nN (h:Hdr):Nat:=nX h+nT h
noncomputable def alongD (h:Hdr)(i:Nat):Nat->List Dual
 | 0=>(h.x++h.th).zip (unit (nN h) i)
 | t+1=>(dufwd (unr h.step) (alongD h i t++[(UInt64.ofNat t,0)]++zerosD (nS h-(nN h+1)))).take (nX h)++(alongD h i t).drop (nX h)
def dth0 (h:Hdr)(i:Nat):List UInt64:=(unit (nN h) i).drop (nX h)
noncomputable def dst (h:Hdr)(i:Nat):Nat->List UInt64
 | 0=>(unit (nN h) i).take (nX h)
 | t+1=>tanStep h t (st h t) (dst h i t) (dth0 h i)
@[simp] theorem unit_length (n i:Nat):(unit n i).length=n:=by simp[unit]
theorem dth0_length (h:Hdr)(i:Nat):(dth0 h i).length=nT h:=by simp[dth0,nN]
theorem tanStep_length {h:Hdr}(d:dimsOk h){t:Nat}{x dx dth:List UInt64}(hx:dx.length=nX h)(ht:dth.length=nT h):(tanStep h t x dx dth).length=nX h:=by
 obtain⟨d1,d2,d3,d4,d5⟩:=d
 rw[tanStep,List.length_take,dfwd_length,padTo_length (by simp[hx,ht,nX,nT,nS];omega)]
 simp only[nX,nS];omega
theorem dst_length {h:Hdr}(d:dimsOk h)(i:Nat):∀t,(dst h i t).length=nX h
 | 0=>by simp[dst,nN]
 | t+1=>tanStep_length d (dst_length d i t) (dth0_length h i)
theorem zip_zeros (n:Nat):(zeros n).zip (zeros n)=zerosD n:=by simp[zeros,zerosD]
theorem zip_take {α β:Type}(n:Nat):∀(a:List α) (b:List β),(a.zip b).take n=(a.take n).zip (b.take n):=by
 induction n with
 | zero=>simp
 | succ n ih=>
  intro a b
  cases a with
  | nil=>simp
  | cons x a=>
   cases b with
   | nil=>simp
   | cons y b=>simp[ih]
theorem alongD_eq {h:Hdr}(d:dimsOk h)(gs:∃t,GoodP h.step t)(i:Nat):∀t,alongD h i t=(st h t++h.th).zip (dst h i t++dth0 h i)
 | 0=>by simp only[alongD,st,dst,dth0,List.take_append_drop]
 | t+1=>by
  have ih:=alongD_eq d gs i t
  have hd:=d
  obtain⟨d1,d2,d3,d4,d5⟩:=d
  have l1:=st_length hd t
  have l2:=dst_length hd i t
  have l3:=dth0_length h i
  have l4:h.th.length=nT h:=rfl
  have e1:alongD h i t++[(UInt64.ofNat t,0)]++zerosD (nS h-(nN h+1))=(stepIn h t (st h t)).zip (padTo (nS h) (dst h i t++dth0 h i++[0])):=by
   rw[ih]
   unfold stepIn padTo
   have e2:(st h t++h.th++[UInt64.ofNat t]).length=nN h+1:=by simp[l1,l4,nN];omega
   have e3:(dst h i t++dth0 h i++[0]).length=nN h+1:=by simp[l2,l3,nN];omega
   rw[e2,e3]
   have z1:((st h t++h.th++[UInt64.ofNat t])++zeros (nS h-(nN h+1))).zip ((dst h i t++dth0 h i++[0])++zeros (nS h-(nN h+1)))=(st h t++h.th++[UInt64.ofNat t]).zip (dst h i t++dth0 h i++[0])++(zeros (nS h-(nN h+1))).zip (zeros (nS h-(nN h+1))):=List.zip_append (by rw[e2,e3])
   have z2:(st h t++h.th++[UInt64.ofNat t]).zip (dst h i t++dth0 h i++[0])=(st h t++h.th).zip (dst h i t++dth0 h i)++[(UInt64.ofNat t,0)]:=List.zip_append (by simp[l1,l2,l3,l4])
   rw[z1,z2,zip_zeros]
  simp only[alongD]
  rw[e1,dufwd_eq (fun o ho=>unr_kind gs ho) (by rw[stepIn_length hd l1,padTo_length];simp[l2,l3,nX,nT,nS];omega),zip_take,ih]
  have e4:((st h t++h.th).zip (dst h i t++dth0 h i)).drop (nX h)=h.th.zip (dth0 h i):=by
   rw[List.zip_append (by rw[l1,l2])]
   have:((st h t).zip (dst h i t)).length=nX h:=by simp[l1,l2]
   rw[<-this,List.drop_left]
  rw[e4]
  have e5:(st h (t+1)++h.th).zip (dst h i (t+1)++dth0 h i)=(st h (t+1)).zip (dst h i (t+1))++h.th.zip (dth0 h i):=List.zip_append (by rw[st_length hd,dst_length hd])
  rw[e5]
  rfl
theorem alongD_length {h:Hdr}(d:dimsOk h)(gs:∃t,GoodP h.step t)(i t:Nat):(alongD h i t).length=nN h:=by
 rw[alongD_eq d gs,List.length_zip,List.length_append,List.length_append,st_length d,dst_length d,dth0_length]
 have l4:h.th.length=nT h:=rfl
 rw[l4];simp[nN]
theorem tan_dst (h:Hdr)(L i:Nat):∀k,k<=L->tan h L (dth0 h i) k (dst h i (L-k))=tanLoss h (st h L) (dst h i L) (dth0 h i)
 | 0,_=>by simp[tan]
 | k+1,hk=>by
  have ih:=tan_dst h L i k (by omega)
  rw[show L-k=(L-(k+1))+1 from by omega,dst] at ih
  rw[tan];exact ih
theorem alongEnd {h:Hdr}(d:dimsOk h)(gs:∃t,GoodP h.step t)(gl:∃t,GoodP h.loss t)(i L:Nat) :
  (dufwd (unr h.loss) (alongD h i L++zerosD (nL h-nN h))).getD 0 (0,0)=(lossOf h L,tanLoss h (st h L) (dst h i L) (dth0 h i)):=by
 have hd:=d
 obtain⟨d1,d2,d3,d4,d5⟩:=d
 have l1:=st_length hd L
 have l2:=dst_length hd i L
 have l3:=dth0_length h i
 have l4:h.th.length=nT h:=rfl
 have e1:alongD h i L++zerosD (nL h-nN h)=(lossIn h (st h L)).zip (padTo (nL h) (dst h i L++dth0 h i)):=by
  rw[alongD_eq hd gs]
  unfold lossIn padTo
  have e2:(st h L++h.th).length=nN h:=by simp[l1,l4,nN]
  have e3:(dst h i L++dth0 h i).length=nN h:=by simp[l2,l3,nN]
  rw[e2,e3]
  have z1:((st h L++h.th)++zeros (nL h-nN h)).zip ((dst h i L++dth0 h i)++zeros (nL h-nN h))=(st h L++h.th).zip (dst h i L++dth0 h i)++(zeros (nL h-nN h)).zip (zeros (nL h-nN h)):=List.zip_append (by rw[e2,e3])
  rw[z1,zip_zeros]
 rw[e1,dufwd_eq (fun o ho=>unr_kind gl ho) (by rw[lossIn_length hd l1,padTo_length];simp[l2,l3,nX,nT,nL];omega),
  zip_getD _ _ (by rw[fwd_length,dfwd_length,lossIn_length hd l1,padTo_length];simp[l2,l3,nX,nT,nL];omega)]
 rfl
theorem unit_take {n m i:Nat}(h:m<=n):(unit n i).take m=if i<m then unit m i else zeros m:=by
 unfold unit
 rw[List.take_set]
 have:(zeros n).take m=zeros m:=by simp[zeros,Nat.min_eq_left h]
 rw[this]
 split
 ·rfl
 ·rw[List.set_eq_of_length_le (by simp;omega)]
theorem unit_drop {n m i:Nat}:(unit (m+n) i).drop m=if i<m then zeros n else unit n (i-m):=by
 unfold unit
 rw[List.drop_set]
 have:(zeros (m+n)).drop m=zeros n:=by simp[zeros]
 rw[this]
noncomputable def along (h:Hdr)(L i:Nat):UInt64:=if i<nX h then (grad h L L).1.getD i 0 else (grad h L L).2.getD (i-nX h) 0
theorem along_eq {h:Hdr}(d:dimsOk h)(gs:∃t,GoodP h.step t)(gl:∃t,GoodP h.loss t)(L i:Nat)(hi:i<nN h):tanLoss h (st h L) (dst h i L) (dth0 h i)=along h L i:=by
 have h1:=tan_dst h L i L (Nat.le_refl _)
 rw[Nat.sub_self] at h1
 have h2:=grad_dual d gs gl L (dth0_length h i) L (dst h i 0) (dst_length d i 0)
 rw[<-h1,<-h2]
 simp only[dst,dth0]
 unfold nN at hi ⊢
 rw[unit_take (by omega),unit_drop]
 unfold along
 split
 ·rename_i h3
  rw[dot_unit _ _ _ h3,zeros,dot_zero_right,UInt64.add_zero]
 ·rename_i h3
  rw[zeros,dot_zero_right,UInt64.zero_add,dot_unit _ _ _ (by omega)]
end Go.VC
namespace Go.VC
open Go Go.Proofs
theorem pushD {H H1:Heap}{n:Nat}{a:Option Addr}{l c:Nat}{ds:List Dual}{q:Nat}{d:Dual}{cs:List Value}(hB:Buf 2 H n a l c (dusC ds))(hcs:cs=duC d)(n1:New H cs 203 H1 q)(hn:n<=H.size)(hl:l<=1048576){K:Option Addr->Nat->Nat->Heap->Prop}
  (k:∀a' c' H2 S,Buf 2 H2 n a' (l+1) c' (dusC (ds++[d]))->Mod S H1 H2->(∀b∈S,n<=b)->K a' (l+1) c' H2) :
  ∃new:List Value,List.length new=2/\SlL H1 (some ⟨q,0,none⟩) new/\App 2 16 203 [.int .u64 0,.int .u64 0] H1 a l c 1 new K:=by
 subst hcs
 refine⟨duC d,rfl,.inr ⟨q,0,rfl,n1.rdL⟩,(hB.ext n1.mod).app (by have:=n1.mod.1;omega) rfl rfl duC_one (by omega) (by omega) fun a' c' H2 S hB2 m2 hS=>k a' c' H2 S ?_ m2 hS⟩
 rw[dusC_app];exact hB2
theorem pushFresh {H H1:Heap}{a:Option Addr}{l:Nat}{ds:List Dual}{q:Nat}{d:Dual}{cs:List Value}(hr:RowD H a l ds)(hcs:cs=duC d)(n1:New H cs 203 H1 q)(hl:l<=1048576){K:Option Addr->Nat->Nat->Heap->Prop}
  (k:∀a' c' H2,Buf 2 H2 H1.size a' (l+1) c' (dusC (ds++[d]))->Ext H1 H2->K a' (l+1) c' H2) :
  ∃new:List Value,List.length new=2/\SlL H1 (some ⟨q,0,none⟩) new/\App 2 16 203 [.int .u64 0,.int .u64 0] H1 a l l 1 new K:=by
 subst hcs
 have hlen:=RowD.len hr
 refine⟨duC d,rfl,.inr ⟨q,0,rfl,n1.rdL⟩,fun h=>by omega,fun _=>⟨by omega,?_,dusC ds,by rw[dusC_length,hlen],(Ext.row n1.mod hr).2,fun c' H2 p hc hN=>?_⟩⟩
 ·exact Nat.le_trans (Nat.mul_le_mul_right 16 (nextcap_le (show l<l+1 by omega))) (by omega)
 ·have e1:dusC ds++duC d=dusC (ds++[d]):=by rw[dusC_app];rfl
  refine k _ c' H2 ⟨by simp[hlen],hc,.inr ⟨p,rfl,hN.ge,?_,?_⟩⟩ hN.mod
  ·have:=(rdL_append.1 hN.rdL).1;rw[e1] at this;exact this
  ·have hl2:(dusC ds++duC d++rep (c'-(l+1)) [Value.int .u64 0,.int .u64 0]).length=c'*2:=by
    rw[e1,List.length_append,dusC_length,rep_length,List.length_append,hlen];simp;omega
   have:=hN.wok;rw[hl2] at this;exact this
theorem c60 {H:Heap}{R:Value->Heap->Prop}(h:Hdr)(p:HAt)(r:HRows H h p)(dm:dimsOk h)(gs:∃t,GoodP h.step t)(gl:∃t,GoodP h.loss t)(L i:Nat)(hL:L<65536)(hi:i<nN h)(sc lc xc tc:Nat)
  (k:∀H',Ext H H'->R (.tuple #[.int .u64 ((lossOf h L).toNat:Int),.int .u64 ((along h L i).toNat:Int),.int .i64 0]) H') :
  Ru 60 [.agg (progC h.step p.sa h.step.ops.length sc).toArray,.agg (progC h.loss p.la h.loss.ops.length lc).toArray,.slice p.xa h.x.length xc,.slice p.ta h.th.length tc,.int .i64 (L:Int),.int .i64 (i:Int)] H R:=by
 have hdm:=dm
 obtain⟨d1,d2,d3,d4,d5⟩:=dm
 obtain⟨ts,gs'⟩:=gs
 obtain⟨tl,gl'⟩:=gl
 have hx:nX h=h.x.length:=rfl
 have ht:nT h=h.th.length:=rfl
 have hN:nN h=h.x.length+h.th.length:=rfl
 refine v60 _ _ _ _ _ _ _ _ _ _ fun H1 p1 n1 H2 p2 n2=>⟨progC h.step p.sa h.step.ops.length sc,rfl,n2.mod.rdL (by simp) n1.rdL,progC h.loss p.la h.loss.ops.length lc,rfl,n2.rdL,?_⟩
 have e2:=n1.mod.new n2
 refine c59 _ _ _ _ _ gs' (Ext.row e2 r.s) gl' (Ext.row e2 r.l) ⟨by omega,by omega⟩ (by omega) (by omega) (by omega) ⟨by omega,by omega⟩ fun H3 e3=>⟨_,rfl,by simp,fun _=>⟨fun H'=>H'=H3,⟨fun h=>by omega,fun _=>⟨by unfold I64;omega,fun h=>by omega,fun _=>rfl⟩⟩,?_⟩⟩
 intro H3' e3';subst e3'
 have e03:=e2.thenExt e3
 refine c123 (Ext.row e03 r.x) (Ext.row e03 r.th) (z:=[]) (⟨rfl,.inl rfl⟩) (by omega) (by omega) (by omega) fun a4 c4 H4 hB4 e4=>⟨_,_,_,rfl,fun H5 q5 n5=>?_⟩
 have hall:h.x.length+h.th.length+0=nN h:=by omega
 rw[List.append_nil,hall] at hB4
 rw[hall]
 have e04:=e03.thenExt e4
 have pr1:∀{H'},Ext H3' H'->RdL H' p1 0 (progC h.step p.sa h.step.ops.length sc):=fun e=>(n2.mod.thenExt (e3.thenExt e)).rdL (by simp) n1.rdL
 have pr2:∀{H'},Ext H3' H'->RdL H' p2 0 (progC h.loss p.la h.loss.ops.length lc):=fun e=>(e3.thenExt e).rdL (by simp) n2.rdL
 have a0l:∀t,(alongD h i t).length=nN h:=alongD_length hdm ⟨ts,gs'⟩ i
 have al:(h.x++h.th).length=nN h:=by simp[hN]
 refine⟨fun a' l' c' H'=>l'=nN h/\Buf 2 H' H.size a' (nN h) c' (dusC (alongD h i 0))/\Ext H3' H',⟨fun a' l' c' m H'=>∃j:Nat,m=j/\l'=j/\j<=nN h/\Buf 2 H' H4.size a' j c' (dusC ((alongD h i 0).take j))/\Ext H4 H',fun _ _ _ m _=>(nN h-m).toNat,⟨0,rfl,rfl,by omega,by simpa [dusC] using Buf.nil,n5.mod⟩,?_⟩,?_⟩
 ·rintro H6 a6 j c6 m ⟨_,rfl,rfl,hj,hB6,e6⟩
  have r6:=(hB4.ext e6).row
  have step:∀(d:Dual) (cs:List Value),cs=duC d->(hjl:j<nN h)->(alongD h i 0)[j]'(by rw[a0l];exact hjl)=d->∀H' q,New H6 cs 203 H' q->∃new:List Value,List.length new=2/\SlL H' (some ⟨q,0,none⟩) new/\App 2 16 203 [.int .u64 0,.int .u64 0] H' a6 j c6 1 new fun a' l' c' H'=>
    I64 ((j:Int)+1)/\(∃j':Nat,(j:Int)+1=j'/\l'=j'/\j'<=nN h/\Buf 2 H' H4.size a' j' c' (dusC ((alongD h i 0).take j'))/\Ext H4 H')/\(fun _ _ _ m _=>((nN h:Int)-m).toNat:Option Addr->Nat->Nat->Int->Heap->Nat) a' l' c' ((j:Int)+1) H'<(fun _ _ _ m _=>((nN h:Int)-m).toNat:Option Addr->Nat->Nat->Int->Heap->Nat) a6 j c6 (j:Int) H6:=by
   intro d cs hcs hjl hd H7 q7 n7
   refine pushD hB6 hcs n7 e6.1 (by omega) fun a' c' H8 S hB8 m8 hS=>⟨by unfold I64;omega,⟨j+1,by omega,rfl,by omega,?_,(e6.new n7).trans_new m8 fun b hb=>.inr (hS b hb)⟩,by dsimp only;omega⟩
   rw[List.take_succ_eq_append_getElem (by rw[a0l];exact hjl),hd];exact hB8
  refine⟨fun hlt=>⟨fun hji=>RowU.idx r6 (by omega) hlt ⟨rfl,step (_,1) _ rfl (by omega) ?_⟩,fun hji=>RowU.idx r6 (by omega) hlt ⟨rfl,step (_,0) _ rfl (by omega) ?_⟩⟩,fun hge=>?_⟩
  ·have:j=i:=by omega
   simp[alongD,unit,this]
  ·have:i≠j:=by omega
   simp[alongD,unit,zeros,this]
  ·have e:j=nN h:=by omega
   subst e
   rw[List.take_of_length_le (by rw[a0l];omega)] at hB6
   exact⟨rfl,hB6.down e04.1,e4.thenExt e6⟩
 ·rintro H6 a6 l6 c6 ⟨rfl,hB6,e6⟩
  refine⟨fun a' l' c' m H'=>∃t:Nat,m=t/\t<=L/\l'=nN h/\Buf 2 H' H.size a' (nN h) c' (dusC (alongD h i t))/\Ext H3' H',fun _ _ _ m _=>(L-m).toNat,⟨0,rfl,by omega,rfl,hB6,e6⟩,?_⟩
  rintro H7 a7 l7 c7 m ⟨t,rfl,htL,rfl,hB7,e7⟩
  have hle7:=hB7.le
  have e07:=e03.thenExt e7
  refine⟨fun hlt=>?_,fun hge=>?_⟩
  ·refine⟨progC h.step p.sa h.step.ops.length sc,rfl,pr1 e7,⟨⟨by omega,by omega⟩,by omega,by omega⟩,rfl,fun H8 q8 n8=>⟨pr1 (e7.new n8),?_⟩⟩
   rw[show Int.toNat ((nN h:Nat):Int)=nN h from by omega]
   refine pushFresh (d:=(UInt64.ofNat t,0)) hB7.row (by rw[ofInt_nat];rfl) n8 (by omega) fun a9 c9 H9 hB9 e9=>⟨pr1 ((e7.new n8).thenExt e9),?_⟩
   have e09:=(e7.new n8).thenExt e9
   refine c124 gs' (Ext.row (e03.thenExt e09) r.s) hB9.row (by rw[hN];omega) fun qa Ha oa ea hqa=>⟨_,_,_,_,rfl,fun Hb qb nb=>?_⟩
   have e7b:Ext H7 Hb:=(((n8.mod.thenExt e9).thenExt ea).new nb)
   have hregs:h.step.regs.toNat=nS h:=rfl
   rw[<-unr_eq gs',hregs,hN] at oa
   generalize hnx:dufwd (unr h.step) (alongD h i t++[(UInt64.ofNat t,0)]++zerosD (nS h-(h.x.length+h.th.length+1)))=nx at *
   have hnxl:nx.length=nS h:=by rw[<-hnx,dufwd_length];simp[a0l,zerosD];rw[hN];simp only[nS];omega
   have hsucc:alongD h i (t+1)=nx.take (nX h)++(alongD h i t).drop (nX h):=by rw[alongD,<-hnx,hN]
   refine⟨fun a' l' c' m H'=>∃j:Nat,m=j/\l'=j/\j<=nN h/\Buf 2 H' Ha.size a' j c' (dusC ((alongD h i (t+1)).take j))/\Ext Ha H',fun _ _ _ m _=>(nN h-m).toNat,⟨0,rfl,rfl,by omega,by simpa [dusC] using Buf.nil,nb.mod⟩,?_⟩
   rintro Hc ac j cc m ⟨_,rfl,rfl,hj,hBc,ec⟩
   have step:∀(d:Dual) (cs:List Value),cs=duC d->(hjl:j<nN h)->(alongD h i (t+1))[j]'(by rw[a0l];exact hjl)=d->∀H' q,New Hc cs 203 H' q->∃new:List Value,List.length new=2/\SlL H' (some ⟨q,0,none⟩) new/\App 2 16 203 [.int .u64 0,.int .u64 0] H' ac j cc 1 new fun a' l' c' H'=>
     I64 ((j:Int)+1)/\(∃j':Nat,(j:Int)+1=j'/\l'=j'/\j'<=nN h/\Buf 2 H' Ha.size a' j' c' (dusC ((alongD h i (t+1)).take j'))/\Ext Ha H')/\(fun _ _ _ m _=>((nN h:Int)-m).toNat:Option Addr->Nat->Nat->Int->Heap->Nat) a' l' c' ((j:Int)+1) H'<(fun _ _ _ m _=>((nN h:Int)-m).toNat:Option Addr->Nat->Nat->Int->Heap->Nat) ac j cc (j:Int) Hc:=by
    intro d cs hcs hjl hd H7 q7 n7
    refine pushD hBc hcs n7 ec.1 (by omega) fun a' c' H8 S hB8 m8 hS=>⟨by unfold I64;omega,⟨j+1,by omega,rfl,by omega,?_,(ec.new n7).trans_new m8 fun b hb=>.inr (hS b hb)⟩,by dsimp only;omega⟩
    rw[List.take_succ_eq_append_getElem (by rw[a0l];exact hjl),hd];exact hB8
   have xlen:(nx.take (nX h)).length=nX h:=by rw[List.length_take,hnxl];simp only[nS,nX];omega
   refine⟨fun hlt=>⟨fun hjx=>?_,fun hjx=>?_⟩,fun hge=>?_⟩
   ·have o:=oa.mod ec (by simp)
    refine⟨qa,0,rfl,⟨by omega,by simp only[nS] at hregs;omega⟩,duC nx[j],rfl,by have:=o.getD (i:=(j:Int)) (by omega) (by simp only[nS] at *;omega);simpa using this,rfl,step nx[j] _ (by simp) (by omega) ?_⟩
    simp only[hsucc]
    rw[List.getElem_append_left (by omega),List.getElem_take]
   ·have rr:=(hB7.ext (((n8.mod.thenExt e9).thenExt ea).thenExt ec)).row
    obtain⟨b,o,e,hr,hd⟩:=RowD.get rr (i:=j) (by rw[a0l];omega)
    refine⟨b,o,e,hr,_,rfl,hd,rfl,step ((alongD h i t)[j]'(by rw[a0l];omega)) _ (by simp) (by omega) ?_⟩
    simp only[hsucc]
    rw[List.getElem_append_right (by omega),List.getElem_drop]
    congr 1;omega
   ·have e:j=nN h:=by omega
    subst e
    rw[List.take_of_length_le (by rw[a0l];omega)] at hBc
    have ehc:=(e09.thenExt ea).thenExt ec
    exact⟨by unfold I64;omega,⟨t+1,by omega,by omega,rfl,hBc.down (by have:=(e03.thenExt (e09.thenExt ea)).1;exact this),ehc⟩,by dsimp only;omega⟩
  ·have e:t=L:=by omega
   subst e
   refine⟨progC h.loss p.la h.loss.ops.length lc,rfl,pr2 e7,c124 gl' (Ext.row e07 r.l) hB7.row (by rw[hN];omega) fun qa Ha oa ea hqa=>⟨_,_,_,_,rfl,?_⟩⟩
   have hregs:h.loss.regs.toNat=nL h:=rfl
   rw[<-unr_eq gl',hregs] at oa
   have hend:=alongEnd hdm ⟨ts,gs'⟩ ⟨tl,gl'⟩ i t
   rw[along_eq hdm ⟨ts,gs'⟩ ⟨tl,gl'⟩ t i hi] at hend
   generalize hnx:dufwd (unr h.loss) (alongD h i t++zerosD (nL h-nN h))=nx at *
   have hnxl:nx.length=nL h:=by rw[<-hnx,dufwd_length];simp[a0l,zerosD];rw[hN];simp only[nL];omega
   have hpos:0<nx.length:=by rw[hnxl];simp only[nL];omega
   have h0:nx[0]=(lossOf h t,along h t i):=by rw[<-hend,List.getD_eq_getElem?_getD,List.getElem?_eq_getElem hpos];rfl
   have g0:=oa.getD (i:=0) (by omega) (by simpa using hpos)
   simp only[Int.toNat_zero,h0] at g0
   have e0:(0:Int)<((h.loss.regs.toNat:Nat):Int):=by omega
   exact⟨qa,0,rfl,⟨by omega,e0⟩,lossOf h t,rdL_get' g0 (j:=0) rfl,qa,0,rfl,⟨by omega,e0⟩,along h t i,rdL_get' g0 (j:=1) rfl,k Ha (e07.thenExt ea)⟩
end Go.VC
namespace Go.VC
open Go Go.Proofs
theorem c19 {H:Heap}{R:Value->Heap->Prop}(h:Hdr)(p:HAt)(r:HRows H h p)(dm:dimsOk h)(gs:∃t,GoodP h.step t)(gl:∃t,GoodP h.loss t)(L:Nat)(hL:L<65536)(sc lc xc tc:Nat)
  (k:∀H' a1 c1 a2 c2,RowU H' a1 (nX h) (grad h L L).1->RowU H' a2 (nT h) (grad h L L).2->Ext H H'->R (.tuple #[.agg [.int .u64 ((lossOf h L).toNat:Int),.slice a1 (nX h) c1,.slice a2 (nT h) c2].toArray,.int .i64 0]) H') :
  Ru 19 [.agg (progC h.step p.sa h.step.ops.length sc).toArray,.agg (progC h.loss p.la h.loss.ops.length lc).toArray,.slice p.xa h.x.length xc,.slice p.ta h.th.length tc,.int .i64 (L:Int)] H R:=by
 have hdm:=dm
 obtain⟨d1,d2,d3,d4,d5⟩:=dm
 have hx:nX h=h.x.length:=rfl
 have ht:nT h=h.th.length:=rfl
 have hN:nN h=h.x.length+h.th.length:=rfl
 obtain⟨gl1,gl2⟩:=grad_length hdm L L
 obtain⟨ts,gs'⟩:=gs
 obtain⟨tl,gl'⟩:=gl
 refine v19 _ _ _ _ _ _ _ _ _ fun H1 p1 n1 H2 p2 n2 H3 p3 n3=>⟨progC h.step p.sa h.step.ops.length sc,rfl,(n2.mod.new n3).rdL (by simp) n1.rdL,progC h.loss p.la h.loss.ops.length lc,rfl,n3.mod.rdL (by simp) n2.rdL,?_⟩
 have e3:=(n1.mod.new n2).new n3
 refine c59 _ _ _ _ _ gs' (Ext.row e3 r.s) gl' (Ext.row e3 r.l) ⟨by omega,by omega⟩ (by omega) (by omega) (by omega) ⟨by omega,by omega⟩ fun H4 e4=>⟨_,rfl,by simp,fun _=>fun H5 p5 n5=>⟨rfl,?_,n5.own.w 0 3 rfl,fun H6 h6=>?_⟩⟩
 ·intro x hx;simp at hx;rcases hx with rfl|rfl|rfl<;>trivial
 obtain⟨e6,o6⟩:=tmpE (cs:=[.int .u64 ((0:UInt64).toNat:Int),.slice none 0 0,.slice none 0 0]) n5 rfl h6
 have e06:=(e3.thenExt e4).thenExt e6
 have hp5:p5<H6.size:=o6.lt (by simp)
 have hp5':H4.size<=p5:=n5.ge
 have h46:=e3.thenExt e4
 let lo:Nat->UInt64:=fun j=>if j=0 then 0 else lossOf h L
 refine⟨fun m H'=>∃(j:Nat) (a1 a2:Option Addr) (c1 c2:Nat),m=j/\j<=nN h/\Own H' p5 [.int .u64 ((lo j).toNat:Int),.slice a1 (min j (nX h)) c1,.slice a2 (j-nX h) c2]/\Buf 1 H' H6.size a1 (min j (nX h)) c1 (u64s ((grad h L L).1.take j))/\Buf 1 H' H6.size a2 (j-nX h) c2 (u64s ((grad h L L).2.take (j-nX h)))/\Apart a1 c1 a2 c2/\Mod [p5] H6 H',
  fun m _=>(nN h-m).toNat,⟨0,none,none,0,0,rfl,by omega,by rw[Nat.zero_min,Nat.zero_sub];exact o6,by simpa [u64s] using Buf.nil,by simpa [u64s] using Buf.nil,fun b h0=>by omega,Mod.refl⟩,?_⟩
 rintro H7 m ⟨j,a1,a2,c1,c2,rfl,hj,o7,hB1,hB2,ap,m7⟩
 have x07:Ext H H7:=e06.trans_new m7 (by have:=h46.1;simp;omega)
 have x47:Ext H4 H7:=e6.trans_new m7 (by simpa using hp5')
 refine⟨by unfold I64;omega,fun hlt=>?_,fun hge=>?_⟩
 ·have hjN:j<nN h:=by omega
  refine⟨progC h.step p.sa h.step.ops.length sc,rfl,((n2.mod.new n3).thenExt (e4.thenExt x47)).rdL (by simp) n1.rdL,progC h.loss p.la h.loss.ops.length lc,rfl,(n3.mod.thenExt (e4.thenExt x47)).rdL (by simp) n2.rdL,c60 h p (r.ext x07) hdm ⟨ts,gs'⟩ ⟨tl,gl'⟩ L j hL hjN _ _ _ _ fun H8 e8=>⟨lossOf h L,along h L j,_,rfl,?_⟩⟩
  have o8:=o7.mod e8 (by simp)
  refine⟨o8.w 0 1 rfl,fun H9 h9=>?_⟩
  have o9:=o8.wr 0 (.int .u64 ((lossOf h L).toNat:Int))
  rw[<-h9] at o9
  simp only[List.set_cons_zero] at o9
  have m9:Mod [p5] H6 H9:=(m7.thenExt e8).trans (wrM h9)
  have lowp:∀b∈[p5],b<H6.size:=by simpa using hp5
  have hB1':=(hB1.ext e8).mod (wrM h9) lowp
  have hB2':=(hB2.ext e8).mod (wrM h9) lowp
  have hz:H6.size<=H9.size:=m9.1
  have hlo:lo (j+1)=lossOf h L:=by simp[lo]
  refine⟨fun hltx=>⟨_,_,_,o9.rd 1 rfl,fun Ha q na=>?_⟩,fun hgex=>⟨_,_,_,o9.rd 2 rfl,fun Ha q na=>?_⟩⟩
  ·have hjx:j<(grad h L L).1.length:=by omega
   refine⟨u64s [along h L j],rfl,.inr ⟨q,0,rfl,by have:=na.rdL;simpa [u64s] using this⟩,(hB1'.ext na.mod).app2 (hB2'.ext na.mod) ap (by omega) (by omega) (by have:=na.mod.1;omega) rfl rfl u64s_one (by omega) (by omega) fun a' c' Hb S q1 q2 q3 q4 q5=>?_⟩
   have hmb:Mod [p5] H6 Hb:=(m9.new na).trans_new q4 fun b hb=>.inr (q5 b hb).1
   have ob:Own Hb p5 _:=(o9.mod na.mod (by simp)).mod q4 (fun hb=>by have:=(q5 _ hb).1;omega)
   refine⟨ob.w 1 1 rfl,fun Hc hc=>⟨by unfold I64;omega,⟨j+1,a',a2,c',c2,by omega,by omega,?_,?_,?_,q3,hmb.trans (wrM hc)⟩,by dsimp only;omega⟩⟩
   ·have oc:=ob.wr 1 (.slice a' (min j (nX h)+1) c')
    rw[<-show Hc=_ from hc] at oc
    rw[hlo,show min (j+1) (nX h)=min j (nX h)+1 from by omega,show j+1-nX h=j-nX h from by omega]
    exact oc
   ·have:=q1.mod (wrM hc) lowp
    rw[show min (j+1) (nX h)=min j (nX h)+1 from by omega,List.take_succ_eq_append_getElem hjx,u64s_append]
    have e1:along h L j=(grad h L L).1[j]:=by unfold along;rw[if_pos (by omega),List.getD_eq_getElem?_getD,List.getElem?_eq_getElem hjx];rfl
    rw[e1] at this;exact this
   ·have:=q2.mod (wrM hc) lowp
    rw[show j+1-nX h=j-nX h from by omega];exact this
  ·have hjx:j-nX h<(grad h L L).2.length:=by omega
   refine⟨u64s [along h L j],rfl,.inr ⟨q,0,rfl,by have:=na.rdL;simpa [u64s] using this⟩,(hB2'.ext na.mod).app2 (hB1'.ext na.mod) ap.symm (by omega) (by omega) (by have:=na.mod.1;omega) rfl rfl u64s_one (by omega) (by omega) fun a' c' Hb S q1 q2 q3 q4 q5=>?_⟩
   have hmb:Mod [p5] H6 Hb:=(m9.new na).trans_new q4 fun b hb=>.inr (q5 b hb).1
   have ob:Own Hb p5 _:=(o9.mod na.mod (by simp)).mod q4 (fun hb=>by have:=(q5 _ hb).1;omega)
   refine⟨ob.w 2 1 rfl,fun Hc hc=>⟨by unfold I64;omega,⟨j+1,a1,a',c1,c',by omega,by omega,?_,?_,?_,q3.symm,hmb.trans (wrM hc)⟩,by dsimp only;omega⟩⟩
   ·have oc:=ob.wr 2 (.slice a' (j-nX h+1) c')
    rw[<-show Hc=_ from hc] at oc
    rw[hlo,show min (j+1) (nX h)=min j (nX h) from by omega,show j+1-nX h=j-nX h+1 from by omega]
    exact oc
   ·have:=q2.mod (wrM hc) lowp
    rw[show min (j+1) (nX h)=min j (nX h) from by omega,List.take_of_length_le (by omega)]
    rw[List.take_of_length_le (by omega)] at this;exact this
   ·have:=q1.mod (wrM hc) lowp
    rw[show j+1-nX h=j-nX h+1 from by omega,List.take_succ_eq_append_getElem hjx,u64s_append]
    have e1:along h L j=(grad h L L).2[j-nX h]:=by unfold along;rw[if_neg (by omega),List.getD_eq_getElem?_getD,List.getElem?_eq_getElem hjx];rfl
    rw[e1] at this;exact this
 ·have e:j=nN h:=by omega
  subst e
  have e1:min (nN h) (nX h)=nX h:=by omega
  have e2:nN h-nX h=nT h:=by omega
  have e3':lo (nN h)=lossOf h L:=by simp only[lo];rw[if_neg (by omega)]
  rw[e1,e2,e3'] at o7
  rw[e1,List.take_of_length_le (by omega)] at hB1
  rw[e2,List.take_of_length_le (by omega)] at hB2
  have o3:=((n3.own.mod e4 (by simp)).mod x47 (by simp))
  have hp3:p3<H4.size:=by have:=n3.lt;have:=e4.1;omega
  refine⟨[.int .u64 ((lossOf h L).toNat:Int),.slice a1 (nX h) c1,.slice a2 (nT h) c2],rfl,o7.1,rfl,?_,o3.w 0 3 rfl,fun H8 h8=>⟨[.int .u64 ((lossOf h L).toNat:Int),.slice a1 (nX h) c1,.slice a2 (nT h) c2],rfl,by rw[h8];exact rdL_wrL o3.2,?_⟩⟩
  ·intro x hx;simp at hx;rcases hx with rfl|rfl|rfl<;>trivial
  have h3ge:H.size<=p3:=by have:=n1.mod.1;have:=n2.mod.1;have:=n3.ge;omega
  have m8:Mod [p3] H7 H8:=wrLM h8
  have low3:∀b∈[p3],b<H6.size:=by simp;omega
  exact k H8 a1 c1 a2 c2 (hB1.mod m8 low3).row (hB2.mod m8 low3).row (x07.trans_new m8 (by simpa using h3ge))
end Go.VC
namespace Go.VC
open Go Go.Proofs
noncomputable def scalI (h:Hdr)(d:DS):List Int:=[h.mode,d.l,d.at_,d.pend+1,slotsOf h,d.plain,d.tapd,d.losses,d.sweeps,d.live,d.peak]
noncomputable def scal (h:Hdr)(d:DS):List UInt64:=(scalI h d).map UInt64.ofInt++[d.loss]++zeros 4
theorem c61 {H:Heap}{R:Value->Heap->Prop}{b:DB}{h:Hdr}{d:DS}{P:List (List UInt64)}{K post:List UInt64}(v:DrvM H b h d P K post)(hp : -1<=d.pend/\d.pend<=65536)(k:∀H',Ext H H'->R (.agg (u64s (scal h d)).toArray) H') :
  Ru 61 [.pointer (some ⟨b.d,0,none⟩)] H R:=by
 refine v61 _ _ fun H1 p n1 H2 q n2=>?_
 have e2:=n1.mod.new n2
 have v2:=v.ext e2
 refine⟨i64s [d.plain,d.tapd,d.losses,d.sweeps],rfl,⟨v2.top.rd 20 rfl,v2.top.rd 21 rfl,v2.top.rd 22 rfl,v2.top.rd 23 rfl,trivial⟩,fun H3 s n3=>⟨rfl,i64s_one,n3.own.w 0 4 rfl,fun H4 h4=>?_⟩⟩
 obtain⟨e4,o4⟩:=tmpE (cs:=i64s [d.plain,d.tapd,d.losses,d.sweeps]) n3 rfl h4
 have v4:=v2.ext e4
 refine⟨_,by rw[Nat.zero_add];exact v4.top.rd 4 rfl,_,by rw[Nat.zero_add];exact v4.top.rd 17 rfl,_,by rw[Nat.zero_add];exact v4.top.rd 18 rfl,_,by rw[Nat.zero_add];exact v4.top.rd 19 rfl,by unfold I64;omega,_,by rw[Nat.zero_add];exact v4.top.rd 3 rfl,_,o4.rd 0 rfl,_,o4.rd 1 rfl,_,o4.rd 2 rfl,_,o4.rd 3 rfl,?_⟩
 refine v82 _ _ ⟨_,by rw[Nat.zero_add];exact v4.top.rd 16 rfl,c150 v4.met ⟨_,rfl,_,rfl,o4.rd 3 rfl,o4.rd 2 rfl,o4.rd 1 rfl,o4.rd 0 rfl,by rw[Nat.zero_add];exact v4.top.rd 3 rfl,by rw[Nat.zero_add];exact v4.top.rd 19 rfl,by rw[Nat.zero_add];exact v4.top.rd 18 rfl,by rw[Nat.zero_add];exact v4.top.rd 17 rfl,by rw[Nat.zero_add];exact v4.top.rd 4 rfl,?_⟩⟩
 refine v84 _ _ ⟨_,by rw[Nat.zero_add];exact v4.top.rd 16 rfl,c151 v4.met ⟨_,rfl,_,rfl,o4.rd 3 rfl,o4.rd 2 rfl,o4.rd 1 rfl,o4.rd 0 rfl,by rw[Nat.zero_add];exact v4.top.rd 3 rfl,by rw[Nat.zero_add];exact v4.top.rd 19 rfl,by rw[Nat.zero_add];exact v4.top.rd 18 rfl,by rw[Nat.zero_add];exact v4.top.rd 17 rfl,by rw[Nat.zero_add];exact v4.top.rd 4 rfl,?_⟩⟩
 have oq:=n2.own.mod e4 (by simp)
 have op:=(n1.own.mod n2.mod (by simp)).mod e4 (by simp)
 have hbase:b.d<H.size:=v.top.lt (by unfold drvC;simp[i64s,planL])
 have hqd:b.d≠q:=by have:=n1.mod.1;have:=n2.ge;omega
 have hpq:p≠q:=by have:=n1.lt;have:=n2.ge;omega
 have hpH:H.size<=p:=n1.ge
 have hqH:H.size<=q:=by have:=n1.mod.1;have:=n2.ge;omega
 let V:=(scalI h d).map UInt64.ofInt
 have hV:V.length=11:=rfl
 refine⟨fun n H'=>∃i:Nat,n=i/\i<=11/\Own H' q (u64s (V.take i++zeros (16-i)))/\Mod [q] H4 H',fun n _=>(11-n).toNat,⟨0,rfl,by omega,oq,Mod.refl⟩,?_⟩
 rintro H5 n ⟨i,rfl,hi,o5,m5⟩
 have hlen:(V.take i++zeros (16-i)).length=16:=by simp[hV];omega
 refine⟨fun hlt=>?_,fun hge=>?_⟩
 ·have hi1:i<(scalI h d).length:=by show i<11;omega
  have hw:=o5.2
  rw[u64s_length,hlen] at hw
  refine⟨⟨by omega,hlt⟩,_,by rw[show Int.toNat (i:Int)*1=i from by omega];exact i64s_get hi1,_,rfl,⟨by omega,by omega⟩,wok_sub hw (by omega) (by omega),fun H6 h6=>⟨by unfold I64;omega,⟨i+1,by omega,by omega,?_,m5.trans (wrM h6)⟩,by dsimp only;omega⟩⟩
  have o6:=o5.wr (0+Int.toNat (i:Int)*1) (.int .u64 ((UInt64.ofInt (scalI h d)[i]).toNat:Int))
  rw[<-show H6=_ from h6,show 0+Int.toNat (i:Int)*1=i from by omega,u64s_set,List.set_append,if_neg (by rw[List.length_take,hV];omega),List.length_take,hV,Nat.min_eq_left (by omega),Nat.sub_self] at o6
  have h16:zeros (16-i)=0 ::zeros (16-(i+1)):=by unfold zeros;rw[<-List.replicate_succ];congr 1;omega
  rw[h16,List.set_cons_zero] at o6
  rw[List.take_succ_eq_append_getElem (by rw[hV];omega),List.append_assoc]
  have hVi:V[i]'(by rw[hV];omega)=UInt64.ofInt (scalI h d)[i]:=by simp[V]
  rw[hVi];exact o6
 ·have e:i=11:=by omega
  subst e
  have v5:=v4.top.mod m5 (by simpa using hqd)
  rw[List.take_of_length_le (by rw[hV];omega)] at o5
  have hw:=o5.2
  rw[u64s_length] at hw
  refine⟨d.loss,by rw[Nat.zero_add];exact v5.rd 24 rfl,⟨by omega,by omega⟩,wok_sub hw (by omega) (by simp[hV]),fun H6 h6=>?_⟩
  have o6:=o5.wr 11 (.int .u64 (d.loss.toNat:Int))
  rw[<-h6,u64s_set] at o6
  have hs:(V++zeros (16-11)).set 11 d.loss=scal h d:=rfl
  rw[hs] at o6
  have m6:=m5.trans (wrM h6)
  have op6:=op.mod m6 (by simpa using hpq)
  refine⟨u64s (scal h d),rfl,o6.1,rfl,u64s_one,op6.w 0 16 rfl,fun H7 h7=>⟨u64s (scal h d),rfl,by rw[h7];exact rdL_wrL op6.2,k H7 ?_⟩⟩
  exact ((e2.thenExt e4).trans_new m6 (by simpa using hqH)).trans_new (wrLM h7) (by simpa using hpH)
end Go.VC
set_option linter.unusedVariables false
namespace Go.VC
open Go Go.Proofs
set_option maxRecDepth 100000
variable {H:Heap}{R:Value->Heap->Prop}
theorem v6 (x0:List Value)(x1:Int)(x2:Int)(h:∀H' p,New H x0 27 H' p->∃cs:List Value,cs.length=9/\RdL H' p 0 cs/\Ru 8 [.agg cs.toArray] H' fun r H'=>∃cs:List Value,cs.length=4/\∃n,r=.tuple #[.agg cs.toArray,.i n]/\∀H'_1 p_1,New H' [.i 0,.i 0,.i 0,.i 0] 30 H'_1 p_1->cs.length=4/\(∀v∈cs,One v)/\WOk H'_1 p_1 0 4/\∀H',H'=wrL H'_1 p_1 0 cs->∃(cs:List Value),cs.length=9/\RdL H' p 0 cs/\Ru 9 [.agg cs.toArray] H' fun r H'=>∃v n_1,r=.tuple #[v,.i n_1]/\(¬n=0->(¬n_1=0->∃a,v=.pointer a/\(a=none->Ru 10 [] H' fun r H'=>∃c,r=.bool c/\R (.bool c) H')/\(¬a=none->R (.bool false) H'))/\(¬¬n_1=0->R (.bool false) H'))/\(¬¬n=0->∃cs:List Value,cs.length=9/\RdL H' p 0 cs/\Ru 24 [.agg cs.toArray,.int .u16 x1] H' fun r H'=>∃n,r=.i n/\∃cs:List Value,cs.length=2/\RdL H' p 3 cs/\∃cs_1:List Value,cs_1.length=2/\RdL H' p 5 cs_1/\∃a l c,rd H' p 1=some (.slice a l c)/\∃a l_1 c,rd H' p 2=some (.slice a l_1 c)/\Ru 27 [.agg cs.toArray,.agg cs_1.toArray,.i (↑l:Int),.slice a l_1 c] H' fun r H'=>∃v_1 n_2,r=.tuple #[v_1,.i n_2]/\∃a l c,rd H' p 1=some (.slice a l c)/\Ru 28 [v_1,.slice a l c,.i n] H' fun r H'=>∃a l c n_3,r=.tuple #[.slice a l c,.i n_3]/\∃n_4,rd H' p_1 3=some (.i n_4)/\Ru 29 [.i n,.i n_4] H' fun r H'=>∃v_2 n_5,r=.tuple #[v_2,.i n_5]/\∃(J:Heap->Prop),((¬n_1=0->R (.bool false) H')/\(¬¬n_1=0->∃a,v=.pointer a/\(a=none->R (.bool false) H')/\(¬a=none->(¬n_2=0->R (.bool false) H')/\(¬¬n_2=0->(¬n_3=0->R (.bool false) H')/\(¬¬n_3=0->(¬n_5=0->R (.bool false) H')/\(¬¬n_5=0->∃a,v_2=.pointer a/\(a=none->R (.bool false) H')/\(¬a=none->I64 (n+(1:Int))/\(¬(↑l:Int)=n+(1:Int)->R (.bool false) H')/\(¬¬(↑l:Int)=n+(1:Int)->∃n,rd H' p 8=some (.i n)/\Ru 30 [v] H' fun r H'=>∃a l c,r=.slice a l c/\rd H' p 8=some (.i n)/\(¬(↑l:Int)=n->R (.bool false) H')/\(¬¬(↑l:Int)=n->J H')))))))))/\∀H,J H->∃n_6,rd H p_1 3=some (.i n_6)/\((0:Int)<=n_6/\n_6<=n_6/\(8:Int)*n_6<=(281474976710656:Int)/\I64 n_6)/\∀H' q,New H (rep (n_6.toNat) [.i 0]) 3 H' q->∀H'_2 p_2,New H' [.i 0,.i 0,.slice (some ⟨q,0,none⟩) (n_6.toNat) (n_6.toNat)] 89 H'_2 p_2->∃(J:Value->Heap->Prop),(∃(I:Value->Int->Int->Heap->Prop),∃(μ:Value->Int->Int->Heap->Nat),I v (0:Int) (0:Int) H'_2/\∀H v n_7 n_8,I v n_7 n_8 H->Ru 31 [v] H fun r H'=>∃c,r=.bool c/\((!c)=true->∃(J:Value->Heap->Prop),((n_8=x2->Ru 32 [v] H' fun r H'=>∃a l c n,r=.tuple #[.slice a l c,.i n]/\∃cs:List Value,cs.length=9/\RdL H' p 0 cs/\Ru 33 [.agg cs.toArray,.slice a l c] H' fun r H'=>∃v n_9,r=.tuple #[v,.i n_9]/\(¬n=0->R (.bool false) H')/\(¬¬n=0->(¬n_9=0->R (.bool false) H')/\(¬¬n_9=0->∃a,v=.pointer a/\(a=none->R (.bool false) H')/\(¬a=none->J v H'))))/\(¬n_8=x2->J v H'))/\∀H_1 v_3,J v_3 H_1->∃(J:Int->Heap->Prop),(∃(I:Int->Heap->Prop),∃(μ:Int->Heap->Nat),I n_7 H_1/\∀H n_9,I n_9 H->Ru 11 [v_3] H fun r H'=>∃c,r=.bool c/\(c=true->I64 (n_9+(1:Int))/\I64 (n+(1:Int))/\(n+(1:Int)<n_9+(1:Int)->R (.bool false) H')/\(¬n+(1:Int)<n_9+(1:Int)->Ru 14 [v_3,.bool (decide (n_9+(1:Int)<=n))] H' fun r H'=>∃n,r=.i n/\(¬n=0->R (.bool false) H')/\(¬¬n=0->I (n_9+(1:Int)) H'/\μ (n_9+(1:Int)) H'<μ n_9 H)))/\(c=false->J n_9 H'))/\∀H_2 n_9,J n_9 H_2->Ru 31 [v_3] H_2 fun r H'=>∃c,r=.bool c/\(c=true->R (.bool false) H')/\(c=false->Ru 12 [v_3] H' fun r H'=>∃cs:List Value,cs.length=2/\∃c n_10,r=.tuple #[.agg cs.toArray,.bool c,.i n_10]/\∀H'_3 p_3,New H' [.i 0,.i 0] 39 H'_3 p_3->cs.length=2/\(∀v∈cs,One v)/\WOk H'_3 p_3 0 2/\∀H',H'=wrL H'_3 p_3 0 cs->∃(J:Heap->Prop),(((!c)=true->R (.bool false) H')/\((!c)=false->(¬n_10=0->R (.bool false) H')/\(¬¬n_10=0->J H')))/\∀H_3,J H_3->∃(J:Heap->Prop),(∃n,rd H_3 p 0=some (.i n)/\(n=(3:Int)->Ru 16 [v_3] H_3 fun r H'=>∃cs:List Value,cs.length=3/\r=.agg cs.toArray/\True/\∃(v:Value),cs[0]?=some v/\∃n,v=.i n/\WOk H' p_2 0 1/\∀H'_4,H'_4=wr H' p_2 0 (.i n)->J H'_4)/\(¬n=3->∃cs:List Value,cs.length=2/\RdL H_3 p_3 0 cs/\Ru 34 [v_2,.agg cs.toArray] H_3 fun r H'=>∃n,r=.i n/\(¬n=0->R (.bool false) H')/\(¬¬n=0->∃cs:List Value,cs.length=2/\RdL H' p_3 0 cs/\Ru 35 [.p p_2 0,.agg cs.toArray] H' fun r H'=>∃n,rd H' p_2 1=some (.i n)/\∃n_11,rd H' p_1 3=some (.i n_11)/\(n_11<n->R (.bool false) H')/\(¬n_11<n->∃n,rd H' p_1 0=some (.i n)/\∃n_12,rd H' p_1 2=some (.i n_12)/\∃n_13,rd H' p_2 1=some (.i n_13)/\I64 (n_12*n_13)/\I64 (n+n_12*n_13)/\Ru 36 [v_3] H' fun r H'=>∃n_14,r=.i n_14/\rd H' p_2 1=some (.i n_13)/\rd H' p_1 2=some (.i n_12)/\rd H' p_1 0=some (.i n)/\(¬n_14=n+n_12*n_13->R (.bool false) H')/\(¬¬n_14=n+n_12*n_13->J H')))))/\∀H_4,J H_4->∃n_11,rd H_4 p_2 0=some (.i n_11)/\(n_11<(0:Int)->R (.bool false) H_4)/\(¬n_11<(0:Int)->∃n_12,rd H_4 p_2 0=some (.i n_12)/\(n<n_12->R (.bool false) H_4)/\(¬n<n_12->∃n,rd H_4 p_2 0=some (.i n)/\∃b o,At a b o/\((0:Int)<=n/\n<(↑l:Int))/\∃a l c,rd H_4 b (o+n.toNat)=some (.slice a l c)/\Ru 38 [v_3] H_4 fun r H'=>∃a_15 l_2 c_1,r=.slice a_15 l_2 c_1/\rd H' b (o+n.toNat)=some (.slice a l c)/\rd H' p_2 0=some (.i n)/\Ru 37 [.slice a_15 l_2 c_1,.slice a l c] H' fun r H'=>∃c,r=.bool c/\((!c)=true->R (.bool false) H')/\((!c)=false->∃n,rd H' p 8=some (.i n)/\Ru 36 [v_3] H' fun r H'=>∃n_13,r=.i n_13/\rd H' p 8=some (.i n)/\(n<n_13->R (.bool false) H')/\(¬n<n_13->∃n,rd H' p 8=some (.i n)/\Ru 39 [v_3] H' fun r H'=>∃n_14,r=.i n_14/\rd H' p 8=some (.i n)/\(n<n_14->R (.bool false) H')/\(¬n<n_14->I64 (n_8+(1:Int))/\I v_3 n_9 (n_8+(1:Int)) H'/\μ v_3 n_9 (n_8+(1:Int)) H'<μ v n_7 n_8 H)))))))/\((!c)=false->J v H'))/\∀H v,J v H->Ru 18 [v] H fun r H'=>∃cs:List Value,cs.length=3/\∃n_7,r=.tuple #[.agg (List.toArray cs),.i n_7]/\∀H'_3 p_3,New H' [.int .u64 0,.slice none 0 0,.slice none 0 0] 53 H'_3 p_3->cs.length=3/\(∀v∈cs,One v)/\WOk H'_3 p_3 0 3/\∀H',H'=wrL H'_3 p_3 0 cs->∃(cs:List Value),cs.length=2/\RdL H' p 3 cs/\∃cs_2:List Value,cs_2.length=2/\RdL H' p 5 cs_2/\∃a l c,rd H' p 1=some (.slice a l c)/\∃a_4 l_2 c_1,rd H' p 2=some (.slice a_4 l_2 c_1)/\Ru 19 [.agg cs.toArray,.agg cs_2.toArray,.slice a l c,.slice a_4 l_2 c_1,.i n] H' fun r H'=>∃cs:List Value,cs.length=3/\∃n_8,r=.tuple #[.agg cs.toArray,.i n_8]/\∀H'_4 p_4,New H' [.int .u64 0,.slice none 0 0,.slice none 0 0] 53 H'_4 p_4->cs.length=3/\(∀v∈cs,One v)/\WOk H'_4 p_4 0 3/\∀H',H'=wrL H'_4 p_4 0 cs->(n_7=0->(n_8=(0:Int)->∃cs:List Value,cs.length=3/\RdL H' p_3 0 cs/\∃cs_3:List Value,cs_3.length=3/\RdL H' p_4 0 cs_3/\Ru 20 [.agg cs.toArray,.agg cs_3.toArray] H' fun r H'=>∃c,r=.bool c/\(c=true->∃n_9,rd H' p 0=some (.i n_9)/\(n_9=3->∃cs:List Value,cs.length=9/\RdL H' p 0 cs/\∃n_10,rd H' p_1 3=some (.i n_10)/\Ru 42 [v] H' fun r H'=>∃(cs_4:List Value),cs_4.length=4/\r=.agg cs_4.toArray/\rd H' p_1 3=some (.i n_10)/\RdL H' p 0 cs/\Ru 41 [.agg cs.toArray,.i n,.i n_10,.agg cs_4.toArray] H' fun r H'=>∃c,r=.bool c/\(c=true->∃n,rd H' p 8=some (.i n)/\Ru 30 [v] H' fun r H'=>∃a l c,r=.slice a l c/\rd H' p 8=some (.i n)/\((↑l:Int)=n->Ru 10 [] H' fun r H'=>∃c,r=.bool c/\R (.bool c) H')/\(¬(↑l:Int)=n->R (.bool false) H'))/\(c=false->R (.bool false) H'))/\(¬n_9=3->Ru 40 [v_2] H' fun r H'=>∃c,r=.bool c/\(c=true->∃cs:List Value,cs.length=9/\RdL H' p 0 cs/\∃n_10,rd H' p_1 3=some (.i n_10)/\Ru 42 [v] H' fun r H'=>∃cs_4:List Value,cs_4.length=4/\r=.agg cs_4.toArray/\rd H' p_1 3=some (.i n_10)/\RdL H' p 0 cs/\Ru 41 [.agg cs.toArray,.i n,.i n_10,.agg cs_4.toArray] H' fun r H'=>∃c,r=.bool c/\(c=true->∃n,rd H' p 8=some (.i n)/\Ru 30 [v] H' fun r H'=>∃a l c,r=.slice a l c/\rd H' p 8=some (.i n)/\((↑l:Int)=n->Ru 10 [] H' fun r H'=>∃c,r=.bool c/\R (.bool c) H')/\(¬(↑l:Int)=n->R (.bool false) H'))/\(c=false->R (.bool false) H'))/\(c=false->R (.bool false) H')))/\(c=false->R (.bool false) H'))/\(¬n_8=0->R (.bool false) H'))/\(¬n_7=0->R (.bool false) H'))):Ru 6 [.agg x0.toArray,.int .u16 x1,.i x2] H R:=vcr ⟨fun|14=>some [(9,.val),(19,.int .i64),(20,.int .i64)]|22=>some [(19,.int .i64)]|_=>none,fun|11=>some []|22=>some [(9,.val)]|26=>some [(19,.int .i64)]|31=>some []|38=>some []|40=>some [(9,.val)]|_=>none⟩ [.agg x0,.int .u16 x1,.int .i64 x2] h
theorem v10  (h:Ru 51 [] H fun r H'=>∃cs:List Value,cs.length=9/\r=.agg cs.toArray/\∀H'_1 p,New H' [.i 0,.slice none 0 0,.slice none 0 0,.i 0,.slice none 0 0,.i 0,.slice none 0 0,.i 0,.i 0] 27 H'_1 p->cs.length=9/\(∀v∈cs,One v)/\WOk H'_1 p 0 9/\∀H',H'=wrL H'_1 p 0 cs->2=2/\(∀v∈[.i 3,.slice none 0 0],One v)/\WOk H' p 3 2/\∀H'_2,H'_2=wrL H' p 3 [.i 3,.slice none 0 0]->(5=5/\5=5/\5=5/\5=5)/\∀H' q,New H'_2 [.i 3,.i 2,.i 0,.i 0,.int .u64 0,.i 1,.i 0,.int .i64 0,.i 2,.int .u64 0,.i 5,.i 2,.i 0,.i 0,.int .u64 9223372036854775808,.i 3,.i 0,.i 0,.i 2,.int .u64 0] 74 H' q->List.length (α:=Value) [.i 3,.slice (some ⟨q,0,none⟩) 4 4]=2/\(∀v∈[.i 3,.slice (some ⟨q,0,none⟩) 4 4],One v)/\WOk H' p 5 2/\∀H'_3,H'_3=wrL H' p 5 [.i 3,.slice (some ⟨q,0,none⟩) 4 4]->∃(cs:List Value),cs.length=9/\RdL H'_3 p 0 cs/\Ru 9 [.agg cs.toArray] H'_3 fun r H'=>∃v n,r=.tuple #[v,.i n]/\∃(J:Heap->Prop),((¬n=0->R (.bool false) H')/\(¬¬n=0->∃a,v=.pointer a/\(a=none->R (.bool false) H')/\(¬a=none->J H')))/\∀H,J H->Ru 17 [v] H fun r H'=>∃n n_1,r=.tuple #[.i n,.i n_1]/\Ru 18 [v] H' fun r H'=>∃cs:List Value,List.length cs=3/\∃n,r=.tuple #[.agg cs.toArray,.i n]/\∀H'_4 p,New H' [.int .u64 0,.slice none 0 0,.slice none 0 0] 53 H'_4 p->cs.length=3/\(∀v∈cs,One v)/\WOk H'_4 p 0 3/\∀H',H'=wrL H'_4 p 0 cs->(n_1=0->(n=0->Ru 31 [v] H' fun r H'=>∃c,r=.bool c/\(c=true->∃cs:List Value,cs.length=3/\RdL H' p 0 cs/\∀H'_5 q,New H' [.int .u64 9223372036854775808] 51 H'_5 q->∀H' q_1,New H'_5 [.int .u64 0] 51 H' q_1->Ru 20 [.agg cs.toArray,.agg #[.int .u64 0,.slice (some ⟨q,0,none⟩) 1 1,.slice (some ⟨q_1,0,none⟩) 1 1]] H' fun r H'=>∃c,r=.bool c/\R (.bool c) H')/\(c=false->R (.bool false) H'))/\(¬n=0->R (.bool false) H'))/\(¬n_1=0->R (.bool false) H')):Ru 10 [] H R:=vcr ⟨fun _=>none,fun|7=>some []|_=>none⟩ [] h
theorem v24 (x0:List Value)(x1:Int)(h:∀H' p,New H x0 27 H' p->∃n,rd H' p 0=some (.i n)/\(n=2->I64 x1/\R (.i x1) H')/\(¬n=2->∃n,rd H' p 7=some (.i n)/\R (.i n) H')):Ru 24 [.agg x0.toArray,.int .u16 x1] H R:=vcr nn [.agg x0,.int .u16 x1] h
theorem v35 (x0 o0:Nat)(x1:List Value)(h:∀H' p,New H x1 39 H' p->∃n,rd H' p 0=some (.i n)/\(n=1->∃n,rd H' x0 o0=some (.i n)/\∃n_1,rd H' p 1=some (.i n_1)/\I64 (n+n_1)/\WOk H' x0 o0 1/\∀H'_1,H'_1=wr H' x0 o0 (.i (n+n_1))->R (.tuple #[]) H'_1)/\(¬n=1->(n=2->∃a l c,rd H' x0 (o0+2)=some (.slice a l c)/\∃n,rd H' p 1=some (.i n)/\∃n_1,rd H' x0 o0=some (.i n_1)/\∃b o,At a b o/\((0:Int)<=n/\n<(↑l:Int))/\WOk H' b (o+n.toNat) 1/\∀H'_1,H'_1=wr H' b (o+n.toNat) (.i n_1)->∃n,rd H'_1 x0 (o0+1)=some (.i n)/\I64 (n+(1:Int))/\WOk H'_1 x0 (o0+1) 1/\∀H',H'=wr H'_1 x0 (o0+1) (.i (n+(1:Int)))->R (.tuple #[]) H')/\(¬n=2->(n=3->∃a l c,rd H' x0 (o0+2)=some (.slice a l c)/\∃n,rd H' p 1=some (.i n)/\∃b o,At a b o/\((0:Int)<=n/\n<(↑l:Int))/\∃n_1,rd H' b (o+n.toNat)=some (.i n_1)/\WOk H' x0 o0 1/\∀H'_1,H'_1=wr H' x0 o0 (.i n_1)->R (.tuple #[]) H'_1)/\(¬n=3->(n=(4:Int)->∃a l c,rd H' x0 (o0+2)=some (.slice a l c)/\∃n,rd H' p 1=some (.i n)/\∃b o,At a b o/\((0:Int)<=n/\n<(↑l:Int))/\WOk H' b (o+n.toNat) 1/\∀H'_1,H'_1=wr H' b (o+n.toNat) (.i (-1))->∃n,rd H'_1 x0 (o0+1)=some (.i n)/\I64 (n-(1:Int))/\WOk H'_1 x0 (o0+1) 1/\∀H',H'=wr H'_1 x0 (o0+1) (.i (n-(1:Int)))->R (.tuple #[]) H')/\(¬n=4->R (.tuple #[]) H'))))):Ru 35 [.p x0 o0,.agg x1.toArray] H R:=vcr nn [.ptr x0 o0,.agg x1] h
theorem v41 (x0:List Value)(x1:Int)(x2:Int)(x3:List Value)(h:∀H' p,New H x0 27 H' p->∀H'_1 p_1,New H' x3 64 H'_1 p_1->∃n,rd H'_1 p 0=some (.i n)/\(n=1->Ru 85 [.i x1,.i x2] H'_1 fun r H'=>∃n n_1,r=.tuple #[.i n,.i n_1]/\(n_1=0->∃cs:List Value,cs.length=4/\RdL H' p_1 0 cs/\I64 (x1+(1:Int))/\∃c,IsB Tryz.prog (cmpS BinOp.eql 64 (Operand.tmp 25) (Operand.tmp 30) (.agg cs.toArray) (.agg #[.i n,.i x1,.i 1,.i (x1+(1:Int))])) c/\R (.bool c) H')/\(¬n_1=0->R (.bool false) H'))/\(¬n=1->∃n,rd H'_1 p 0=some (.i n)/\(n=2->Ru 86 [.i x1,.i x2] H'_1 fun r H'=>∃n n_1,r=.tuple #[.i n,.i n_1]/\(n_1=0->∃n_2,rd H' p_1 0=some (.i n_2)/\(n_2=n->I64 (n-x1)/\I64 (x2*(n-x1))/\I64 (x1*x1)/\(x2*(n-x1)<=x1*x1->(x2<=x1->R (.bool true) H')/\(¬x2<=x1->R (.bool (decide (n=x1))) H'))/\(¬x2*(n-x1)<=x1*x1->R (.bool false) H'))/\(¬n_2=n->R (.bool false) H'))/\(¬n_1=0->R (.bool false) H'))/\(¬n=2->R (.bool true) H'_1))):Ru 41 [.agg x0.toArray,.i x1,.i x2,.agg x3.toArray] H R:=vcr nn [.agg x0,.int .i64 x1,.int .i64 x2,.agg x3] h
theorem v51  (h:∀H' p,New H [.i 0,.slice none 0 0,.slice none 0 0,.i 0,.slice none 0 0,.i 0,.slice none 0 0,.i 0,.i 0] 27 H' p->∀H'_1 q,New H' [.int .u64 5] 51 H'_1 q->∀H' q_1,New H'_1 [.int .u64 2] 51 H' q_1->5=5/\∀H'_2 q_2,New H' [.i 1,.i 0,.i 0,.i 2,.int .u64 0] 74 H'_2 q_2->(List.length (α:=Value) [.i 3,.slice (some ⟨q_2,0,none⟩) 1 1]=2/\2=2)/\List.length (α:=Value) [.i 1,.slice (some ⟨q,0,none⟩) 1 1,.slice (some ⟨q_1,0,none⟩) 1 1,.i 3,.slice (some ⟨q_2,0,none⟩) 1 1,.i 2,.slice none 0 0,.i 3,.i 100]=9/\(∀(v:Value),v∈[.i 1,.slice (some ⟨q,0,none⟩) 1 1,.slice (some ⟨q_1,0,none⟩) 1 1,.i 3,.slice (some ⟨q_2,0,none⟩) 1 1,.i 2,.slice none 0 0,.i 3,.i 100]->One v)/\WOk H'_2 p 0 9/\∀H',H'=wrL H'_2 p 0 [.i 1,.slice (some ⟨q,0,none⟩) 1 1,.slice (some ⟨q_1,0,none⟩) 1 1,.i 3,.slice (some ⟨q_2,0,none⟩) 1 1,.i 2,.slice none 0 0,.i 3,.i 100]->∃(cs:List Value),cs.length=9/\RdL H' p 0 cs/\R (.agg cs.toArray) H'):Ru 51 [] H R:=vcr nn [] h
end Go.VC
namespace Go.VC
open Go Go.Proofs
def ops4:List Op:=[⟨3,2,0,0,0⟩,⟨1,0,0,2,0⟩,⟨5,2,0,0,9223372036854775808⟩,⟨3,0,0,2,0⟩]
def tree4:Tree:=.op ⟨3,2,0,0,0⟩ (.op ⟨1,0,0,2,0⟩ (.op ⟨5,2,0,0,9223372036854775808⟩ (.op ⟨3,0,0,2,0⟩ .nil)))
def hw:Hdr:=⟨1,[5],[2],⟨3,[]⟩,⟨3,ops4⟩,3,100⟩
theorem good_none:GoodP hw.step .nil:=⟨⟨by decide,by decide,by decide⟩,⟨by decide,by decide,by decide⟩,trivial,rfl,by decide,trivial,by decide⟩
theorem good_four:GoodP hw.loss tree4:=⟨⟨by decide,by decide,by decide⟩,⟨by decide,by decide,by decide⟩,⟨by decide,by decide,by decide,by decide,by decide,by decide,by decide,by decide,trivial⟩,rfl,by decide,trivial,by decide⟩
theorem plan_hw:PlanOk hw:=by
 have hl:(wr_ hw.loss:Int)=4:=by rw[wr_eq good_four];rfl
 have hs:(wr_ hw.step:Int)=0:=by rw[wr_eq good_none];rfl
 refine⟨⟨by decide,⟨_,good_none⟩,⟨_,good_four⟩,by unfold dimsOk;decide,by unfold lenOk;decide,by decide⟩,?_⟩
 have e1:fixedOf hw=13:=by
  unfold fixedOf partsOf
  simp only[hw]
  decide
 have e2:tapeOf hw=4:=by
  show (if hw.mode=3 then (wr_ hw.loss:Int) else (wr_ hw.step:Int)+wr_ hw.loss)=4
  rw[hl,hs];rfl
 have e3:slotOf hw=2:=by
  show (if hw.mode=3 then (wr_ hw.step:Int)+hw.step.regs else (hw.x.length:Int)+1)=2
  rw[hs];rfl
 rw[e1,e2,e3];decide
theorem unr_none:unr hw.step=[]:=unr_eq good_none
theorem unr_four:unr hw.loss=ops4:=unr_eq good_four
theorem st_hw:∀t,st hw t=[5]
 | 0=>rfl
 | t+1=>by
  rw[st,st_hw t,stepOut,unr_none]
  rfl
theorem loss_hw:lossOf hw 3=0:=by
 rw[lossOf,st_hw,lossOut,unr_four];decide
theorem grad_hw:∀k,grad hw 3 k=([9223372036854775808],[0])
 | 0=>by
  simp only[grad,pullLoss,lossTape,lossOut,st_hw,unr_four]
  decide
 | k+1=>by
  have ih:=grad_hw k
  simp only[grad,ih,pullStep,stepTape,stepOut,st_hw,unr_none]
  rfl
theorem ERun.l {h:Hdr}{ended:Bool}{d tags d' tags'}(r:ERun h ended d tags d' tags'):d'.l=d.l:=by
 induction r with
 | refl=>rfl
 | step _ _ _ ih=>rw[ih];rfl
theorem d0_cnt (h:Hdr)(x:Int):DCnt (d0 h x) 0:=⟨by simp[d0],by simp[d0],by simp[d0],by simp[d0]⟩
theorem c10 {H:Heap}{R:Value->Heap->Prop}(k:∀H',Ext H H'->R (.bool true) H'):Ru 10 [] H R:=by
 refine v10 (v51 fun H1 p n1 H2 qx n2 H3 qt n3=>⟨rfl,fun H4 qo n4=>⟨⟨rfl,rfl⟩,rfl,?_,?_,fun H5 h5=>?_⟩⟩)
 ·intro x hx;simp at hx;rcases hx with rfl|rfl|rfl|rfl|rfl|rfl|rfl|rfl|rfl<;>trivial
 ·exact (((n1.own.mod n2.mod (by simp)).mod n3.mod (by simp)).mod n4.mod (by simp)).w 0 9 rfl
 have op:=((n1.own.mod n2.mod (by simp)).mod n3.mod (by simp)).mod n4.mod (by simp)
 have e5:Ext H H5:=(((n1.mod.new n2).new n3).new n4).trans_new (wrLM h5) (by have:=n1.ge;simpa using this)
 have ox:Own H5 qx [.int .u64 5]:=((n2.own.mod n3.mod (by simp)).mod n4.mod (by simp)).mod (wrLM h5) (by have:=n1.lt;have:=n2.ge;simp;omega)
 have ot:Own H5 qt [.int .u64 2]:=(n3.own.mod n4.mod (by simp)).mod (wrLM h5) (by have:=n1.lt;have:=n2.mod.1;have:=n3.ge;simp;omega)
 refine⟨[.int .i64 1,.slice (some ⟨qx,0,none⟩) 1 1,.slice (some ⟨qt,0,none⟩) 1 1,.int .i64 3,.slice (some ⟨qo,0,none⟩) 1 1,.int .i64 2,.slice none 0 0,.int .i64 3,.int .i64 100],rfl,by rw[h5];exact rdL_wrL op.2,?_⟩
 refine⟨[.int .i64 1,.slice (some ⟨qx,0,none⟩) 1 1,.slice (some ⟨qt,0,none⟩) 1 1,.int .i64 3,.slice (some ⟨qo,0,none⟩) 1 1,.int .i64 2,.slice none 0 0,.int .i64 3,.int .i64 100],rfl,rfl,fun H6 s n6=>⟨rfl,?_,n6.own.w 0 9 rfl,fun H7 h7=>⟨rfl,?_,?_,fun H8 h8=>⟨⟨rfl,rfl,rfl,rfl⟩,fun H9 ql n9=>⟨rfl,?_,?_,fun Ha ha=>?_⟩⟩⟩⟩⟩
 ·intro x hx;simp at hx;rcases hx with rfl|rfl|rfl|rfl|rfl|rfl|rfl|rfl|rfl<;>trivial
 ·intro x hx;simp at hx;rcases hx with rfl|rfl<;>trivial
 ·exact (tmpE (cs:=[.int .i64 1,.slice (some ⟨qx,0,none⟩) 1 1,.slice (some ⟨qt,0,none⟩) 1 1,.int .i64 3,.slice (some ⟨qo,0,none⟩) 1 1,.int .i64 2,.slice none 0 0,.int .i64 3,.int .i64 100]) n6 rfl h7).2.w 3 2 rfl
 ·intro x hx;simp at hx;rcases hx with rfl|rfl<;>trivial
 ·obtain⟨e7,o7⟩:=tmpE (cs:=[.int .i64 1,.slice (some ⟨qx,0,none⟩) 1 1,.slice (some ⟨qt,0,none⟩) 1 1,.int .i64 3,.slice (some ⟨qo,0,none⟩) 1 1,.int .i64 2,.slice none 0 0,.int .i64 3,.int .i64 100]) n6 rfl h7
  have o8:=o7.wrL 3 [.int .i64 3,.slice none 0 0] (by simp)
  rw[<-h8] at o8
  exact (o8.mod n9.mod (by simp)).w 5 2 rfl
 obtain⟨e7,o7⟩:=tmpE (cs:=[.int .i64 1,.slice (some ⟨qx,0,none⟩) 1 1,.slice (some ⟨qt,0,none⟩) 1 1,.int .i64 3,.slice (some ⟨qo,0,none⟩) 1 1,.int .i64 2,.slice none 0 0,.int .i64 3,.int .i64 100]) n6 rfl h7
 have o8:=o7.wrL 3 [.int .i64 3,.slice none 0 0] (by simp)
 rw[<-h8] at o8
 have o9:=o8.mod n9.mod (by simp)
 have oa:=o9.wrL 5 [.int .i64 3,.slice (some ⟨ql,0,none⟩) 4 4] (by simp)
 rw[<-ha] at oa
 have s5:H5.size<=s:=n6.ge
 have m58:Ext H5 H8:=e7.trans_new (wrLM h8) (by simpa using s5)
 have m5a:Ext H5 Ha:=(m58.new n9).trans_new (wrLM ha) (by simpa using s5)
 have hsq:s≠ql:=by have:=n6.lt;have:=n9.ge;have:H8.size=H6.size:=(by rw[h8,h7,wrL_size,wrL_size]);omega
 have ol:Own Ha ql (opsC ops4):=n9.own.mod (wrLM ha) (by simpa using Ne.symm hsq)
 have e0a:=e5.thenExt m5a
 let P:HAt:=⟨some ⟨qx,0,none⟩,1,some ⟨qt,0,none⟩,1,none,0,some ⟨ql,0,none⟩,4⟩
 have rows:HRows Ha hw P:=⟨⟨rfl,.inr ⟨qx,0,rfl,(ox.mod m5a (by simp)).1⟩⟩,⟨rfl,.inr ⟨qt,0,rfl,(ot.mod m5a (by simp)).1⟩⟩,⟨rfl,.inl rfl⟩,⟨rfl,.inr ⟨ql,0,rfl,ol.1⟩⟩,by decide,by decide,by decide,by decide⟩
 refine⟨hdrC hw P,rfl,oa.1,c9 hw P rows (fun hp Hb be b eng _ hbe hbl eb _=>⟨_,_,rfl,?_⟩) fun n _ _ hn _=>(hn plan_hw).elim⟩
 have eng:=eng (by decide)
 refine⟨fun H'=>H'=Hb,⟨fun h=>(h rfl).elim,fun _=>⟨_,rfl,fun h=>by simp at h,fun _=>rfl⟩⟩,?_⟩
 intro Hb' hb';subst hb'
 have hm1:hw.mode=1:=rfl
 have hmu:=offM_bound (off_first hp hm1)
 have hl3:(d0 hw (fixedOf hw)).l=3:=rfl
 rw[hl3] at hmu
 refine c17 eng (.inl hm1) (off_inv hm1 false) (off_first hp hm1) (B:=0) (d0_cnt _ _) (by rw[hl3];omega) (by omega) fun n d' tags' s' Hc hnone hinv hrun engc mc=>⟨_,_,rfl,?_⟩
 have hpend:d'.pend=0:=off_end hm1 hinv hnone
 have hdl:d'.l=3:=hrun.l
 have low:∀x∈[b.d,b.m,b.w],Ha.size<=x:=by
  intro x hx;simp at hx
  rename_i di _ _
  rcases hx with rfl|rfl|rfl
  ·exact di.d
  ·exact di.m
  ·exact di.w
 have e0c:Ext H Hc:=(e0a.thenExt eb).trans_new mc (fun x hx=>.inr (Nat.le_trans e0a.1 (low x hx)))
 obtain⟨g1,g2,g3⟩:=engc.sem.gr (by omega)
 rw[hdl,hpend] at g1 g2
 rw[hdl] at g3
 have g1':s'.ax=[9223372036854775808]:=by rw[g1];exact congrArg Prod.fst (grad_hw _)
 have g2':s'.ag=[0]:=by rw[g2];exact congrArg Prod.snd (grad_hw _)
 have g3':d'.loss=0:=by rw[g3];exact loss_hw
 refine c18 engc hpend fun Hd a1 c1 a2 c2 rx rt ed=>⟨_,rfl,_,rfl,fun He pe ne=>⟨rfl,?_,ne.own.w 0 3 rfl,fun Hf hf=>⟨fun _=>⟨fun _=>?_,fun h=>(h rfl).elim⟩,fun h=>(h rfl).elim⟩⟩⟩
 ·intro x hx;simp at hx;rcases hx with rfl|rfl|rfl<;>trivial
 obtain⟨ef,of⟩:=tmpE (cs:=[.int .u64 (d'.loss.toNat:Int),.slice a1 (nX hw) c1,.slice a2 (nT hw) c2]) ne rfl hf
 have ecf:=ed.thenExt ef
 refine c31 (engc.ext ecf) (.inl hm1) fun Hg eg=>⟨_,rfl,fun _=>?_,fun h=>by rw[hnone,hpend] at h;simp at h⟩
 refine⟨_,rfl,eg.rdL (by simp) of.1,fun Hh q1 nh Hi q2 ni=>?_⟩
 have efi:=(eg.new nh).new ni
 rw[g3']
 rw[g1'] at rx
 rw[g2'] at rt
 refine c20 (w:=0) (x:=[9223372036854775808]) (y:=[0]) (Ext.row (ef.thenExt efi) rx) (Ext.row (ef.thenExt efi) rt) ⟨rfl,.inr ⟨q1,0,rfl,ni.mod.rdL (by simp) nh.rdL⟩⟩ ⟨rfl,.inr ⟨q2,0,rfl,ni.rdL⟩⟩ (by decide) (by decide) fun Hj ej=>⟨_,rfl,k Hj (((e0c.thenExt ecf).thenExt efi).thenExt ej)⟩
end Go.VC
namespace Go.VC
open Go Go.Proofs
structure Ahead (d:DS)(tags:List Int):Prop where
 pd:d.pend = -1
 inv:AInv d.l d.at_ tags
 cnt:DCnt d (65535*(4194304*(d.l+1)-aM d.l d.at_ tags))
theorem enext_ahead {h:Hdr}(hm:h.mode=2){d:DS}{tags:List Int}(hp:d.pend = -1)(ended:Bool):enext h d tags ended=strideNext d.l ended d.at_ (-1) tags:=by
 unfold enext;rw[if_neg (by omega),hp]
theorem Ahead.step {h:Hdr}{d:DS}{tags:List Int}(w:Ahead d tags){k n:Int}{m:MS1}(hs:mstep (dMS d tags) k n=some m)(hp:m.pend = -1)(hi:AInv d.l m.at_ m.tags)(hM:aM d.l m.at_ m.tags<aM d.l d.at_ tags):Ahead (dact h d k n m) m.tags:=by
 refine⟨hp,hi,(dcnt_step hs w.cnt).mono ?_⟩
 show 65535*(4194304*(d.l+1)-aM d.l d.at_ tags)+65535<=65535*(4194304*(d.l+1)-aM d.l m.at_ m.tags)
 omega
theorem Ahead.more {d:DS}{tags:List Int}(w:Ahead d tags)(hf:AFull d.l d.at_ tags)(hl:d.l<65535):Ahead { d with l:=d.l+1 } tags:=by
 have h1:=a_more hf hl
 have b1:=aM_bound h1
 have b2:=aM_bound w.inv
 refine⟨w.pd,h1,?_⟩
 obtain⟨p,t,l,s⟩:=w.cnt
 refine DCnt.mono (A:=65535*(4194304*(d.l+1)-aM d.l d.at_ tags)) ⟨p,t,l,s⟩ ?_
 show _<=65535*(4194304*(d.l+1+1)-aM (d.l+1) d.at_ tags)
 omega
theorem Ahead.first {h:Hdr}(hp:PlanOk h)(hm:h.mode=2):Ahead (d0 h (fixedOf h)) (tags0 h):=by
 obtain⟨h1,h2⟩:=str_first hp hm
 refine⟨rfl,by rw[h1];exact h2,(d0_cnt _ _).mono ?_⟩
 have:=aM_bound h2
 rw[h1]
 show 0<=65535*(4194304*(0+1)-aM 0 0 (tags0 h))
 omega
end Go.VC
namespace Go.VC
open Go Go.Proofs
variable {H:Heap}{R:Value->Heap->Prop}
theorem bwd_back:∀(us:List Op) (r adj:List UInt64),(∀o∈us,RegOk r.length o)->(bwd (us.zip (taped us r)).reverse (fwd us r,adj)).1=r
 | [],r,adj,_=>rfl
 | o ::us,r,adj,h=>by
  have ih:=bwd_back us (wStep o r) adj fun x hx=>by rw[wStep_length];exact h x (List.mem_cons_of_mem _ hx)
  obtain⟨r1,r2,_⟩:=h o (List.mem_cons_self ..)
  simp only[taped,fwd,List.zip_cons_cons,List.reverse_cons,bwd_append]
  show (bStep o (rg r o.d) (bwd (us.zip (taped us (wStep o r))).reverse (fwd us (wStep o r),adj))).1=r
  simp only[bStep]
  rw[ih]
  unfold wStep
  rw[List.set_set,<-rg_get r1 r2,List.set_getElem_self]
theorem step_back {h:Hdr}(ok:OkH h){t:Nat}{x:List UInt64}(hx:x.length=nX h)(adj:List UInt64):(bwd ((unr h.step).zip (stepTape h t x)).reverse (stepOut h t x,adj)).1=stepIn h t x:=by
 refine bwd_back _ _ _ fun o ho=>?_
 rw[stepIn_length ok.dims hx]
 exact unr_reg ok.step ho
theorem stepIn_take {h:Hdr}{t:Nat}{x:List UInt64}(hx:x.length=nX h):(stepIn h t x).take (nX h)=x:=by
 unfold stepIn padTo
 rw[List.append_assoc,List.append_assoc,List.take_append_of_le_length (by omega),List.take_of_length_le (by omega)]
theorem OwnO.rowT {H:Heap}{b o:Nat}{xs:List UInt64}{l:Nat}(h:OwnO H b o (u64s xs))(hl:l<=xs.length):RowU H (some ⟨b,o,none⟩) l (xs.take l):=by
 refine⟨by simp;omega,.inr ⟨b,o,rfl,?_⟩⟩
 have:=rdL_take (k:=l) h.1
 simpa [u64s,List.map_take] using this
theorem Own.drop {H:Heap}{b:Nat}{xs:List UInt64}(h:Own H b (u64s xs))(n:Nat)(hn:n<=xs.length):OwnO H b n (u64s (xs.drop n)):=by
 refine⟨?_,wok_sub h.2 (by omega) (by simp;omega)⟩
 have:=rdL_drop (k:=n) h.1
 rw[Nat.zero_add] at this
 simpa [u64s,List.map_drop] using this
theorem slA_own {q m n l:Nat}(h:m<l):At (slA (some ⟨q,0,none⟩) m l n) q (m*n):=by
 unfold At slA
 rw[if_neg (by omega)]
 simp only[Option.map_some,Addr.add]
 split
 ·rename_i h0;rw[h0]
 ·simp
theorem c184o {b:DB}{h:Hdr}{d:DS}{s:PS}{K post:List UInt64}(v:Drv H b h d s K post){bq c1 c2 w ls lw:Nat}(t:Nat)(x:List UInt64)(hx:x.length=nX h)(hw:w=wr_ h.step)(e1:ls=nS h)(e2:lw=w)
  (hq:Own H bq (u64s (stepTape h t x++stepOut h t x))) (hdo:DOff h b [bq]) (hsw:0<=d.sweeps/\d.sweeps<=4611686018427387904)
  (k:∀H' ad,Drv H' b h { d with sweeps:=d.sweeps+1 } { s with ad:=ad,ax:=headA h (pullStep h t x s.ax),ag:=addL s.ag (restA h (pullStep h t x s.ax)) } K post->OwnO H' bq w (u64s (stepIn h t x))->Mod [b.d,b.w,bq] H H'->R (.tuple #[]) H') :
  Ru 184 [.pointer (some ⟨b.d,0,none⟩),.slice (some ⟨bq,w,none⟩) ls c1,.slice (some ⟨bq,0,none⟩) lw c2] H R:=by
 subst e1 e2
 have ok:=v.ok.1
 have hlen:=v.lens
 obtain⟨hrs,hrl⟩:=ok_regs ok
 obtain⟨d1,d2,d3,d4,d5⟩:=ok.dims
 have hsl:(stepOut h t x).length=nS h:=stepOut_length ok.dims hx
 have htl:(stepTape h t x).length=lw:=by rw[hw,stepTape,taped_length,wr_unr ok.step]
 refine v184 _ _ _ _ _ _ _ _ ⟨_,rfl,v.stepC,_,rfl,v.stepC,c121 v 5 (by omega) fun a c H1 hB e1=>⟨_,_,_,rfl,(v.ext e1).stepC,(v.ext e1).stepC,?_⟩⟩
 refine c240 h.step hB.row (by show s.ax.length<=_;rw[hlen.ax];simp only[nX];omega) hrs fun a2 c2 H2 hB2 e2=>⟨_,_,_,rfl,?_⟩
 have e12:=e1.thenExt e2
 have v2:=v.ext e12
 obtain⟨ba,rfl,hba,oa⟩:=hB2.own (by omega)
 have hpl:(padTo h.step.regs.toNat s.ax).length=h.step.regs.toNat:=padTo_length (by rw[hlen.ax];simp only[nX];omega)
 have hz:=e1.1
 have hq2:=hq.mod e12 (by simp)
 have hreg:=hq2.drop lw (by simp;omega)
 rw[List.drop_append_of_le_length (by omega),List.drop_of_length_le (by omega),List.nil_append] at hreg
 have htp:=hq2.rowT (l:=lw) (by simp;omega)
 rw[List.take_append_of_le_length (by omega),List.take_of_length_le (by omega)] at htp
 have hql:bq<H.size:=hq.lt (u64s_ne (by simp;simp only[nS] at hsl;omega))
 have hne:bq≠ba:=by omega
 refine⟨v2.stepC,c239o v2 v2.rows.s v2.rows.s1 ok.step (by simp only[nS,nL];omega) (by simp only[nX,nT];omega) hsl.symm hpl.symm hreg hsl oa hpl hB2.le htp (by omega) hne (fun _=>off_one (by simpa using hne)) (fun _ b o e hb=>by cases e;omega) ?_ hsw fun H3 v3 o3 m3=>?_⟩
 ·have f1:DOff h b [ba]:=v.fresh (by simp;omega)
  exact (hdo.app f1).mono (by simp)
 ·rw[step_back ok hx] at o3
  exact k H3 _ v3 o3 ((Mod.ext e12).trans_new m3 (by simp;omega))
theorem over_app {A K C xs:List UInt64}{o:Nat}(h:o+xs.length<=K.length):over (A++K++C) (A.length+o) xs=A++over K o xs++C:=by
 unfold over
 rw[List.append_assoc A K C,List.take_append,List.drop_append,List.take_of_length_le (by omega),List.drop_of_length_le (by omega)]
 rw[show A.length+o-A.length=o from by omega,show A.length+o+xs.length-A.length=o+xs.length from by omega,List.nil_append]
 rw[List.take_append_of_le_length (by omega),List.drop_append_of_le_length (by omega)]
 simp
noncomputable def keptRow (h:Hdr)(t:Nat):List UInt64:=stepTape h t (st h t)++stepOut h t (st h t)
def Kept (h:Hdr)(S:Nat)(K:List UInt64)(n:Nat):Prop:=∀i,i<n->(K.drop (i*S)).take S=keptRow h i
theorem Kept.put {h:Hdr}{S:Nat}{K:List UInt64}{t:Nat}(w:Kept h S K t)(hl:(keptRow h t).length=S)(hk:(t+1)*S<=K.length):Kept h S (over K (t*S) (keptRow h t)) (t+1):=by
 intro i hi
 rw[Nat.succ_mul] at hk
 unfold over
 have htl:(K.take (t*S)).length=t*S:=by simp;omega
 rcases Nat.lt_or_ge i t with h1|h1
 ·have hm:=Nat.mul_le_mul_right S (show i+1<=t by omega)
  rw[Nat.succ_mul] at hm
  rw[List.append_assoc,List.drop_append_of_le_length (by omega),List.take_append_of_le_length (by simp;omega),List.drop_take,List.take_take,show min S (t*S-i*S)=S from by omega]
  exact w i h1
 ·have:i=t:=by omega
  subst this
  rw[List.append_assoc,List.drop_append,List.drop_of_length_le (by omega),List.nil_append,htl,Nat.sub_self,List.drop_zero,List.take_append_of_le_length (by omega),List.take_of_length_le (by omega)]
theorem Kept.less {h:Hdr}{S:Nat}{K:List UInt64}{n m:Nat}(w:Kept h S K n)(hm:m<=n):Kept h S K m:=fun i hi=>w i (by omega)
theorem putP_st (s:PS)(xs:List UInt64)(hl:xs.length=s.st.length):putP s.l 1 xs=({ s with st:=xs }:PS).l:=by
 have e1:s.st.drop xs.length=[]:=List.drop_of_length_le (by omega)
 have e3:putP s.l 1 xs=[s.th,xs++s.st.drop xs.length,s.sr,s.lr,s.ad,s.ax,s.ag,s.tp]:=rfl
 rw[e3,e1,List.append_nil];rfl
theorem slot3 {h:Hdr}(hm:h.mode=3)(ok:OkH h):slotOf h=((wr_ h.step+nS h:Nat):Int):=by
 have hr:=(ok_regs ok).1
 have:slotOf h=if h.mode=3 then (wr_ h.step:Int)+h.step.regs else (h.x.length:Int)+1:=rfl
 rw[this,if_pos hm];simp only[nS];omega
theorem c181 {b:DB}{h:Hdr}{d:DS}{s:PS}{K post:List UInt64}(v:Drv H b h d s K post)(t S:Nat)(hS:slotOf h=S)(ht:t*S<=1048576)(k:R (.int .i64 ((s.l.flatten.length+t*S:Nat):Int)) H) :
  Ru 181 [.pointer (some ⟨b.d,0,none⟩),.int .i64 (t:Int)] H R:=by
 obtain⟨bk,o,e,hb,r⟩:=v.place (i:=8) (by omega)
 have hf:=v.ar.few
 have hfl:s.l.flatten.length<=1048576:=by simp only[List.length_append] at hf;omega
 have h8:s.l.take 8=s.l:=rfl
 rw[h8] at r
 refine v181 _ _ _ ⟨_,_,_,by rw[Nat.zero_add];exact v.rd 13 rfl,bk,o,e,by omega,_,r,_,by rw[Nat.zero_add];exact v.rd 2 rfl,?_⟩
 have e2:(t:Int)*slotOf h=((t*S:Nat):Int):=by rw[hS];push_cast;rfl
 rw[e2]
 refine⟨by unfold I64;omega,by unfold I64;omega,?_⟩
 rw[<-Int.natCast_add];exact k
noncomputable def bact (h:Hdr)(d:DS)(k:Int):DS:=
 if k=8 then { d with at_:=d.at_+1,tapd:=d.tapd+1,live:=d.live+slotOf h,peak:=max d.peak (d.live+slotOf h) }
 else if k=5 then { d with pend:=d.l,losses:=d.losses+1,sweeps:=d.sweeps+1,loss:=lossOf h d.l.toNat,peak:=max d.peak (d.live+wr_ h.loss) }
 else { d with pend:=d.pend-1,at_:=d.pend-1,sweeps:=d.sweeps+1,live:=d.live-slotOf h }
def bnext (d:DS):Option Int:=if d.pend<0 then (if d.at_<d.l then some 8 else some 5) else if 0<d.pend then some 9 else none
structure BSem (h:Hdr)(d:DS)(s:PS)(K:List UInt64):Prop where
 th:s.th=h.th
 st:s.st=st h d.at_.toNat
 l:d.l=h.len
 at0:0<=d.at_
 at1:d.at_<=d.l
 p0 : -1<=d.pend
 p1:0<=d.pend->d.at_=d.pend
 z:d.pend<0->s.ag=zeros (nT h)
 gr:0<=d.pend->s.ax=(grad h d.l.toNat (d.l-d.pend).toNat).1/\s.ag=(grad h d.l.toNat (d.l-d.pend).toNat).2/\d.loss=lossOf h d.l.toNat
 kept:Kept h (wr_ h.step+nS h) K d.at_.toNat
 live:d.live=fixedOf h+slotOf h*d.at_
 pk:d.live<=d.peak
 pk2:d.peak<=h.words
theorem base_facts {h:Hdr}(hp:PlanOk h)(hm:h.mode=3):slotsOf h=h.len/\0<=h.len/\h.len<65536/\tapeOf h=(wr_ h.loss:Int)/\0<=fixedOf h:=by
 have ok:=hp.1
 have hl:=ok.len
 unfold lenOk at hl
 rw[if_neg (by omega)] at hl
 have h1:slotsOf h=h.len:=by unfold slotsOf;rw[if_pos hm]
 have h2:tapeOf h=if h.mode=3 then (wr_ h.loss:Int) else (wr_ h.step:Int)+wr_ h.loss:=rfl
 rw[if_pos hm] at h2
 have h7:=small_sum ok 7
 exact⟨h1,by omega,by omega,h2,h7.1⟩
theorem bact8 (h:Hdr)(d:DS):bact h d 8={ d with at_:=d.at_+1,tapd:=d.tapd+1,live:=d.live+slotOf h,peak:=max d.peak (d.live+slotOf h) }:=by unfold bact;rw[if_pos rfl]
theorem bact9 (h:Hdr)(d:DS):bact h d 9={ d with pend:=d.pend-1,at_:=d.pend-1,sweeps:=d.sweeps+1,live:=d.live-slotOf h }:=by unfold bact;rw[if_neg (by omega),if_neg (by omega)]
theorem bsem_tape {h:Hdr}{d:DS}{s s':PS}{K K':List UInt64}(sem:BSem h d s K)(hp:d.pend<0)(hlt:d.at_<d.l)(hw:d.live+slotOf h<=h.words)(h1:s'.th=h.th)(h2:s'.st=st h (d.at_+1).toNat)(h3:s'.ag=s.ag)
  (h4:Kept h (wr_ h.step+nS h) K' (d.at_+1).toNat):BSem h (bact h d 8) s' K':=by
 obtain⟨sth,sst,sl,at0,at1,p0,p1,sz,sgr,kept,slive,spk,spk2⟩:=sem
 rw[bact8]
 refine⟨h1,h2,sl,by dsimp only;omega,by dsimp only;omega,p0,fun hp'=>by dsimp only at hp';omega,fun _=>h3.trans (sz hp),fun hp'=>by dsimp only at hp';omega,h4,?_,by dsimp only;omega,by dsimp only;omega⟩
 dsimp only;rw[Int.mul_add,Int.mul_one];omega
theorem bsem_back {h:Hdr}{d:DS}{s s':PS}{K:List UInt64}(sem:BSem h d s K)(hp:0<d.pend)(h0:0<=slotOf h)(h1:s'.th=h.th)(h2:s'.st=st h (d.pend-1).toNat)(h3:s'.ax=headA h (pullStep h (d.pend-1).toNat (st h (d.pend-1).toNat) s.ax))(h4:s'.ag=addL s.ag (restA h (pullStep h (d.pend-1).toNat (st h (d.pend-1).toNat) s.ax))):BSem h (bact h d 9) s' K:=by
 obtain⟨sth,sst,sl,at0,at1,p0,p1,sz,sgr,kept,slive,spk,spk2⟩:=sem
 have hap:=p1 (by omega)
 rw[bact9]
 refine⟨h1,h2,sl,by dsimp only;omega,by dsimp only;omega,by dsimp only;omega,fun _=>rfl,fun hp'=>by dsimp only at hp';omega,fun _=>?_,kept.less (by dsimp only;omega),?_,by dsimp only;omega,spk2⟩
 ·obtain⟨g1,g2,g3⟩:=sgr (by omega)
  dsimp only
  have e1:(d.l-(d.pend-1)).toNat=(d.l-d.pend).toNat+1:=by omega
  rw[e1]
  have e2:d.l.toNat-((d.l-d.pend).toNat+1)=(d.pend-1).toNat:=by omega
  refine⟨?_,?_,g3⟩
  ·simp only[grad];rw[e2,<-g1];exact h3
  ·simp only[grad];rw[e2,<-g1,<-g2];exact h4
 ·dsimp only
  rw[slive,hap,Int.mul_sub,Int.mul_one];omega
theorem c116 {b:DB}{h:Hdr}{d:DS}{s:PS}{K post:List UInt64}(v:Drv H b h d s K post)(hm:h.mode=3)(sem:BSem h d s K)(cnt:DCnt d 2305843009213693952){kd:Int}(hk:bnext d=some kd)
  (k:∀H' s' K',Drv H' b h (bact h d kd) s' K' post->BSem h (bact h d kd) s' K'->Mod [b.d,b.m,b.w] H H'->R (.int .i64 0) H'):Ru 116 [.pointer (some ⟨b.d,0,none⟩),.agg (actC kd 0).toArray] H R:=by
 have ok:=v.ok.1
 obtain⟨f1,f2,f3,f4,f5⟩:=base_facts v.ok hm
 obtain⟨sl1,sl2,sl3,sl4⟩:=slots_small v.ok
 have hwd:=ok.words
 have hs3:=slot3 hm ok
 have hslot0:0<=slotOf h:=by rw[hs3];exact Int.natCast_nonneg _
 have sem':=sem
 obtain⟨sth,sst,sl,at0,at1,p0,p1,sz,sgr,kept,slive,spk,spk2⟩:=sem
 obtain⟨cp,ct,cl,cs⟩:=cnt
 obtain⟨t,hat⟩:∃t:Nat,d.at_=t:=⟨d.at_.toNat,by omega⟩
 have hatn:d.at_.toNat=t:=by omega
 rw[hatn] at sst kept
 have hr:=(ok_regs ok).1
 have hd:=ok.dims
 obtain⟨d1,d2,d3,d4,d5⟩:=ok.dims
 have hcases:(kd=8/\d.pend<0/\d.at_<d.l)\/(kd=5/\d.pend<0/\d.at_=d.l)\/(kd=9/\0<d.pend):=by
  unfold bnext at hk
  split at hk
  ·split at hk
   ·cases hk;exact .inl ⟨rfl,by omega,by omega⟩
   ·cases hk;exact .inr (.inl ⟨rfl,by omega,by omega⟩)
  ·split at hk
   ·cases hk;exact .inr (.inr ⟨rfl,by omega⟩)
   ·cases hk
 have hXS:nX h<=nS h:=by simp only[nX,nS];omega
 generalize hSS:wr_ h.step+nS h=S at *
 have hkl:(K.length:Int)=S*h.len:=by have:=v.kl;rw[f1,hs3] at this;exact this
 have hSpos:1<=S:=by simp only[nS] at hSS;omega
 have room:∀i:Nat,(i:Int)<=h.len->i*S<=K.length:=by
  intro i hi
  have:=Int.mul_le_mul_of_nonneg_left hi (show (0:Int)<=S by omega)
  rw[<-hkl] at this
  have e:(S:Int)*i=((i*S:Nat):Int):=by push_cast;rw[Int.mul_comm]
  omega
 have hfew:=v.ar.few
 have hall:(s.l.flatten++K++post).length=s.l.flatten.length+K.length+post.length:=by simp[Nat.add_assoc]
 have liveb:∀i:Nat,(i:Int)<=h.len->fixedOf h+slotOf h*i+tapeOf h<=h.words:=by
  intro i hi
  have:=Int.mul_le_mul_of_nonneg_left hi (show (0:Int)<=slotOf h by omega)
  rw[f1] at sl3
  omega
 refine v116 _ _ (actC kd 0) fun H1 p n1=>⟨fun c H'=>H'=H1/\c=decide (kd≠9),⟨_,n1.rd 0,fun h8=>⟨rfl,by rw[h8];rfl⟩,fun h8=>⟨_,n1.rd 0,rfl,?_⟩⟩,?_⟩
 ·unfold decP
  by_cases h5:kd=5
  ·rw[h5];rfl
  ·have:kd=9:=by omega
   rw[this];rfl
 rintro H1' c ⟨h1',rfl⟩
 subst h1'
 have v1:=v.ext n1.mod
 refine⟨fun H'=>H'=H1',⟨fun c H'=>H'=H1'/\c=false,⟨_,n1.rd 1,fun hne=>(hne rfl).elim,fun _=>⟨fun hc=>⟨_,n1.rd 0,rfl,?_⟩,fun _=>⟨rfl,rfl⟩⟩⟩,?_⟩,?_⟩
 ·have:kd=9:=by simpa using hc
  rw[this];rfl
 ·rintro H2 c ⟨h2,rfl⟩
  subst h2
  refine⟨fun hc=>(by cases hc),fun _=>⟨fun c H'=>H'=H2/\c=false,⟨fun hc=>⟨_,by rw[Nat.zero_add];exact v1.rd 19 rfl,fun hp=>?_,fun _=>⟨fun hc'=>?_,fun _=>⟨rfl,rfl⟩⟩⟩,fun hc=>⟨fun _=>⟨_,by rw[Nat.zero_add];exact v1.rd 19 rfl,rfl,?_⟩,fun hc'=>?_⟩⟩,?_⟩⟩
  ·have:kd≠9:=by simpa using hc
   omega
  ·rw[hc] at hc';cases hc'
  ·have:kd=9:=by simpa using hc
   have:¬d.pend<1:=by omega
   unfold decP;simpa using this
  ·rw[hc] at hc';cases hc'
  ·rintro H3 c ⟨h3,rfl⟩
   subst h3
   refine⟨fun hc=>(by cases hc),fun _=>⟨fun hc=>⟨_,n1.rd 0,_,by rw[Nat.zero_add];exact v1.rd 18 rfl,_,by rw[Nat.zero_add];exact v1.rd 17 rfl,fun hn=>?_,fun _=>rfl⟩,fun _=>rfl⟩⟩
   exfalso
   apply hn
   have:kd≠9:=by simpa using hc
   constructor
   ·intro h5;have h5':kd=5:=h5;omega
   ·intro h5;show kd=5;omega
 intro H2 h2
 subst h2
 have hp1:=n1.ge
 refine⟨_,n1.rd 0,fun h8=>?_,fun h8=>⟨fun h5=>?_,fun h5=>?_⟩⟩
 ·
  subst h8
  have hlt:d.at_<d.l:=by omega
  have hpneg:d.pend<0:=by omega
  have hlb:=liveb (t+1) (by push_cast;omega)
  have hls:d.live+slotOf h<=h.words:=by
   have e:slotOf h*((t+1:Nat):Int)=slotOf h*d.at_+slotOf h:=by push_cast;rw[Int.mul_add,Int.mul_one,hat]
   rw[e] at hlb;omega
  have hl0:0<=slotOf h*d.at_:=Int.mul_nonneg (by omega) at0
  refine⟨_,by rw[Nat.zero_add];exact v1.rd 16 rfl,_,by rw[Nat.zero_add];exact v1.rd 2 rfl,c108 (slotOf h) v1.met (by omega) (by omega) (by omega) (by omega) fun H3 o3 m3=>⟨_,rfl,?_⟩⟩
  have v3:=v1.setM _ _ o3 m3
  refine c180 v3 sth t (by exact hat) (by dsimp only;omega) fun H4 br c1 bt v4 or4 ot4 hne g1 g2 l1 l2 hc m4=>⟨_,_,_,_,_,_,rfl,_,by rw[Nat.zero_add];exact v4.rd 14 rfl,_,by rw[Nat.zero_add];exact v4.rd 18 rfl,?_⟩
  generalize hs':({ s with sr:=stepOut h t s.st }:PS)=s' at v4
  rw[sst] at or4 ot4
  have hstl:(st h t).length=nX h:=st_length hd _
  have hol:(stepOut h t (st h t)).length=nS h:=stepOut_length hd hstl
  have htl:(stepTape h t (st h t)).length=wr_ h.step:=by rw[stepTape,taped_length,wr_unr ok.step]
  have hw1:=wr_le ok.step
  have hr1:=room t (by omega)
  have hr2:=room (t+1) (by push_cast;omega)
  rw[Nat.succ_mul] at hr2
  show Ru 181 [.pointer (some ⟨b.d,0,none⟩),.int .i64 d.at_] H4 _
  rw[hat]
  refine c181 v4 t S (by rw[hs3]) (by omega) ⟨_,rfl,by rw[Nat.zero_add];exact v4.rd 14 rfl,u64s (stepOut h t (st h t)),by simp[hol],(or4.rowU hol.symm).2,?_⟩
  have hz01:=n1.mod.1;have hz3:=m3.1;have hz4:=m4.1
  have hBt:Buf 1 H4 H2.size (some ⟨bt,0,none⟩) (wr_ h.step) (wr_ h.step) (u64s (stepTape h t (st h t))):=⟨by simp[htl],Nat.le_refl _,.inr ⟨bt,rfl,by omega,ot4.1,by have:=ot4.2;simpa [htl] using this⟩⟩
  refine hBt.app' (by omega) (by simp[hol]) rfl u64s_one (by simp only[nS];omega) (by simp only[nS];omega) fun a' c' H5 T hB5 m5 hT _=>?_
  have hT':∀x∈T,H2.size<=x:=fun x hx=>(hT x hx).1
  have dT:DOff h b T:=v1.fresh hT'
  have v5:=v4.keep m5 dT
  refine⟨by rw[Nat.zero_add];exact v5.rd 14 rfl,?_⟩
  have hrow5:RowU H5 a' (wr_ h.step+nS h) (keptRow h t):=by have:=hB5.row;rwa [<-u64s_append] at this
  have hkl':(keptRow h t).length=S:=by simp[keptRow,htl,hol,hSS]
  have hTr:∀x∈T,x≠br:=by intro x hx e;have:=(hT x hx).2.2;cases this;omega
  have or5:Own H5 br (u64s (stepOut h t (st h t))):=or4.mod m5 (fun hx=>hTr br hx rfl)
  refine c177 v5.ar (s'.l.flatten.length+t*S) hrow5 (by omega) fun H6 ar6 m6=>⟨_,rfl,?_⟩
  rw[over_app (by omega)] at ar6
  have v6:Drv H6 b h _ s' (over K (t*S) (keptRow h t)) post:=v5.setW ar6 m6 rfl (over_length (by omega))
  have hf2:DOff h b [br]:=v1.fresh (by simp;omega)
  have hbw:br≠b.w:=fun e=>hf2.w (by simp[e])
  have or6:=or5.mod m6 (by simpa using hbw)
  have hnx:h.x.length=nX h:=rfl
  refine⟨_,_,_,by rw[Nat.zero_add];exact v6.rd 5 rfl,⟨Int.natCast_nonneg _,Int.ofNat_le.2 (Nat.le_trans hXS hc)⟩,?_⟩
  rw[Int.toNat_natCast]
  have hst':s'.st.length=nX h:=v6.lens.st
  refine c112 v6 1 (by omega) (or6.rowT (l:=nX h) (by rw[hol];exact hXS)) (by show _<=s'.st.length;rw[hst'];exact Nat.le_refl _) fun H7 v7 m7=>?_
  have ht1:((stepOut h t (st h t)).take (nX h))=st h (t+1):=rfl
  rw[ht1,putP_st _ _ (by rw[st_length hd,hst'])] at v7
  refine⟨_,by rw[Nat.zero_add];exact v7.rd 18 rfl,⟨by dsimp only;omega,by dsimp only;omega⟩,by rw[Nat.zero_add];exact v7.top.w 18 1 rfl,fun H8 h8=>?_⟩
  have o8:=v7.top.wr 18 (.int .i64 (d.at_+1))
  rw[Nat.zero_add] at h8
  have h8':H8=VC.wr H7 b.d 18 (.int .i64 (d.at_+1)):=h8
  rw[<-h8'] at o8
  have m8:Mod [b.d] H7 H8:=by rw[h8];exact Mod.refl.wr (.inl (by simp))
  have v8:=v7.setD (bact h d 8) (by rw[bact8];exact o8) m8 (by rw[bact8]) (by rw[bact8])
  refine k H8 _ _ v8 ?_ ?_
  ·have e1:(d.at_+1).toNat=t+1:=by omega
   subst hs'
   refine bsem_tape sem' hpneg hlt hls sth (by rw[e1]) rfl ?_
   rw[e1,hSS]
   exact kept.put hkl' (by rw[Nat.succ_mul];omega)
  ·have mA:Mod [b.d,b.m,b.w] H2 H4:=(m3.mono (by simp)).trans (m4.mono (by simp))
   have mB:Mod [b.d,b.m,b.w] H2 H5:=mA.trans_new m5 fun x hx=>.inr (hT' x hx)
   exact (Mod.ext n1.mod).trans (((mB.trans (m6.mono (by simp))).trans (m7.mono (by simp))).trans (m8.mono (by simp)))
 ·
  subst h5
  have hpl:d.pend<0/\d.at_=d.l:=by omega
  have hlb:=liveb t (by omega)
  rw[<-hat,<-slive] at hlb
  have hl0:0<=slotOf h*d.at_:=Int.mul_nonneg (by omega) at0
  refine c182 v1 sth 0 (by omega) (by omega) (by omega) (by omega) fun H3 lr ad v3 m3=>⟨_,by rw[Nat.zero_add];exact v3.rd 17 rfl,by rw[Nat.zero_add];exact v3.top.w 19 1 rfl,fun H4 h4=>?_⟩
  have o4:=v3.top.wr 19 (.int .i64 d.l)
  rw[Nat.zero_add] at h4
  have h4':H4=VC.wr H3 b.d 19 (.int .i64 d.l):=h4
  rw[<-h4'] at o4
  have m4:Mod [b.d] H3 H4:=by rw[h4];exact Mod.refl.wr (.inl (by simp))
  have hl:d.l.toNat=t:=by omega
  have hb:bact h d 5={ d with pend:=d.l,losses:=d.losses+1,sweeps:=d.sweeps+1,loss:=rg (lossOut h s.st) 0,peak:=max d.peak (d.live+wr_ h.loss) }:=by
   unfold bact;rw[if_neg (by omega),if_pos rfl,hl,sst];rfl
  have v4:=v3.setD (bact h d 5) (by rw[hb];exact o4) m4 (by rw[hb]) (by rw[hb])
  refine k H4 _ _ v4 ?_ ((Mod.ext n1.mod).trans (m3.trans (m4.mono (by simp))))
  rw[hb]
  refine⟨sth,by dsimp only;rw[hatn];exact sst,sl,at0,at1,by dsimp only;omega,fun _=>by dsimp only;omega,fun hp=>by dsimp only at hp;omega,fun _=>?_,by dsimp only;rw[hatn,hSS];exact kept,slive,by dsimp only;omega,by dsimp only;omega⟩
  dsimp only
  rw[Int.sub_self,hl,sst,sz hpl.1]
  exact⟨rfl,rfl,rfl⟩
 ·
  have hk9:kd=9:=by omega
  subst hk9
  have hpp:0<d.pend:=by omega
  have hap:=p1 (by omega)
  obtain⟨t',ht'⟩:∃t':Nat,t=t'+1:=⟨t-1,by omega⟩
  have hpt:d.pend-1=(t':Int):=by omega
  have hr1:=room t (by omega)
  rw[ht',Nat.succ_mul] at hr1
  refine⟨_,by rw[Nat.zero_add];exact v1.rd 19 rfl,⟨by omega,by omega⟩,by rw[Nat.zero_add];exact v1.top.w 19 1 rfl,fun H3 h3=>?_⟩
  have o3:=v1.top.wr 19 (.int .i64 (d.pend-1))
  rw[Nat.zero_add] at h3
  have h3':H3=VC.wr H2 b.d 19 (.int .i64 (d.pend-1)):=h3
  rw[<-h3'] at o3
  have m3:Mod [b.d] H2 H3:=by rw[h3];exact Mod.refl.wr (.inl (by simp))
  clear h3 h3'
  have v3:=v1.setD { d with pend:=d.pend-1 } o3 m3 rfl rfl
  refine⟨_,by rw[Nat.zero_add];exact v3.rd 19 rfl,by rw[Nat.zero_add];exact v3.top.w 18 1 rfl,fun H4 h4=>?_⟩
  have o4:=v3.top.wr 18 (.int .i64 (d.pend-1))
  rw[Nat.zero_add] at h4
  have h4':H4=VC.wr H3 b.d 18 (.int .i64 (d.pend-1)):=h4
  rw[<-h4'] at o4
  have m4:Mod [b.d] H3 H4:=by rw[h4];exact Mod.refl.wr (.inl (by simp))
  clear h4 h4'
  have v4:=v3.setD { d with pend:=d.pend-1,at_:=d.pend-1 } o4 m4 rfl rfl
  refine⟨_,by rw[Nat.zero_add];exact v4.rd 14 rfl,_,by rw[Nat.zero_add];exact v4.rd 18 rfl,_,by rw[Nat.zero_add];exact v4.rd 2 rfl,?_⟩
  show Ru 181 [.pointer (some ⟨b.d,0,none⟩),.int .i64 (d.pend-1)] H4 _
  rw[hpt] at v4 ⊢
  refine c181 v4 t' S (by rw[hs3]) (by omega) ⟨_,rfl,by rw[Nat.zero_add];exact v4.rd 2 rfl,by rw[Nat.zero_add];exact v4.rd 14 rfl,?_⟩
  rw[hs3]
  have hsum:s.l.flatten.length+t'*S+S<=s.l.flatten.length+K.length:=by omega
  refine c183 v4.ar (s.l.flatten.length+t'*S) S hsum fun a' c' H5 hB5 e5=>⟨_,_,_,_,rfl,_,by rw[Nat.zero_add];exact (v4.ext e5).rd 7 rfl,?_⟩
  have hmid:(((s.l.flatten++K++post).drop (s.l.flatten.length+t'*S)).take S)=keptRow h t':=by
   rw[List.append_assoc,List.drop_append,List.drop_of_length_le (by omega),List.nil_append,show s.l.flatten.length+t'*S-s.l.flatten.length=t'*S from by omega,List.drop_append_of_le_length (by omega),List.take_append_of_le_length (by simp;omega)]
   exact kept t' (by omega)
  rw[hmid] at hB5
  obtain⟨bq,rfl,hbq,oq⟩:=hB5.own (by omega)
  have hcS:=hB5.le
  have v5:=v4.ext e5
  have hw1:=wr_le ok.step
  have en:(S:Int)-h.step.regs=((wr_ h.step:Nat):Int):=by simp only[nS] at hSS;omega
  have hstl:(st h t').length=nX h:=st_length hd _
  rw[en,Int.toNat_natCast]
  have hwS:wr_ h.step<c':=by simp only[nS] at hSS;omega
  have hsA:slA (some ⟨bq,0,none⟩) (wr_ h.step) c' 1=some ⟨bq,wr_ h.step,none⟩:=by
   have:=slA_own (q:=bq) (m:=wr_ h.step) (n:=1) (l:=c') hwS
   rw[Nat.mul_one] at this;exact this
  rw[hsA]
  refine⟨⟨by omega,by omega⟩,⟨by omega,by omega⟩,⟨by omega,by omega⟩,?_⟩
  have hqf:DOff h b [bq]:=v4.fresh (by simpa using hbq)
  refine c184o v5 t' (st h t') hstl rfl (by omega) rfl oq hqf (by dsimp only;omega) fun H6 ad v6 o6 m6=>⟨_,_,_,by rw[Nat.zero_add];exact v6.rd 5 rfl,⟨by omega,by omega⟩,⟨⟨by omega,by simp only[nS] at hSS;omega⟩,by omega,by omega⟩,?_⟩
  have e7:Int.toNat ((wr_ h.step:Int)+(h.x.length:Int))-wr_ h.step=nX h:=by simp only[nX];omega
  rw[e7]
  have hrow6:=o6.rowT (l:=nX h) (by rw[stepIn_length hd hstl];simp only[nX,nS];omega)
  rw[stepIn_take hstl] at hrow6
  have hst6:=v6.lens.st
  refine c112 v6 1 (by omega) hrow6 (by show _<=s.st.length;exact Nat.le_of_eq hst6.symm) fun H7 v7 m7=>⟨_,by rw[Nat.zero_add];exact v7.rd 16 rfl,_,by rw[Nat.zero_add];exact v7.rd 2 rfl,?_⟩
  rw[putP_st _ _ (by rw[hstl];exact hst6.symm)] at v7
  have hl1:slotOf h<=slotOf h*d.at_:=by
   have:=Int.mul_le_mul_of_nonneg_left (show (1:Int)<=d.at_ by omega) (show 0<=slotOf h by omega)
   rwa [Int.mul_one] at this
  refine c185 (slotOf h) v7.met (by omega) (by dsimp only;omega) (by dsimp only;omega) (by dsimp only;omega) fun H8 o8 m8=>⟨_,rfl,?_⟩
  have v8:=v7.setM _ _ o8 m8
  have et:(d.pend-1).toNat=t':=by omega
  have v8':Drv H8 b h (bact h d 9) { s with st:=st h t',ad:=ad,ax:=headA h (pullStep h t' (st h t') s.ax),ag:=addL s.ag (restA h (pullStep h t' (st h t') s.ax)) } K post:=by rw[bact9,hpt];exact v8
  refine k H8 _ K v8' (bsem_back sem' hpp hslot0 sth (by rw[et]) (by rw[et]) (by rw[et])) ?_
  ·have mA:Mod [b.d,b.m,b.w] H2 H5:=((m3.mono (by simp)).trans (m4.mono (by simp))).thenExt e5
   have hz4:H2.size<=H4.size:=Nat.le_trans m3.1 m4.1
   have mB:Mod [b.d,b.m,b.w] H2 H6:=mA.trans_new m6 (by simp;omega)
   exact (Mod.ext n1.mod).trans ((mB.trans (m7.mono (by simp))).trans (m8.mono (by simp)))
end Go.VC
namespace Go.VC
open Go Go.Proofs
variable {H:Heap}{R:Value->Heap->Prop}
theorem v120n (h:R (.slice none 0 0) H):Ru 120 [.pointer none] H R:=vcr nn [.nil] h
theorem ptr3 {h:Hdr}(hm:h.mode=3)(b:DB):slotsPtr h b=.pointer none:=by unfold slotsPtr;rw[if_pos hm]
theorem c57b {b:DB}{h:Hdr}{d:DS}{s:PS}{K post:List UInt64}(v:Drv H b h d s K post)(hm:h.mode=3)
  (k:∀H',Ext H H'->R (.agg (spotC d.at_ d.pend none 0 0).toArray) H'):Ru 57 [.pointer (some ⟨b.d,0,none⟩)] H R:=by
 refine v57 _ _ fun H1 p n1=>?_
 have v1:=v.ext n1.mod
 refine⟨_,by rw[Nat.zero_add];exact v1.rd 18 rfl,_,by rw[Nat.zero_add];exact v1.rd 19 rfl,_,by rw[Nat.zero_add];exact v1.rd 15 rfl,?_⟩
 rw[ptr3 hm]
 refine v120n ⟨_,_,_,rfl,by rw[Nat.zero_add];exact v1.rd 19 rfl,by rw[Nat.zero_add];exact v1.rd 18 rfl,?_⟩
 exact cpy (cs:=spotC d.at_ d.pend none 0 0) (f:=fun cs=>.agg cs.toArray) n1.own rfl rfl spot_one n1.mod n1.ge k
structure EngG (H:Heap)(be:Nat)(b:DB)(h:Hdr)(d:DS)(tags:List Int)(ended failed:Bool)(s:PS)(K post:List UInt64):Prop where
 top:Own H be (engC h b.d ended failed)
 drv:Drv H b h d s K post
 off:DOff h b [be]
 sem:(h.mode≠3/\K=slotsW (nX h) (heldOf h tags)/\DSem h d tags s)\/(h.mode=3/\tags=[]/\BSem h d s K)
theorem EngS.g {H:Heap}{be:Nat}{b:DB}{h:Hdr}{d:DS}{tags:List Int}{ended failed:Bool}{s:PS}{post:List UInt64}(e:EngS H be b h d tags ended failed s post)(hm:h.mode≠3):EngG H be b h d tags ended failed s (slotsW (nX h) (heldOf h tags)) post:=
 ⟨e.top,e.drv,e.off,.inl ⟨hm,rfl,e.sem⟩⟩
theorem EngG.s {H:Heap}{be:Nat}{b:DB}{h:Hdr}{d:DS}{tags:List Int}{ended failed:Bool}{s:PS}{K post:List UInt64}(e:EngG H be b h d tags ended failed s K post)(hm:h.mode≠3):EngS H be b h d tags ended failed s post:=by
 obtain⟨t,dr,o,hs⟩:=e
 rcases hs with ⟨_,rfl,sem⟩|⟨h3,_⟩
 ·exact⟨t,dr,sem,o⟩
 ·exact (hm h3).elim
theorem EngG.b {H:Heap}{be:Nat}{b:DB}{h:Hdr}{d:DS}{tags:List Int}{ended failed:Bool}{s:PS}{K post:List UInt64}(e:EngG H be b h d tags ended failed s K post)(hm:h.mode=3):tags=[]/\BSem h d s K:=by
 rcases e.sem with ⟨h3,_⟩|⟨_,q⟩
 ·exact (h3 hm).elim
 ·exact q
theorem EngG.keep {S:List Nat}{H H':Heap}{be:Nat}{b:DB}{h:Hdr}{d:DS}{tags:List Int}{ended failed:Bool}{s:PS}{K post:List UInt64}(e:EngG H be b h d tags ended failed s K post)(m:Mod S H H')(h1:be∉S)(h2:DOff h b S):EngG H' be b h d tags ended failed s K post:=
 ⟨e.top.mod m h1,e.drv.keep m h2,e.off,e.sem⟩
theorem EngG.ext {H H':Heap}{be:Nat}{b:DB}{h:Hdr}{d:DS}{tags:List Int}{ended failed:Bool}{s:PS}{K post:List UInt64}(e:EngG H be b h d tags ended failed s K post)(m:Ext H H'):EngG H' be b h d tags ended failed s K post:=e.keep m (by simp) (DOff.nil h b)
theorem EngG.ne {H:Heap}{be:Nat}{b:DB}{h:Hdr}{d:DS}{tags:List Int}{ended failed:Bool}{s:PS}{K post:List UInt64}(e:EngG H be b h d tags ended failed s K post):be∉[b.d,b.m,b.w]:=by
 simp;exact⟨fun h=>e.off.d (by simp[h]),fun h=>e.off.m (by simp[h]),fun h=>e.off.w (by simp[h])⟩
theorem g16 {be:Nat}{b:DB}{h:Hdr}{d:DS}{tags:List Int}{ended failed:Bool}{s:PS}{K post:List UInt64}(e:EngG H be b h d tags ended failed s K post)
  (k:∀a c H',Buf 1 H' H.size a tags.length c (i64s tags)->Ext H H'->R (.agg (spotC d.at_ d.pend a tags.length c).toArray) H'):Ru 16 [.pointer (some ⟨be,0,none⟩)] H R:=by
 by_cases hm:h.mode=3
 ·obtain⟨rfl,sem⟩:=e.b hm
  refine v16 _ _ fun H1 p n1=>c54 (e.ext n1.mod).top (c57b (e.ext n1.mod).drv hm fun H2 e2=>⟨_,rfl,rfl,?_⟩)
  have o2:=n1.own.mod e2 (by simp)
  exact cpy (cs:=spotC d.at_ d.pend none 0 0) (f:=fun cs=>.agg cs.toArray) o2 rfl rfl spot_one (n1.mod.thenExt e2) n1.ge fun H' e'=>k none 0 H' Buf.nil e'
 ·exact c16 (e.s hm) hm k
noncomputable def gnext (h:Hdr)(d:DS)(tags:List Int)(ended:Bool):Option (Int × Int):=
 if h.mode=3 then (bnext d).map fun k=>(k,0) else enext h d tags ended
theorem g13 {be:Nat}{b:DB}{h:Hdr}{d:DS}{tags:List Int}{ended failed:Bool}{s:PS}{K post:List UInt64}(e:EngG H be b h d tags ended failed s K post)(k:R (.int .i64 d.l) H):Ru 13 [.pointer (some ⟨be,0,none⟩)] H R:=c13 e.top e.drv k
theorem c115 {be:Nat}{b:DB}{h:Hdr}{d:DS}{tags:List Int}{ended failed:Bool}{s:PS}{K post:List UInt64}(e:EngG H be b h d tags ended failed s K post)(hm:h.mode=3)
  (k:∀H',Ext H H'->R (actR ((bnext d).map fun k=>(k,0))) H'):Ru 115 [.pointer (some ⟨be,0,none⟩)] H R:=by
 refine v115 _ _ fun H1 p n1=>g16 (e.ext n1.mod) fun a c H2 hB e2=>⟨_,rfl,rfl,fun H3 p1 n3=>⟨rfl,spot_one,n3.own.w 0 3 rfl,fun H4 h4=>?_⟩⟩
 obtain⟨e4,o4⟩:=tmpE (cs:=spotC d.at_ d.pend a tags.length c) n3 rfl h4
 have e24:=(n1.mod.thenExt e2).thenExt e4
 have op:=n1.own.mod (e2.thenExt e4) (by simp)
 have fin:∀(kd:Int) (b:Bool),actR ((bnext d).map fun k=>(k,0))=.tuple #[.agg (actC kd 0).toArray,.bool b]->2=2/\(∀v∈[Value.int .i64 kd,.int .i64 0],One v)/\WOk H4 p 0 2/\∀H',H'=wrL H4 p 0 [.int .i64 kd,.int .i64 0]->∃cs:List Value,cs.length=2/\RdL H' p 0 cs/\R (.tuple #[.agg cs.toArray,.bool b]) H':=by
  intro kd b hb
  refine cpy (cs:=[.int .i64 kd,.int .i64 0]) (f:=fun cs=>.tuple #[.agg cs.toArray,.bool b]) op rfl rfl act_one e24 n1.ge fun H' e'=>?_
  have:=k H' e'
  rwa [hb] at this
 refine⟨_,o4.rd 1 rfl,fun hp=>⟨_,o4.rd 0 rfl,g13 ((e.ext n1.mod).ext (e2.thenExt e4)) ⟨_,rfl,o4.rd 0 rfl,fun hlt=>?_,fun hge=>⟨_,o4.rd 1 rfl,fun _=>?_,fun h'=>(h' hp).elim⟩⟩⟩,fun hp=>⟨_,o4.rd 1 rfl,fun h'=>(hp h').elim,fun _=>⟨_,o4.rd 1 rfl,fun hpos=>?_,fun hpos=>?_⟩⟩⟩
 ·exact fin 8 true (by unfold bnext;rw[if_pos hp,if_pos hlt];rfl)
 ·exact fin 5 true (by unfold bnext;rw[if_pos hp,if_neg hge];rfl)
 ·exact fin 9 true (by unfold bnext;rw[if_neg hp,if_pos hpos];rfl)
 ·exact fin 0 false (by unfold bnext;rw[if_neg hp,if_neg hpos];rfl)
theorem gnextc {H:Heap}{be:Nat}{b:DB}{h:Hdr}{d:DS}{tags:List Int}{ended failed:Bool}{s:PS}{K post:List UInt64}(e:EngG H be b h d tags ended failed s K post) :
  ∃g,nextF h.mode=.func (.func g) #[] #[]/\callable Tryz.prog g=true/\∀R:Value->Heap->Prop,(∀H',Ext H H'->R (actR (gnext h d tags ended)) H')->Ru g [.pointer (some ⟨be,0,none⟩)] H R:=by
 have hmo:=e.drv.ok.1.mode
 by_cases hm:h.mode=3
 ·refine⟨115,by unfold nextF;rw[if_neg (by omega),if_neg (by omega)],by kernel_rfl,fun R hR=>c115 e hm fun H' e'=>?_⟩
  have:=hR H' e'
  unfold gnext at this
  rwa [if_pos hm] at this
 ·obtain⟨g,h1,h2,h3⟩:=cnext (e.s hm) (by omega)
  refine⟨g,h1,h2,fun R hR=>h3 R fun H' e'=>?_⟩
  have:=hR H' e'
  unfold gnext at this
  rwa [if_neg hm] at this
theorem g52 {be:Nat}{b:DB}{h:Hdr}{d:DS}{tags:List Int}{ended:Bool}{s:PS}{K post:List UInt64}(e:EngG H be b h d tags ended false s K post)
  (k:∀H',Ext H H'->R (.bool (gnext h d tags ended).isNone) H'):Ru 52 [.pointer (some ⟨be,0,none⟩)] H R:=by
 obtain⟨g,hg,hc,hr⟩:=gnextc e
 refine v52 _ _ ⟨false,e.top.rd 4 rfl,by simp,fun _=>⟨_,e.top.rd 2 rfl,g,_,_,hg,hc,hr _ fun H1 e1=>?_⟩⟩
 obtain⟨x,y,c,hs,hcc,_⟩:=actR_shape (gnext h d tags ended)
 refine⟨actC x y,rfl,c,hs,fun H2 p n2=>⟨rfl,act_one,n2.own.w 0 2 rfl,fun H3 h3=>?_⟩⟩
 have:(!c)=(gnext h d tags ended).isNone:=by rw[hcc];cases gnext h d tags ended<;>rfl
 rw[this]
 exact k H3 (e1.thenExt (tmpE (cs:=actC x y) n2 rfl h3).1)
theorem g11 {be:Nat}{b:DB}{h:Hdr}{d:DS}{tags:List Int}{ended:Bool}{s:PS}{K post:List UInt64}(e:EngG H be b h d tags ended false s K post)
  (k:∀H',Ext H H'->R (.bool ((gnext h d tags ended).isNone && decide (h.mode=2) && !ended)) H'):Ru 11 [.pointer (some ⟨be,0,none⟩)] H R:=by
 refine v11 _ _ (g52 e fun H1 e1=>⟨_,rfl,fun h1=>⟨_,(e.ext e1).top.rd 1 rfl,fun h2=>⟨ended,(e.ext e1).top.rd 3 rfl,?_⟩,fun h2=>?_⟩,fun h1=>?_⟩)
 ·have:=k H1 e1;simp only[h1,h2,decide_true,Bool.true_and] at this;exact this
 ·have:=k H1 e1;simp only[h2,decide_false,Bool.and_false,Bool.false_and] at this;exact this
 ·have:=k H1 e1;simp only[h1,Bool.false_and] at this;exact this
theorem g31 {be:Nat}{b:DB}{h:Hdr}{d:DS}{tags:List Int}{ended:Bool}{s:PS}{K post:List UInt64}(e:EngG H be b h d tags ended false s K post)
  (k:∀H',Ext H H'->R (.bool ((gnext h d tags ended).isNone && decide (d.pend=0))) H'):Ru 31 [.pointer (some ⟨be,0,none⟩)] H R:=by
 refine v31 _ _ (g52 e fun H1 e1=>⟨_,rfl,fun h1=>g16 (e.ext e1) fun a c H2 hB e2=>⟨_,rfl,rfl,trivial,_,rfl,_,rfl,?_⟩,fun h1=>?_⟩)
 ·have:=k H2 (e1.thenExt e2);simp only[h1,Bool.true_and] at this;exact this
 ·have:=k H1 e1;simp only[h1,Bool.false_and] at this;exact this
noncomputable def gact (h:Hdr)(d:DS)(tags:List Int)(k n:Int):DS × List Int:=
 if h.mode=3 then (bact h d k,tags) else match mstep (dMS d tags) k n with
  | some m=>(dact h d k n m,m.tags)
  | none=>(d,tags)
theorem gact3 {h:Hdr}(hm:h.mode=3)(d:DS)(tags:List Int)(k n:Int):gact h d tags k n=(bact h d k,tags):=by unfold gact;rw[if_pos hm]
theorem gactS {h:Hdr}(hm:h.mode≠3){d:DS}{tags:List Int}{k n:Int}{m:MS1}(e:mstep (dMS d tags) k n=some m):gact h d tags k n=(dact h d k n m,m.tags):=by unfold gact;rw[if_neg hm,e]
theorem c53b {b:DB}{h:Hdr}{d:DS}{s:PS}{K post:List UInt64}(v:Drv H b h d s K post)(hm:h.mode=3)(sem:BSem h d s K)(cnt:DCnt d 2305843009213693952){kd:Int}(hk:bnext d=some kd)
  (k:∀H' s' K',Drv H' b h (bact h d kd) s' K' post->BSem h (bact h d kd) s' K'->Mod [b.d,b.m,b.w] H H'->R (.int .i64 0) H'):Ru 53 [.pointer (some ⟨b.d,0,none⟩),.agg (actC kd 0).toArray] H R:=by
 refine v53 _ _ (actC kd 0) fun H1 p n1=>c110 (v.ext n1.mod) ⟨_,rfl,fun _=>⟨_,rfl,n1.rdL,c116 (v.ext n1.mod) hm sem cnt hk fun H2 s' K' v2 sem2 m2=>⟨_,rfl,k H2 s' K' v2 sem2 ((Mod.ext n1.mod).trans m2)⟩⟩,fun h'=>by simp[hm] at h'⟩
theorem g12 {be:Nat}{b:DB}{h:Hdr}{d:DS}{tags:List Int}{ended:Bool}{s:PS}{K post:List UInt64}(e:EngG H be b h d tags ended false s K post)
  (cnt:DCnt d 2305843009213693952) (hleg:h.mode≠3->∀k n,gnext h d tags ended=some (k,n)->∃m,mstep (dMS d tags) k n=some m)
  (k1:gnext h d tags ended=none->∀H',Ext H H'->R (.tuple #[.agg (actC 0 0).toArray,.bool false,.int .i64 0]) H')
  (k2:∀k n,gnext h d tags ended=some (k,n)->∀H' s' K',EngG H' be b h (gact h d tags k n).1 (gact h d tags k n).2 ended false s' K' post->Mod [b.d,b.m,b.w] H H'->R (.tuple #[.agg (actC k n).toArray,.bool true,.int .i64 0]) H') :
  Ru 12 [.pointer (some ⟨be,0,none⟩)] H R:=by
 refine v12 _ _ fun H1 p n1=>⟨false,(e.ext n1.mod).top.rd 4 rfl,by simp,fun _=>?_⟩
 have e1:=e.ext n1.mod
 obtain⟨g,hg,hc,hr⟩:=gnextc e1
 refine⟨_,e1.top.rd 2 rfl,g,_,_,hg,hc,hr _ fun H2 x2=>?_⟩
 obtain⟨x,y,c,hs,hcc,hso,hno⟩:=actR_shape (gnext h d tags ended)
 refine⟨actC x y,rfl,c,hs,fun H3 q n3=>⟨rfl,act_one,n3.own.w 0 2 rfl,fun H4 h4=>?_⟩⟩
 obtain⟨x24,oq⟩:=tmpE (cs:=actC x y) n3 rfl h4
 clear h4
 have x14:=x2.thenExt x24
 have op:=n1.own.mod x14 (by simp)
 have x04:=n1.mod.thenExt x14
 have hp:=n1.ge
 refine⟨fun hc'=>?_,fun hc'=>?_⟩
 ·have hnone:gnext h d tags ended=none:=by rw[hcc] at hc';cases hh:gnext h d tags ended<;>simp_all
  exact cpy (cs:=actC 0 0) (f:=fun cs=>.tuple #[.agg cs.toArray,.bool false,.int .i64 0]) op rfl rfl act_one x04 hp (k1 hnone)
 ·have hsome:gnext h d tags ended=some (x,y):=by
   rw[hcc] at hc'
   cases hh:gnext h d tags ended with
   | none=>rw[hh] at hc';simp at hc'
   | some q=>rw[hso q hh]
  have e4:=e.ext x04
  have hlow:∀z∈[b.d,b.m,b.w],z<H.size:=by
   intro z hz
   simp only[List.mem_cons,List.not_mem_nil,or_false] at hz
   rcases hz with rfl|rfl|rfl
   ·exact e.drv.top.lt (by unfold drvC;simp[i64s,planL])
   ·exact e.drv.met.lt (by simp[meterC])
   ·exact e.drv.ar.row.lt (u64s_ne e.drv.words)
  have hqS:q∉[b.d,b.m,b.w]:=fun hz=>by have:=hlow q hz;have:=n3.ge;have:=x2.1;have:=n1.mod.1;omega
  have hpS:p∉[b.d,b.m,b.w]:=fun hz=>by have:=hlow p hz;omega
  have key:Ru 53 [.pointer (some ⟨b.d,0,none⟩),.agg (actC x y).toArray] H4 fun r H5=>r=.int .i64 0/\∃s' K',EngG H5 be b h (gact h d tags x y).1 (gact h d tags x y).2 ended false s' K' post/\Mod [b.d,b.m,b.w] H4 H5:=by
   by_cases hm:h.mode=3
   ·obtain⟨rfl,sem⟩:=e4.b hm
    have hb:bnext d=some x/\y=0:=by
     unfold gnext at hsome
     rw[if_pos hm] at hsome
     cases hb:bnext d with
     | none=>rw[hb] at hsome;cases hsome
     | some q=>rw[hb] at hsome;cases hsome;exact⟨rfl,rfl⟩
    obtain⟨hb,rfl⟩:=hb
    rw[gact3 hm]
    exact c53b e4.drv hm sem cnt hb fun H5 s' K' v5 sem5 m5=>⟨rfl,s',K',⟨e4.top.mod m5 e.ne,v5,e.off,.inr ⟨hm,rfl,sem5⟩⟩,m5⟩
   ·obtain⟨m,hms⟩:=hleg hm x y hsome
    rw[gactS hm hms]
    have eS:=e4.s hm
    exact c53 eS.drv hm eS.sem cnt hms fun H5 s' v5 sem5 m5=>⟨rfl,s',_,⟨e4.top.mod m5 e.ne,v5,e.off,.inl ⟨hm,rfl,sem5⟩⟩,m5⟩
  refine⟨_,e4.top.rd 0 rfl,actC x y,rfl,oq.1,Runs.mono key ?_⟩
  rintro _ H5 ⟨rfl,s',K',e5,m5⟩
  refine⟨_,rfl,by simp,fun _=>?_⟩
  have op5:=op.mod m5 hpS
  refine⟨actC x y,rfl,(oq.mod m5 hqS).1,rfl,act_one,op5.w 0 2 rfl,fun H6 h6=>⟨actC x y,rfl,by rw[h6];exact rdL_wrL op5.2,?_⟩⟩
  have m6:Mod [p] H5 H6:=by rw[h6];exact Mod.refl.wrL (.inl (by simp))
  have hpb:be≠p:=by have:=e.top.lt (by simp[engC]);omega
  exact k2 x y hsome H6 s' K' (e5.keep m6 (by simpa using hpb) (e.drv.fresh (by simpa using hp))) (((Mod.ext x04).trans m5).trans_new m6 (by simp;omega))
theorem bact5 (h:Hdr)(d:DS):bact h d 5={ d with pend:=d.l,losses:=d.losses+1,sweeps:=d.sweeps+1,loss:=lossOf h d.l.toNat,peak:=max d.peak (d.live+wr_ h.loss) }:=by unfold bact;rw[if_neg (by omega),if_pos rfl]
theorem bcnt_step {h:Hdr}{d:DS}{k B:Int}(c:DCnt d B):DCnt (bact h d k) (B+1):=by
 obtain⟨p,t,l,s⟩:=c
 unfold bact
 refine⟨?_,?_,?_,?_⟩<;>(repeat' split)<;>dsimp only<;>omega
def plM (d:DS):Int:=if d.pend<0 then 2*d.l+1-d.at_ else d.pend
theorem bsem0 {h:Hdr}(hp:PlanOk h)(hm:h.mode=3):BSem h (d0 h (fixedOf h)) (s0 h) (k0 h):=by
 obtain⟨f1,f2,f3,f4,f5⟩:=base_facts hp hm
 obtain⟨a,b,c,d⟩:=slots_small hp
 have ht:=parts_small hp.1 (tapeOf h) (List.getElem_mem _)
 refine⟨rfl,rfl,rfl,by simp[d0],by simpa [d0] using f2,by simp[d0],fun h0=>by simp[d0] at h0,fun _=>rfl,fun h0=>by simp[d0] at h0,fun i hi=>by simp[d0] at hi,by simp[d0],by simp[d0],?_⟩
 show fixedOf h<=h.words
 omega
theorem g9 (h:Hdr)(p:HAt)(r:HRows H h p)
  (k1:PlanOk h->∀H' be b tags,(h.mode≠3->tags=tags0 h)->EngG H' be b h (d0 h (fixedOf h)) tags false false (s0 h) (k0 h) (post0 h)->DIn h b H.size->H.size<=be->be<H'.size->Ext H H'->(∀S,(∀x∈S,H'.size<=x)->DOff h b S)->R (.tuple #[.pointer (some ⟨be,0,none⟩),.int .i64 0]) H')
  (k2:∀n H',n≠0->¬PlanOk h->Ext H H'->R (.tuple #[.pointer none,.int .i64 n]) H'):Ru 9 [.agg (hdrC h p).toArray] H R:=by
 refine c9g h p r (fun hp H' be b o v f di h1 h2 e hS=>?_) k2
 by_cases hm:h.mode=3
 ·exact k1 hp H' be b [] (fun h3=>(h3 hm).elim) ⟨o,v,f,.inr ⟨hm,rfl,bsem0 hp hm⟩⟩ di h1 h2 e hS
 ·exact k1 hp H' be b (tags0 h) (fun _=>rfl) ⟨o,v,f,.inl ⟨hm,k0_slots h hp hm,dsem0 hp hm⟩⟩ di h1 h2 e hS
theorem g18 {be:Nat}{b:DB}{h:Hdr}{d:DS}{tags:List Int}{ended failed:Bool}{s:PS}{K post:List UInt64}(e:EngG H be b h d tags ended failed s K post)(hp:d.pend=0)
  (k:∀H' a1 c1 a2 c2,Buf 1 H' H.size a1 (nX h) c1 (u64s s.ax)->Buf 1 H' H.size a2 (nT h) c2 (u64s s.ag)->Ext H H'->R (.tuple #[.agg [.int .u64 (d.loss.toNat:Int),.slice a1 (nX h) c1,.slice a2 (nT h) c2].toArray,.int .i64 0]) H'):Ru 18 [.pointer (some ⟨be,0,none⟩)] H R:=
 c18c e.top e.drv hp k
end Go.VC
namespace Go.VC
open Go Go.Proofs
variable {H:Heap}{R:Value->Heap->Prop}
theorem agg3_one {w:Int}{a b:Option Addr}{l m c d:Nat}:∀x∈[Value.int .u64 w,.slice a l c,.slice b m d],One x:=by
 intro x hx;simp only[List.mem_cons,List.not_mem_nil,or_false] at hx;rcases hx with rfl|rfl|rfl<;>trivial
def cntL (d:DS):List Int:=[d.plain,d.tapd,d.losses,d.sweeps]
theorem c87 {b:DB}{h:Hdr}{d:DS}{P:List (List UInt64)}{K post:List UInt64}(v:DrvM H b h d P K post)(k:∀H',Ext H H'->R (.agg (i64s (cntL d)).toArray) H'):Ru 87 [.pointer (some ⟨b.d,0,none⟩)] H R:=by
 refine v87 _ _ fun H2 q n2=>⟨i64s (cntL d),rfl,?_,?_⟩
 ·have v2:=v.ext n2.mod
  exact⟨v2.top.rd 20 rfl,v2.top.rd 21 rfl,v2.top.rd 22 rfl,v2.top.rd 23 rfl,trivial⟩
 ·exact cpy (f:=fun cs=>.agg cs.toArray) n2.own rfl rfl i64s_one n2.mod n2.ge k
theorem c42 {be:Nat}{b:DB}{h:Hdr}{d:DS}{tags:List Int}{ended failed:Bool}{s:PS}{K post:List UInt64}(e:EngG H be b h d tags ended failed s K post)
  (k:∀H',Ext H H'->R (.agg (i64s (cntL d)).toArray) H'):Ru 42 [.pointer (some ⟨be,0,none⟩)] H R:=by
 refine v42 _ _ fun H1 p n1=>c54 (e.ext n1.mod).top (c87 (e.ext n1.mod).drv fun H2 e2=>⟨i64s (cntL d),rfl,rfl,?_⟩)
 exact cpy (f:=fun cs=>.agg cs.toArray) (n1.own.mod e2 (by simp)) rfl rfl i64s_one (n1.mod.thenExt e2) n1.ge k
theorem ahead_inv {h:Hdr}(hm:h.mode=2):RunInv h false Ahead (fun d tags=>aM d.l d.at_ tags):=by
 refine⟨fun d tags ah=>(aM_bound ah.inv).1,fun d tags ah=>?_⟩
 have hnx:enext h d tags false=strideNext d.l false d.at_ (-1) tags:=enext_ahead hm ah.pd false
 rcases a_step ah.inv with hfull|⟨kk,nn,m,s1,s2,s3,s4,s5⟩
 ·left;rw[hnx,hfull.next];rfl
 ·have s2':mstep (dMS d tags) kk nn=some m:=by
   have:dMS d tags=⟨d.at_,-1,d.l,0,tags⟩:=by simp only[dMS,ah.pd]
   rw[this];exact s2
  exact .inr ⟨kk,nn,m,by rw[hnx];exact s1 false,s2',ah.step s2' s3 s4 s5,s5⟩
theorem ahead_full {h:Hdr}(hm:h.mode=2){d:DS}{tags:List Int}(ah:Ahead d tags)(hn:enext h d tags false=none):AFull d.l d.at_ tags:=by
 rcases a_step ah.inv with hfull|⟨kk,nn,m,s1,_⟩
 ·exact hfull
 ·rw[enext_ahead hm ah.pd false,s1 false] at hn;cases hn
structure EDone (H:Heap)(be:Nat)(b:DB)(h:Hdr)(l:Nat)(d:DS)(tags:List Int)(ended:Bool)(s:PS)(K post:List UInt64):Prop where
 eng:EngG H be b h d tags ended false s K post
 pend:d.pend=0
 stop:gnext h d tags ended=none
 len:d.l=l
 end_:h.mode≠2\/ended=true
theorem EDone.grad {H:Heap}{be:Nat}{b:DB}{h:Hdr}{l:Nat}{d:DS}{tags:List Int}{ended:Bool}{s:PS}{K post:List UInt64}(w:EDone H be b h l d tags ended s K post) :
  s.ax=(grad h l l).1/\s.ag=(grad h l l).2/\d.loss=lossOf h l:=by
 have hp:=w.pend
 have hg:s.ax=(VC.grad h d.l.toNat (d.l-d.pend).toNat).1/\s.ag=(VC.grad h d.l.toNat (d.l-d.pend).toNat).2/\d.loss=lossOf h d.l.toNat:=by
  rcases w.eng.sem with ⟨_,_,q⟩|⟨_,_,q⟩
  ·exact q.gr (by omega)
  ·exact q.gr (by omega)
 obtain⟨g1,g2,g3⟩:=hg
 rw[w.len,w.pend] at g1 g2
 rw[w.len] at g3
 have hs:((l:Int)-0).toNat=l:=by omega
 rw[hs] at g1 g2
 rw[Int.toNat_natCast] at g1 g2 g3
 exact⟨g1,g2,g3⟩
theorem gnext_s {h:Hdr}(hm:h.mode≠3)(d:DS)(tags:List Int)(ended:Bool):gnext h d tags ended=enext h d tags ended:=by unfold gnext;rw[if_neg hm]
end Go.VC
namespace Go.VC
open Go Go.Proofs
variable {H:Heap}{R:Value->Heap->Prop}{be:Nat}{b:DB}{h:Hdr}{d:DS}{tags:List Int}{ended failed:Bool}{s:PS}{K post:List UInt64}
theorem c30 (e:EngG H be b h d tags ended failed s K post)
  (k:∀a c H',Buf 1 H' H.size a (s.l.flatten++K++post).length c (u64s (s.l.flatten++K++post))->Ext H H'->R (.slice a (s.l.flatten++K++post).length c) H'):Ru 30 [.pointer (some ⟨be,0,none⟩)] H R:=by
 have hf:=e.drv.ar.few
 obtain⟨cc,hcc,top⟩:=e.drv.ar.topC
 exact v30 _ _ (c54 e.top (v74 _ _ ⟨_,by rw[Nat.zero_add];exact e.drv.rd 14 rfl,v138 _ _ ⟨_,_,_,top.rd 0 rfl,c69 (e.drv.ar.row.rowU rfl) (by omega) fun a c H' hB e'=>⟨_,_,_,rfl,⟨_,_,_,rfl,⟨_,_,_,rfl,k a c H' hB e'⟩⟩⟩⟩⟩))
theorem c36 (e:EngG H be b h d tags ended failed s K post)(k:R (.int .i64 d.live) H):Ru 36 [.pointer (some ⟨be,0,none⟩)] H R:=
 v36 _ _ (c54 e.top (v82 _ _ ⟨_,by rw[Nat.zero_add];exact e.drv.rd 16 rfl,c150 e.drv.met ⟨_,rfl,_,rfl,k⟩⟩))
theorem c39 (e:EngG H be b h d tags ended failed s K post)(k:R (.int .i64 d.peak) H):Ru 39 [.pointer (some ⟨be,0,none⟩)] H R:=
 v39 _ _ (c54 e.top (v84 _ _ ⟨_,by rw[Nat.zero_add];exact e.drv.rd 16 rfl,c151 e.drv.met ⟨_,rfl,_,rfl,k⟩⟩))
theorem c38 (e:EngG H be b h d tags ended failed s K post)(k:∀a c H',Buf 1 H' H.size a (nX h) c (u64s s.st)->Ext H H'->R (.slice a (nX h) c) H'):Ru 38 [.pointer (some ⟨be,0,none⟩)] H R:=by
 have hl:=e.drv.lens.st
 refine v38 _ _ (c54 e.top (v83 _ _ (c121 e.drv 1 (by omega) fun a c H' hB e'=>⟨_,_,_,rfl,_,_,_,rfl,?_⟩)))
 have hB':Buf 1 H' H.size a s.st.length c (u64s s.st):=hB
 rw[hl] at hB'
 have:=k a c H' hB' e'
 rw[<-hl] at this
 exact this
theorem c37 {a1 a2:Option Addr}{l1 l2 c1 c2:Nat}{xs ys:List UInt64}(h1:RowU H a1 l1 xs)(h2:RowU H a2 l2 ys)(hl:l1<=1099511627776)(k:R (.bool (decide (xs=ys))) H):Ru 37 [.slice a1 l1 c1,.slice a2 l2 c2] H R:=by
 have hx:=h1.len;have hy:=h2.len
 refine v37 _ _ _ _ _ _ ⟨fun hne=>?_,fun heq=>?_⟩
 ·have:decide (xs=ys)=false:=by simp;intro e;rw[e] at hx;omega
  rwa [this] at k
 ·refine⟨fun n H'=>H'=H/\∃i:Nat,n=i/\i<=l1/\xs.take i=ys.take i,fun n _=>(l1-n).toNat,⟨rfl,0,rfl,by omega,by simp⟩,?_⟩
  rintro H' n ⟨h',i,rfl,hi,ht⟩
  subst h'
  have hl12:l1=l2:=by omega
  refine⟨fun hlt=>?_,fun hge=>?_⟩
  ·refine RowU.idx h1 (i:=(i:Int)) (by omega) (by omega) ?_
   refine RowU.idx h2 (i:=(i:Int)) (by omega) (by omega) ?_
   refine⟨fun hne=>?_,fun he=>⟨by unfold I64;omega,⟨rfl,i+1,by omega,by omega,?_⟩,by dsimp only;omega⟩⟩
   ·have:decide (xs=ys)=false:=by
     simp;intro e
     exact hne (by simp only[e])
    rwa [this] at k
   ·have he':xs[i]=ys[i]:=by have:=Classical.not_not.1 he;simpa using this
    rw[List.take_succ_eq_append_getElem (by omega),List.take_succ_eq_append_getElem (by omega),ht,he']
  ·have:i=l1:=by omega
   subst this
   rw[List.take_of_length_le (by omega),List.take_of_length_le (by omega)] at ht
   have:decide (xs=ys)=true:=by simp[ht]
   rwa [this] at k
theorem c24 {h:Hdr}{hp:HAt}(x:Int)(hx:0<=x/\x<=65535)(k:∀H',Ext H H'->R (.int .i64 (if h.mode=2 then x else h.len)) H'):Ru 24 [.agg (hdrC h hp).toArray,.int .u16 x] H R:=by
 refine v24 (hdrC h hp) _ fun H1 p n1=>⟨_,n1.rd 0,fun hm=>⟨by unfold I64;omega,?_⟩,fun hm=>⟨_,n1.rd 7,?_⟩⟩
 ·have:=k H1 n1.mod;rwa [if_pos hm] at this
 ·have:=k H1 n1.mod;rwa [if_neg hm] at this
end Go.VC
namespace Go.VC
open Go Go.Proofs
variable {H:Heap}{R:Value->Heap->Prop}
theorem c26 {a:Option Addr}{l c:Nat}{xs:List UInt64}(h:RowU H a l xs)(hl:l<=1099511627776)(k:R (.int .u64 ((xs.foldl (·*·) 1).toNat:Int)) H):Ru 26 [.slice a l c] H R:=by
 have hx:=h.len
 refine v26 _ _ _ ⟨fun x n H'=>H'=H/\∃i:Nat,n=i/\i<=l/\x=(xs.take i).foldl (·*·) 1,fun _ n _=>(l-n).toNat,⟨rfl,0,rfl,by omega,rfl⟩,?_⟩
 rintro H' x n ⟨h',i,rfl,hi,rfl⟩
 subst h'
 refine⟨fun hlt=>RowU.idx h (i:=(i:Int)) (by omega) (by omega) ⟨by unfold I64;omega,⟨rfl,i+1,by omega,by omega,?_⟩,by dsimp only;omega⟩,fun hge=>?_⟩
 ·rw[List.take_succ_eq_append_getElem (by omega),List.foldl_append];rfl
 ·have:i=l:=by omega
  subst this
  rwa [List.take_of_length_le (by omega)]
theorem c141 {a:Option Addr}{l c:Nat}{xs:List UInt64}(h:RowU H a l xs)(hl:l<=1099511627776)(k:R (.int .u64 ((xs.foldl (·+·) 0).toNat:Int)) H):Ru 141 [.slice a l c] H R:=by
 have hx:=h.len
 refine v141 _ _ _ ⟨fun x n H'=>H'=H/\∃i:Nat,n=i/\i<=l/\x=(xs.take i).foldl (·+·) 0,fun _ n _=>(l-n).toNat,⟨rfl,0,rfl,by omega,rfl⟩,?_⟩
 rintro H' x n ⟨h',i,rfl,hi,rfl⟩
 subst h'
 refine⟨fun hlt=>RowU.idx h (i:=(i:Int)) (by omega) (by omega) ⟨by unfold I64;omega,⟨rfl,i+1,by omega,by omega,?_⟩,by dsimp only;omega⟩,fun hge=>?_⟩
 ·rw[List.take_succ_eq_append_getElem (by omega),List.foldl_append];rfl
 ·have:i=l:=by omega
  subst this
  rwa [List.take_of_length_le (by omega)]
def sumW (w:List UInt64):UInt64:=w.foldl (fun s x=>s*3+x) 1
theorem sumW_snoc (w:List UInt64)(x:UInt64):sumW (w++[x])=sumW w*3+x:=by unfold sumW;rw[List.foldl_append];rfl
theorem sum_step {H:Heap}(s x:UInt64){Q:UInt64->Heap->Prop}(k:∀H',Ext H H'->Q (s*3+x) H') :
  ∀H' q,New H [.int .u64 (s.toNat:Int),.int .u64 3] 51 H' q->Ru 26 [.slice (some ⟨q,0,none⟩) 2 2] H' fun r H'=>∃x_2,r=.int .u64 (↑(UInt64.toNat x_2):Int)/\∀H'_1 q,New H' [.int .u64 (↑(UInt64.toNat x_2):Int),.int .u64 (↑(UInt64.toNat x):Int)] 51 H'_1 q->Ru 141 [.slice (some ⟨q,0,none⟩) 2 2] H'_1 fun r H'=>∃x_3,r=.int .u64 (↑(UInt64.toNat x_3):Int)/\Q x_3 H':=by
 intro H1 q n1
 have r1:RowU H1 (some ⟨q,0,none⟩) 2 [s,3]:=⟨rfl,.inr ⟨q,0,rfl,n1.rdL⟩⟩
 refine c26 r1 (by omega) ⟨_,rfl,fun H2 p n2=>?_⟩
 have r2:RowU H2 (some ⟨p,0,none⟩) 2 [[s,3].foldl (·*·) 1,x]:=⟨rfl,.inr ⟨p,0,rfl,n2.rdL⟩⟩
 refine c141 r2 (by omega) ⟨_,rfl,?_⟩
 have:=k H2 (n1.mod.new n2)
 have e:[[s,3].foldl (·*·) 1,x].foldl (·+·) 0=s*3+x:=by simp
 rwa [e]
theorem c139 {a:Option Addr}{l c:Nat}{xs:List UInt64}(h:RowU H a l xs)(hl:l<=1099511627776)(k:∀H',Ext H H'->R (.int .u64 ((sumW xs).toNat:Int)) H'):Ru 139 [.slice a l c] H R:=by
 have hx:=h.len
 refine v139 _ _ _ ⟨fun x n H'=>Ext H H'/\∃i:Nat,n=i/\i<=l/\x=sumW (xs.take i),fun _ n _=>(l-n).toNat,⟨Mod.refl,0,rfl,by omega,rfl⟩,?_⟩
 rintro H1 x n ⟨e1,i,rfl,hi,rfl⟩
 refine⟨fun hlt=>RowU.idx (Ext.row e1 h) (i:=(i:Int)) (by omega) (by omega) ?_,fun hge=>?_⟩
 ·refine sum_step _ _ fun H2 e2=>⟨by unfold I64;omega,⟨e1.thenExt e2,i+1,by omega,by omega,?_⟩,by dsimp only;omega⟩
  rw[List.take_succ_eq_append_getElem (by omega),sumW_snoc];rfl
 ·have:i=l:=by omega
  subst this
  rw[List.take_of_length_le (by omega)]
  exact k H1 e1
def flagW (c:Bool):UInt64:=if c then 1 else 0
theorem c75 (c:Bool)(k:R (.int .u64 ((flagW c).toNat:Int)) H):Ru 75 [.bool c] H R:=
 v75 c ⟨fun h=>by subst h;exact k,fun h=>by subst h;exact k⟩
def bodyW (s img:List UInt64):List UInt64:=s++[UInt64.ofNat img.length]++img
def frozen (s img:List UInt64):List UInt64:=bodyW s img++[sumW (bodyW s img)]
theorem bodyW_length (s img:List UInt64):(bodyW s img).length=s.length+1+img.length:=by simp[bodyW];omega
theorem c76 {a:Option Addr}{l c:Nat}{s img:List UInt64}(hs:s.length=16)(h:RowU H a l img)(hl:l<=1048576)
  (k:∀a' c' H',Buf 1 H' H.size a' (l+18) c' (u64s (frozen s img))->Ext H H'->R (.slice a' (l+18) c') H'):Ru 76 [.slice a l c,.agg (u64s s).toArray] H R:=by
 have hil:=h.len
 refine v76 _ _ _ (u64s s) fun H1 p n1=>⟨by unfold I64;omega,by unfold I64;omega,⟨by omega,by omega,by omega,by unfold I64;omega⟩,fun H2 q n2=>?_⟩
 rw[show Int.toNat ((16:Int)+(l:Int)+2)=l+18 from by omega] at n2 ⊢
 have e2:=n1.mod.new n2
 have oz:=n2.ownz
 have hpq:p<q:=by have:=n1.lt;have:=n2.ge;omega
 have hq:H.size<=q:=by have:=n1.mod.1;have:=n2.ge;omega
 refine⟨u64s s,by simp[hs],.inr ⟨p,0,rfl,n2.mod.rdL (by simp) n1.rdL⟩,.inr ⟨q,0,rfl,?_,u64s_one,fun H3 h3=>?_⟩⟩
 ·exact wok_sub oz.2 (by omega) (by simp[hs])
 have o3:=oz.wrL 0 (u64s s) (by simp[hs])
 rw[<-h3] at o3
 have e:(u64s (zeros (l+18))).take 0++u64s s++(u64s (zeros (l+18))).drop (0+(u64s s).length)=u64s (s++zeros (l+2)):=by
  simp only[List.take_zero,List.nil_append,Nat.zero_add,u64s_length,u64s_append,hs]
  congr 1
 rw[e] at o3
 have e3:Ext H H3:=e2.trans_new (wrLM h3) (by simp;omega)
 have b3:Buf 1 H3 H.size (some ⟨q,0,none⟩) 16 (l+18) (u64s s):=by
  refine⟨by simp[hs],by omega,.inr ⟨q,rfl,hq,?_,?_⟩⟩
  ·have:=o3.1;rw[u64s_append,rdL_append] at this;exact this.1
  ·have:=o3.2;simp[hs] at this;rw[show 16+(l+2)=(l+18)*1 from by omega] at this;exact this
 intro H4 q1 n4
 refine⟨u64s [UInt64.ofNat l],rfl,.inr ⟨q1,0,rfl,?_⟩,?_⟩
 ·have:=n4.rdL;rw[ofInt_nat] at this;exact this
 have e4:=e3.new n4
 refine (b3.ext n4.mod).app e4.1 rfl rfl u64s_one (by omega) (by omega) fun a5 c5 H5 S5 b5 m5 hS5=>?_
 have e5:=e4.trans_new m5 fun b hb=>.inr (hS5 b hb)
 refine⟨u64s img,by rw[u64s_length,hil],(Ext.row e5 h).2,?_⟩
 refine b5.app e5.1 (by simp[hil]) rfl u64s_one (by omega) (by omega) fun a6 c6 H6 S6 b6 m6 hS6=>?_
 have e6:=e5.trans_new m6 fun b hb=>.inr (hS6 b hb)
 rw[<-u64s_append,<-u64s_append] at b6
 have hbody:s++[UInt64.ofNat l]++img=bodyW s img:=by rw[<-hil];rfl
 rw[hbody] at b6
 refine c139 b6.row (by omega) fun H7 e7=>⟨_,rfl,fun H8 q8 n8=>⟨u64s [sumW (bodyW s img)],rfl,.inr ⟨q8,0,rfl,n8.rdL⟩,?_⟩⟩
 have e8:=(e6.thenExt e7).new n8
 refine ((b6.ext e7).ext n8.mod).app e8.1 rfl rfl u64s_one (by omega) (by omega) fun a9 c9 H9 S9 b9 m9 hS9=>?_
 have e9:=e8.trans_new m9 fun b hb=>.inr (hS9 b hb)
 rw[<-u64s_append] at b9
 rw[show 16+1+l+1=l+18 from by omega] at b9 ⊢
 exact k a9 c9 H9 b9 e9
theorem cap_at {q m l:Nat}(h:m<=l){H:Heap}{xs:List UInt64}(hr:RdL H q 0 (u64s xs))(hl:xs.length=l)(n:Nat)(hn:m+n<=l){c:Nat}(hc:l<=c):RowU H (slA (some ⟨q,0,none⟩) m c 1) n ((xs.drop m).take n):=by
 refine⟨by simp;omega,?_⟩
 rcases Nat.eq_zero_or_pos n with h0|h0
 ·subst h0;left;simp[u64s]
 ·have hat:=slA_own (q:=q) (m:=m) (n:=1) (l:=c) (by omega)
  unfold At at hat
  rw[hat]
  refine .inr ⟨q,m*1,rfl,?_⟩
  have:=rdL_take (k:=n) (rdL_drop (k:=m) hr)
  rw[Nat.zero_add] at this
  rw[Nat.mul_one]
  simpa [u64s,List.map_drop,List.map_take] using this
theorem u64_sub18 (m:Nat):UInt64.ofNat (m+18)-UInt64.ofNat 18=UInt64.ofNat m:=by
 rw[UInt64.ofNat_add];exact UInt64.add_sub_cancel _ _
theorem c78 {q l c:Nat}{s img:List UInt64}(hs:s.length=16)(hl:l=img.length+18)(hi:img.length<=1048576)(hc:l<=c)(h:RowU H (some ⟨q,0,none⟩) l (frozen s img))
  (k:∀a' c' H',Buf 1 H' H.size a' img.length c' (u64s img)->Ext H H'->R (.tuple #[.slice a' img.length c',.agg (u64s s).toArray,.int .i64 0]) H'):Ru 78 [.slice (some ⟨q,0,none⟩) l c] H R:=by
 have hfl:=h.len
 have hbl:=bodyW_length s img
 have h16:(frozen s img)[16]?=some (UInt64.ofNat img.length):=by
  unfold frozen bodyW
  rw[List.getElem?_append_left (by simp;omega),List.getElem?_append_left (by simp;omega),List.getElem?_append_right (by omega),hs];rfl
 have hlast:(frozen s img)[l-1]?=some (sumW (bodyW s img)):=by
  unfold frozen
  rw[List.getElem?_append_right (by omega),show l-1-(bodyW s img).length=0 from by omega];rfl
 have hget:∀{H':Heap} {K:UInt64->Prop} {i:Int} {x:UInt64},Ext H H'->0<=i->i<l->(frozen s img)[i.toNat]?=some x->K x->∃b o,At (some ⟨q,0,none⟩) b o/\(0<=i/\i<l)/\∃n:UInt64,rd H' b (o+i.toNat)=some (.int .u64 (n.toNat:Int))/\K n:=by
  intro H' K i x e h0 h1 hx hk
  refine RowU.idx (Ext.row e h) h0 h1 ?_
  have:=(List.getElem?_eq_some_iff.1 hx)
  obtain⟨hh,hx'⟩:=this
  rw[hx'];exact hk
 refine v78 _ _ _ fun H1 p n1=>⟨fun H'=>H'=H1,⟨fun h'=>?_,fun _=>?_⟩,?_⟩
 ·have e18:(UInt64.ofNat (nat_lit 18)).toNat=18:=rfl
  rw[ofInt_nat,UInt64.lt_iff_toNat_lt,e18,ofNat_toNat (by omega)] at h';omega
 ·rw[ofInt_nat,hl,u64_sub18]
  rw[hl] at hget
  refine hget (i:=16) n1.mod (by omega) (by omega) h16 ⟨fun h'=>?_,fun _=>hget (i:=16) n1.mod (by omega) (by omega) h16 ⟨fun h'=>?_,fun _=>rfl⟩⟩
  ·rw[UInt64.lt_iff_toNat_lt] at h';omega
  ·rw[UInt64.lt_iff_toNat_lt] at h';omega
 rintro H2 h2
 subst h2
 refine⟨by unfold I64;omega,fun x H'=>x=sumW (bodyW s img)/\Ext H2 H',⟨fun x n H'=>∃i:Nat,n=i/\i<=l-1/\x=sumW ((frozen s img).take i)/\Ext H2 H',fun _ n _=>(l-n).toNat,⟨0,rfl,by omega,rfl,Mod.refl⟩,?_⟩,?_⟩
 ·rintro H3 x n ⟨i,rfl,hi',rfl,e3⟩
  have hbody:(frozen s img).take (l-1)=bodyW s img:=by unfold frozen;rw[List.take_append_of_le_length (by omega),List.take_of_length_le (by omega)]
  refine⟨fun hlt=>hget (i:=(i:Int)) (x:=(frozen s img)[i]'(by omega)) (n1.mod.thenExt e3) (by omega) (by omega) (by rw[Int.toNat_natCast];exact List.getElem?_eq_getElem _) ⟨fun he=>?_,fun hne=>?_⟩,fun hge=>by omega⟩
  ·have:i=l-1:=by omega
   subst this
   rw[hbody];exact⟨rfl,e3⟩
  ·refine sum_step _ _ fun H4 e4=>⟨by unfold I64;omega,⟨i+1,by omega,by omega,?_,e3.thenExt e4⟩,by dsimp only;omega⟩
   rw[List.take_succ_eq_append_getElem (by omega),sumW_snoc]
 ·rintro H3 x ⟨rfl,e3⟩
  have e03:=n1.mod.thenExt e3
  refine hget (i:=(l:Int)-1) e03 (by omega) (by omega) (by rw[show Int.toNat ((l:Int)-1)=l-1 from by omega];exact hlast) ⟨fun h'=>(h' rfl).elim,fun _=>?_⟩
  have op:Own H3 p (u64s (zeros 16)):=n1.own.mod e3 (by simp)
  obtain⟨q',o',e',hr⟩:=(Ext.row e03 h).at (by omega)
  cases e'
  refine⟨u64s s,by rw[u64s_length,hs];omega,.inr ⟨q,0,rfl,?_⟩,.inr ⟨p,0,rfl,?_,u64s_one,fun H4 h4=>⟨⟨⟨by omega,by omega⟩,by omega,by omega⟩,?_⟩⟩⟩
  ·have hr':=hr
   unfold frozen bodyW at hr'
   rw[List.append_assoc,List.append_assoc,u64s_append,rdL_append] at hr'
   exact hr'.1
  ·exact wok_sub op.2 (by omega) (by simp[hs,zeros])
  have o4:=op.swrL (vs:=u64s s) (by simp[hs,zeros])
  rw[<-h4] at o4
  have m4:Mod [p] H3 H4:=wrLM h4
  have hpq:q≠p:=by
   obtain⟨b',o',e',_,n',hn',_⟩:=hget (K:=fun _=>True) (i:=16) Mod.refl (by omega) (by omega) h16 trivial
   cases e'
   have:=rd_lt hn';have:=n1.ge;omega
  have e4:Ext H H4:=e03.trans_new m4 (by have:=n1.ge;simpa using this)
  refine⟨u64s s,by simp[hs],o4.1,?_⟩
  rw[show Int.toNat ((l:Int)-1)-17=img.length from by omega]
  have hrow:=cap_at (m:=17) (l:=l) (by omega) (m4.rdL (by simpa using hpq) hr) hfl img.length (by omega) hc
  have himg:((frozen s img).drop 17).take img.length=img:=by
   unfold frozen bodyW
   rw[List.append_assoc,List.drop_append,List.drop_of_length_le (by simp[hs]),List.nil_append,show 17-(s++[UInt64.ofNat img.length]).length=0 from by simp[hs],List.drop_zero,List.take_append_of_le_length (by omega),List.take_of_length_le (by omega)]
  rw[himg] at hrow
  refine c69 hrow (by omega) fun a5 c5 H5 b5 e5=>⟨_,_,_,rfl,e5.rdL (by simp) o4.1,by simp[hs],u64s_one,?_,fun H6 h6=>?_⟩
  ·exact wok_sub (o4.mod e5 (by simp)).2 (by omega) (by simp[hs])
  have o6:=(o4.mod e5 (by simp)).swrL (vs:=u64s s) rfl
  rw[<-h6] at o6
  have m6:Mod [p] H5 H6:=wrLM h6
  have hp:=n1.ge
  have hp4:p<H4.size:=o4.lt (by cases s<;>simp_all [u64s])
  exact⟨u64s s,by simp[hs],o6.1,k a5 c5 H6 ((b5.mod m6 (by simpa using hp4)).down e4.1) ((e4.thenExt e5).trans_new m6 (by simpa using hp))⟩
end Go.VC
namespace Go.VC
open Go Go.Proofs
variable {H:Heap}{R:Value->Heap->Prop}
theorem c272 {a:Option Addr}{l c:Nat}{ws:List UInt64}(hr:RowU H a l ws)(h0:1<=l)(h1:l<=1048576)
  (k:∀H' b bw,Arena H' b bw ws 0->Ext H H'->H.size<=b->H.size<=bw->R (.tuple #[.pointer (some ⟨b,0,none⟩),.int .i64 0]) H'):Ru 272 [.slice a l c] H R:=by
 have hx:=hr.len
 refine v272 _ _ _ (c170 _ (by omega) (by omega) ⟨_,rfl,fun h'=>(h' rfl).elim,fun _=>c69 hr (by omega) fun a1 c1 H1 hB e1=>⟨_,_,_,rfl,fun H2 p n2=>?_⟩⟩)
 have hle:=hB.le
 obtain⟨bw,rfl,hbw,o⟩:=hB.own (by omega)
 have hlt:=o.lt (u64s_ne (by omega))
 have hp:=n2.ge
 have hz:=e1.1
 exact k H2 p bw ⟨⟨c1,by omega,by rw[hx];exact n2.own⟩,o.mod n2.mod (by simp),by omega,by omega,by omega⟩ (e1.new n2) (by omega) hbw
theorem firstW_le {x:Nat}{s:Held}(ok:HeldOk x s):(firstW s).toNat<=65536:=by
 cases s with
 | none=>simp[firstW]
 | some p=>
  have h1:=ok.1
  simp only[firstW]
  rw[ofNat_toNat (by omega)];omega
theorem c339 {ba bw:Nat}{pre post:List UInt64}{l:List Held}{x given:Nat}(ar:Arena H ba bw (pre++slotsW x l++post) given)(le:pre.length+l.length*(x+1)<=given)(x1:1<=x)(x2:x<=64)(ok:∀s∈l,HeldOk x s)
  (k:∀H' bs,Own H' bs (slotsC pre.length l.length x ba)->Ext H H'->H.size<=bs->R (.tuple #[.pointer (some ⟨bs,0,none⟩),.int .i64 0]) H') :
  Ru 339 [.pointer (some ⟨ba,0,none⟩),.int .i64 (pre.length:Int),.int .i64 (l.length:Int),.int .i64 (x:Int)] H R:=by
 have hf:=ar.few
 have hal:=ar.le
 have hml:=Nat.le_mul_of_pos_right l.length (show 0<x+1 by omega)
 have hmul:(l.length:Int)*((x:Int)+1)=((l.length*(x+1):Nat):Int):=by push_cast;rfl
 refine v339 _ _ _ _ _ fun H1 p n1=>⟨rfl,?_,n1.own.w 0 3 rfl,fun H2 h2=>?_⟩
 ·intro v hv;simp only[List.mem_cons,List.not_mem_nil,or_false] at hv;rcases hv with rfl|rfl|rfl<;>trivial
 obtain⟨e2,o2⟩:=tmpE (cs:=[.int .i64 (pre.length:Int),.int .i64 (l.length:Int),.int .i64 (x:Int)]) n1 rfl h2
 refine⟨_,rfl,o2.1,c175 _ _ _ (by omega) (by omega) (by omega) (by omega) fun H3 e3=>⟨_,rfl,by simp,fun _=>⟨_,rfl,e3.rdL (by simp) o2.1,c176 _ _ _ (by omega) (by omega) fun H4 e4=>⟨_,rfl,?_,?_⟩⟩⟩⟩
 ·rw[hmul];exact⟨by omega,by omega⟩
 rw[hmul]
 have e24:=e3.thenExt e4
 have e04:=e2.thenExt e24
 refine c183 (ar.mod e04 (by simp) (by simp)) _ _ le fun a5 c5 H5 hB5 e5=>⟨_,_,_,_,rfl,fun h'=>(h' rfl).elim,fun _=>⟨fun n H'=>∃i:Nat,n=i/\i<=l.length/\Ext H5 H',fun n _=>(l.length-n).toNat,⟨0,rfl,by omega,Mod.refl⟩,?_⟩⟩
 rintro H6 n ⟨i,rfl,hi,e6⟩
 have e26:=(e24.thenExt e5).thenExt e6
 refine⟨fun hlt=>?_,fun hge=>⟨_,rfl,e26.rdL (by simp) o2.1,rfl,fun H7 q n7=>k H7 q n7.own ((e2.thenExt e26).new n7) (by have:=(e2.thenExt e26).1;have:=n7.ge;omega)⟩⟩
 have hk:i<l.length:=by omega
 have hm:=mul_lt_of hk (Nat.le_refl (l.length*(x+1)))
 refine⟨_,rfl,e26.rdL (by simp) o2.1,c195 _ _ _ _ x2 (by omega) fun H7 e7=>⟨_,rfl,c194 (ar.mod ((e2.thenExt e26).thenExt e7) (by simp) (by simp)) _ (by omega) fun H8 e8=>⟨_,_,rfl,fun h'=>?_,fun _=>⟨by unfold I64;omega,⟨i+1,by omega,by omega,(e6.thenExt e7).thenExt e8⟩,by dsimp only;omega⟩⟩⟩⟩
 obtain⟨a',c',e,ha,_⟩:=shelf_split (pre:=pre) (post:=post) hk ok
 obtain⟨r,hr⟩:=slotW_cons x l[i]
 have hf:(pre++slotsW x l++post)[pre.length+i*(x+1)]'(by omega)=firstW l[i]:=by
  rw[List.getElem_of_eq e (by omega)]
  simp only[hr,<-ha]
  simp
 rw[hf,UInt64.lt_iff_toNat_lt] at h'
 have:=firstW_le (ok _ (List.getElem_mem hk))
 have e65:(UInt64.ofNat (nat_lit 65536)).toNat=65536:=rfl
 omega
theorem c57r {bd bs ba bw:Nat}{at_ pend:Int}{pre post:List UInt64}{l:List Held}{x given:Nat}(h18:rd H bd 18=some (.int .i64 at_))(h19:rd H bd 19=some (.int .i64 pend))(h15:rd H bd 15=some (.pointer (some ⟨bs,0,none⟩)))(sh:Shelf H bs ba bw pre l post x given)
  (k:∀a c H',Buf 1 H' H.size a l.length c (i64s (l.map tagOf))->Ext H H'->R (.agg (spotC at_ pend a l.length c).toArray) H'):Ru 57 [.pointer (some ⟨bd,0,none⟩)] H R:=by
 refine v57 _ _ fun H1 p n1=>⟨_,by rw[Nat.zero_add];exact n1.mod.rd (by simp) h18,_,by rw[Nat.zero_add];exact n1.mod.rd (by simp) h19,_,by rw[Nat.zero_add];exact n1.mod.rd (by simp) h15,?_⟩
 refine c120 (sh.mod n1.mod (by simp) (by simp) (by simp)) fun a c H2 hB e2=>⟨_,_,_,rfl,by rw[Nat.zero_add];exact e2.rd (by simp) (n1.mod.rd (by simp) h19),by rw[Nat.zero_add];exact e2.rd (by simp) (n1.mod.rd (by simp) h18),rfl,?_,(n1.own.mod e2 (by simp)).w 0 3 rfl,fun H3 h3=>?_⟩
 ·intro x hx;simp only[List.mem_cons,List.not_mem_nil,or_false] at hx;rcases hx with rfl|rfl|rfl<;>trivial
 have o2:=n1.own.mod e2 (by simp)
 have m3:Mod [p] H2 H3:=wrLM h3
 refine⟨spotC at_ pend a l.length c,rfl,by rw[h3];exact rdL_wrL o2.2,?_⟩
 have hp:=n1.ge;have hpl:=n1.lt
 exact k a c H3 ((hB.mod m3 (by simpa using hpl)).down n1.mod.1) ((n1.mod.thenExt e2).trans_new m3 (by simpa using hp))
theorem u64i {z:Int}(h0:0<=z)(h1:z<=9223372036854775807):((UInt64.ofInt z).toNat:Int)=z:=by
 obtain⟨n,rfl⟩:=Int.eq_ofNat_of_zero_le h0
 rw[ofInt_nat,ofNat_toNat (by omega)]
theorem c271 {bd:Nat}{m l n:Int}(h4:rd H bd 4=some (.int .i64 m))(h11:rd H bd 11=some (.int .i64 n))(hl:0<=l/\l<65536)(he:m≠2->l=n)(k:R (.bool true) H):Ru 271 [.pointer (some ⟨bd,0,none⟩),.int .u64 ((UInt64.ofInt l).toNat:Int)] H R:=by
 refine v271 _ _ _ ⟨_,by rw[Nat.zero_add];exact h4,fun _=>?_,fun hm=>⟨_,by rw[Nat.zero_add];exact h11,?_⟩⟩
 ·have e65:(UInt64.ofNat (nat_lit 65536)).toNat=65536:=rfl
  have:=u64i (z:=l) (by omega) (by omega)
  rw[decide_eq_true (by rw[UInt64.lt_iff_toNat_lt,e65];omega)];exact k
 ·rw[decide_eq_true (by rw[he hm])];exact k
end Go.VC
namespace Go.VC
open Go Go.Proofs
variable {H:Heap}{R:Value->Heap->Prop}
structure SemG (h:Hdr)(d:DS)(tags:List Int)(s:PS)(K:List UInt64):Prop where
 sem:(h.mode≠3/\K=slotsW (nX h) (heldOf h tags)/\DSem h d tags s)\/(h.mode=3/\tags=[]/\BSem h d s K)
theorem held_count (h:Hdr)(tags:List Int):(heldOf h tags).countP (·.isSome)=heldN tags:=by
 unfold heldOf heldN
 rw[List.countP_map]
 congr 1
 funext t
 simp only[Function.comp_apply]
 split
 ·simp;omega
 ·simp;omega
def drvS (h:Hdr)(bs:Nat):Value:=if h.mode=3 then .pointer none else .pointer (some ⟨bs,0,none⟩)
theorem c273 {h:Hdr}{hp:HAt}{d dd:DS}(hdd:dd.l=d.l/\dd.at_=d.at_/\dd.pend=d.pend){s:PS}{tags:List Int}{post:List UInt64}{bd ba bw g8:Nat}{pa:Option Addr}{pc:Nat}{M:Value}(o:Own H bd (drvL (i64s (planL h)) (hdrC h hp) (.slice pa 10 pc) (.pointer (some ⟨ba,0,none⟩)) (.pointer none) M dd))
  (rp:RowI H pa 10 (placesOf h)) {K:List UInt64} (sg:SemG h d tags s K) (ok:PlanOk h) (h8:((partsOf h).take 8).sum=s.l.flatten.length) (ar:Arena H ba bw (s.l.flatten++K++post) g8) (hg:g8=s.l.flatten.length+K.length) (hba:ba≠bd) (hbw:bw≠bd)
  (k:∀H' bs,Own H' bd (drvL (i64s (planL h)) (hdrC h hp) (.slice pa 10 pc) (.pointer (some ⟨ba,0,none⟩)) (drvS h bs) M dd)->(h.mode≠3->RdL H' bs 0 (slotsC s.l.flatten.length (slotsOf h).toNat (nX h) ba)/\H.size<=bs)->Mod [bd] H H'->R (.bool true) H'):Ru 273 [.pointer (some ⟨bd,0,none⟩)] H R:=by
 have hbdl:bd<H.size:=o.lt (by simp[drvL,i64s,planL])
 refine v273 _ _ (v110 _ _ ⟨_,by rw[Nat.zero_add];exact o.rd 4 rfl,⟨_,rfl,fun hm=>?_,fun hm=>?_⟩⟩)
 ·simp at hm
  refine k H 0 ?_ (fun h3=>(h3 hm).elim) Mod.refl
  unfold drvS;rw[if_pos hm];exact o
 ·simp at hm
  obtain⟨_,rfl,sem⟩|⟨h3,_⟩:=sg.sem
  rotate_left
  ·exact (hm h3).elim
  obtain⟨pb,po,pe,pr⟩:=rp.at (by omega)
  obtain⟨d1,d2,d3,d4,d5⟩:=ok.1.dims
  obtain⟨sl0,sl1,sl2,sl3⟩:=slots_small ok
  have hlen:=sem.len
  have hhl:(heldOf h tags).length=(slotsOf h).toNat:=by rw[heldOf_length,hlen]
  have hok:=heldOf_ok ok.1.dims sem.mok
  have r8:rd H pb (po+8)=some (.int .i64 ((s.l.flatten.length:Nat):Int)):=by
   refine rdL_get' pr ?_
   simp only[i64s,List.getElem?_map,places_get h (show 8<=8 by omega),Option.map_some,h8]
  refine⟨_,by rw[Nat.zero_add];exact o.rd 14 rfl,_,_,_,by rw[Nat.zero_add];exact o.rd 13 rfl,pb,po,pe,⟨by omega,by omega⟩,_,r8,_,by rw[Nat.zero_add];exact o.rd 3 rfl,_,_,_,by rw[Nat.zero_add];exact o.rd 5 rfl,?_⟩
  have hsn:slotsOf h=(((heldOf h tags).length:Nat):Int):=by rw[hhl];omega
  have key:=c339 (R:=fun r H'=>∃v n,r=.tuple #[v,.int .i64 n]/\(¬n=0->R (.bool false) H')/\(¬¬n=0->One v/\WOk H' bd (0+15) 1/\∀H'_1,H'_1=wr H' bd (0+15) v->∃n,rd H'_1 bd (0+17)=some (.int .i64 n)/\Ru 57 [.pointer (some ⟨bd,0,none⟩)] H'_1 fun r H'=>∃cs:List Value,cs.length=3/\r=.agg cs.toArray/\rd H' bd (0+17)=some (.int .i64 n)/\Ru 117 [.int .i64 n,.agg cs.toArray] H' fun r H'=>∃v n,r=.tuple #[v,.int .i64 n]/\R (.bool (decide (n=0))) H')) ar (by rw[hg,slotsW_length hok];exact Nat.le_refl _) (by simp only[nX];omega) (by simp only[nX];omega) hok fun H1 bs o1 e1 hbs=>?_
  ·rw[<-hsn] at key;exact key
  refine⟨_,_,rfl,fun h'=>(h' rfl).elim,fun _=>⟨trivial,?_,fun H2 h2=>?_⟩⟩
  ·rw[Nat.zero_add];exact (o.mod e1 (by simp)).w 15 1 rfl
  rw[Nat.zero_add] at h2
  have o2:=(o.mod e1 (by simp)).wr 15 (.pointer (some ⟨bs,0,none⟩))
  rw[<-h2] at o2
  have m2:Mod [bd] H1 H2:=wrM h2
  have o2':Own H2 bd (drvL (i64s (planL h)) (hdrC h hp) (.slice pa 10 pc) (.pointer (some ⟨ba,0,none⟩)) (.pointer (some ⟨bs,0,none⟩)) M dd):=o2
  have r17:rd H2 bd 17=some (.int .i64 d.l):=by rw[<-hdd.1];exact o2'.rd 17 rfl
  have r18:rd H2 bd 18=some (.int .i64 d.at_):=by rw[<-hdd.2.1];exact o2'.rd 18 rfl
  have r19:rd H2 bd 19=some (.int .i64 d.pend):=by rw[<-hdd.2.2];exact o2'.rd 19 rfl
  have hbsd:bs≠bd:=by omega
  have os2:=o1.mod m2 (by simpa using hbsd)
  have ar2:=(ar.mod e1 (by simp) (by simp)).mod m2 (by simpa using hba) (by simpa using hbw)
  have hal:=ar.lt
  have hrl:bw<H.size:=ar.row.lt (u64s_ne (by have:=sem.st;have:=st_length ok.1.dims d.at_.toNat;simp only[List.length_append,PS.l,List.flatten_cons,nX] at *;rw[sem.st];omega))
  have sh:Shelf H2 bs ba bw s.l.flatten (heldOf h tags) post (nX h) g8:=⟨os2.1,ar2,by rw[hg,slotsW_length hok];exact Nat.le_refl _,by simp only[nX];omega,by simp only[nX];omega,hok,by omega,by omega⟩
  refine⟨_,by rw[Nat.zero_add];exact r17,c57r r18 r19 (o2'.rd 15 rfl) sh fun a c H3 hB e3=>⟨_,rfl,rfl,by rw[Nat.zero_add];exact e3.rd (by simp) r17,?_⟩⟩
  rw[held_tags sem.mok,heldOf_length] at hB
  rw[heldOf_length]
  refine c117 d.l d.at_ d.pend hB.row sem.mok fun H4 bm a4 c4 _ e4=>⟨_,_,rfl,?_⟩
  have e24:=e3.thenExt e4
  have m04:Mod [bd] H H4:=((Mod.ext e1).trans m2).thenExt e24
  have:=k H4 bs (by unfold drvS;rw[if_neg hm];exact o2'.mod e24 (by simp)) (fun _=>⟨?_,hbs⟩) m04
  ·simpa using this
  ·rw[<-hhl];exact e24.rdL (by simp) os2.1
theorem c274 {h:Hdr}{d:DS}{bd bs ba bw g:Nat}{pre post:List UInt64}{tags:List Int}(h4:rd H bd 4=some (.int .i64 h.mode))(h15:h.mode≠3->rd H bd 15=some (.pointer (some ⟨bs,0,none⟩))/\Shelf H bs ba bw pre (heldOf h tags) post (nX h) g)(h18:rd H bd 18=some (.int .i64 d.at_))(h19:rd H bd 19=some (.int .i64 d.pend))
  (k:∀H' n,Ext H H'->(h.mode≠3->n=(heldN tags:Int))->(h.mode=3->n=if d.pend<0 then d.at_ else d.pend)->R (.int .i64 n) H'):Ru 274 [.pointer (some ⟨bd,0,none⟩)] H R:=by
 refine v274 _ _ (v110 _ _ ⟨_,by rw[Nat.zero_add];exact h4,⟨_,rfl,fun hm=>?_,fun hm=>?_⟩⟩)
 ·simp at hm
  obtain⟨hp,sh⟩:=h15 hm
  refine⟨_,by rw[Nat.zero_add];exact hp,c340 sh fun H1 e1=>⟨_,rfl,k H1 _ e1 (fun _=>?_) fun h3=>(hm h3).elim⟩⟩
  rw[held_count]
 ·simp at hm
  refine⟨_,by rw[Nat.zero_add];exact h19,fun hlt=>⟨_,by rw[Nat.zero_add];exact h18,k H _ Mod.refl (fun h3=>(h3 hm).elim) fun _=>(if_pos hlt).symm⟩,fun hge=>⟨_,by rw[Nat.zero_add];exact h19,k H _ Mod.refl (fun h3=>(h3 hm).elim) fun _=>(if_neg hge).symm⟩⟩
end Go.VC
namespace Go.VC
open Go Go.Proofs
variable {H:Heap}{R:Value->Heap->Prop}
structure SmallD (h:Hdr)(d:DS):Prop where
 l:0<=d.l/\d.l<65536
 a:0<=d.at_/\d.at_<=d.l
 p : -1<=d.pend/\d.pend<=d.l
 v:0<=d.live/\d.live<=d.peak/\d.peak<=h.words
 w:1<=h.words/\h.words<=1048576
 c:DCnt d 2305843009213693952
 n:h.mode≠2->d.l=h.len
theorem scal_rest (h:Hdr)(d:DS)(y:List UInt64):u64s ((scalI h d).map UInt64.ofInt++[d.loss]++y)=[.int .u64 ((UInt64.ofInt h.mode).toNat:Int),.int .u64 ((UInt64.ofInt d.l).toNat:Int),.int .u64 ((UInt64.ofInt d.at_).toNat:Int),.int .u64 ((UInt64.ofInt (d.pend+1)).toNat:Int),.int .u64 ((UInt64.ofInt (slotsOf h)).toNat:Int),
  .int .u64 ((UInt64.ofInt d.plain).toNat:Int),.int .u64 ((UInt64.ofInt d.tapd).toNat:Int),.int .u64 ((UInt64.ofInt d.losses).toNat:Int),.int .u64 ((UInt64.ofInt d.sweeps).toNat:Int),.int .u64 ((UInt64.ofInt d.live).toNat:Int),.int .u64 ((UInt64.ofInt d.peak).toNat:Int),.int .u64 (d.loss.toNat:Int)]++u64s y:=by
 rw[u64s_append];rfl
theorem c209 {h:Hdr}{hp:HAt}{d:DS}{s:PS}{tags:List Int}{K post:List UInt64}{bd:Nat}{pa:Option Addr}{pc:Nat}{H0:Heap}{b0:DB}(v:Drv H0 b0 h d s K post)(sg:SemG h d tags s K)(sm:SmallD h d)
  (o:Own H bd (drvL (i64s (planL h)) (hdrC h hp) (.slice pa 10 pc) (.pointer none) (.pointer none) (.pointer none) (d0 h 0))) (rr:HRows H h hp) (rp:RowI H pa 10 (placesOf h))
  (nx:∀b o,0<h.x.length->hp.xa=some ⟨b,o,none⟩->b≠bd) (nt:∀b o,0<h.th.length->hp.ta=some ⟨b,o,none⟩->b≠bd) (ns:∀b o,0<h.step.ops.length->hp.sa=some ⟨b,o,none⟩->b≠bd) (nl:∀b o,0<h.loss.ops.length->hp.la=some ⟨b,o,none⟩->b≠bd) (np:∀b o,pa=some ⟨b,o,none⟩->b≠bd)
  {a:Option Addr} {l c:Nat} (hr:RowU H a l (s.l.flatten++K++post)) (hra:∀b o,a=some ⟨b,o,none⟩->b≠bd) (y:List UInt64)
  (k:∀H' ba bw bm bs,Drv H' ⟨bd,ba,bw,bm,bs,hp,pa,pc⟩ h d s K post->H.size<=ba->H.size<=bw->H.size<=bm->H.size<=bs->Mod [bd] H H'->R (.bool true) H') :
  Ru 209 [.pointer (some ⟨bd,0,none⟩),.slice a l c,.agg (u64s ((scalI h d).map UInt64.ofInt++[d.loss]++y)).toArray] H R:=by
 obtain⟨sl,sa,sp,sv,sw,sc,sn⟩:=sm
 have ok:=v.ok
 have hlt:l=(s.l.flatten++K++post).length:=hr.len.symm
 have htot:=v.tot
 rw[<-hlt] at htot
 rw[scal_rest]
 obtain⟨q0,q1,q2,q3⟩:=slots_small ok
 obtain⟨c1,c2,c3,c4⟩:=sc
 have ul:=u64i sl.1 (by omega);have ua:=u64i sa.1 (by omega);have up:=u64i (z:=d.pend+1) (by omega) (by omega)
 have uv:=u64i sv.1 (by omega);have uk:=u64i (z:=d.peak) (by omega) (by omega);have uw:=u64i (z:=h.words) (by omega) (by omega)
 have k1:=u64i c1.1 (by omega);have k2:=u64i c2.1 (by omega);have k3:=u64i c3.1 (by omega);have k4:=u64i c4.1 (by omega)
 have hbdl:bd<H.size:=o.lt (by simp[drvL,i64s,planL])
 refine v209 _ _ _ _ _ _ fun H1 p n1=>?_
 have o1:=o.mod n1.mod (by simp)
 have hpd:p≠bd:=by have:=n1.ge;omega
 have hpg:=n1.ge
 have rs:∀{H':Heap} (i:Nat) (w:Value),Mod [bd] H1 H'->i<12->[Value.int .u64 ((UInt64.ofInt h.mode).toNat:Int),.int .u64 ((UInt64.ofInt d.l).toNat:Int),.int .u64 ((UInt64.ofInt d.at_).toNat:Int),.int .u64 ((UInt64.ofInt (d.pend+1)).toNat:Int),.int .u64 ((UInt64.ofInt (slotsOf h)).toNat:Int),
  .int .u64 ((UInt64.ofInt d.plain).toNat:Int),.int .u64 ((UInt64.ofInt d.tapd).toNat:Int),.int .u64 ((UInt64.ofInt d.losses).toNat:Int),.int .u64 ((UInt64.ofInt d.sweeps).toNat:Int),.int .u64 ((UInt64.ofInt d.live).toNat:Int),.int .u64 ((UInt64.ofInt d.peak).toNat:Int),.int .u64 (d.loss.toNat:Int)][i]?=some w->rd H' p i=some w:=by
  intro H' i w m hi hw
  refine m.rd (by simpa using hpd) ?_
  rw[n1.rd,List.getElem?_append_left (by simpa using hi)];exact hw
 refine⟨_,by rw[Nat.zero_add];exact o1.rd 12 rfl,fun H'=>H'=H1,⟨fun hne=>(hne (by rw[htot])).elim,fun _=>⟨⟨by omega,by omega⟩,_,rs 0 _ Mod.refl (by omega) rfl,_,by rw[Nat.zero_add];exact o1.rd 4 rfl,fun hne=>(hne rfl).elim,fun _=>⟨⟨by omega,by omega⟩,_,rs 4 _ Mod.refl (by omega) rfl,_,by rw[Nat.zero_add];exact o1.rd 3 rfl,fun hne=>(hne rfl).elim,fun _=>
  ⟨⟨by omega,by omega⟩,_,rs 1 _ Mod.refl (by omega) rfl,c271 (o1.rd 4 rfl) (o1.rd 11 rfl) sl sn ⟨_,rfl,fun h'=>by simp at h',fun _=>⟨⟨by omega,by omega⟩,_,rs 2 _ Mod.refl (by omega) rfl,⟨by omega,by omega⟩,_,rs 1 _ Mod.refl (by omega) rfl,fun h'=>?_,fun _=>⟨⟨by omega,by omega⟩,_,rs 3 _ Mod.refl (by omega) rfl,⟨by omega,by omega⟩,_,rs 1 _ Mod.refl (by omega) rfl,fun h'=>?_,fun _=>
  ⟨⟨by omega,by omega⟩,_,rs 9 _ Mod.refl (by omega) rfl,fun h'=>?_,fun _=>⟨⟨by omega,by omega⟩,_,rs 10 _ Mod.refl (by omega) rfl,fun h'=>?_,fun _=>rfl⟩⟩⟩⟩⟩⟩⟩⟩⟩,?_⟩
 ·rw[UInt64.lt_iff_toNat_lt] at h';omega
 ·have e1:(UInt64.ofNat (nat_lit 1)).toNat=1:=rfl
  rw[UInt64.lt_iff_toNat_lt,UInt64.toNat_add,e1] at h';omega
 ·rw[UInt64.lt_iff_toNat_lt] at h';omega
 ·rw[UInt64.lt_iff_toNat_lt] at h';omega
 rintro H2 h2
 subst h2
 refine⟨⟨by omega,by omega⟩,_,rs 1 _ Mod.refl (by omega) rfl,by omega,⟨by omega,by omega⟩,_,rs 2 _ Mod.refl (by omega) rfl,by omega,⟨by omega,by omega⟩,_,rs 3 _ Mod.refl (by omega) rfl,by omega,by unfold I64;omega,by rw[Nat.zero_add];exact o1.w 17 1 rfl,fun H3 h3=>?_⟩
 rw[Nat.zero_add] at h3
 have o3:=o1.wr 17 (.int .i64 ((UInt64.ofInt d.l).toNat:Int))
 rw[<-h3] at o3
 have m3:Mod [bd] H2 H3:=wrM h3
 refine⟨rs 3 _ m3 (by omega) rfl,rs 2 _ m3 (by omega) rfl,by rw[Nat.zero_add];exact o3.w 18 1 rfl,fun H4 h4=>?_⟩
 rw[Nat.zero_add] at h4
 have o4:=o3.wr 18 (.int .i64 ((UInt64.ofInt d.at_).toNat:Int))
 rw[<-h4] at o4
 have m4:=m3.trans (wrM h4)
 refine⟨rs 3 _ m4 (by omega) rfl,by rw[Nat.zero_add];exact o4.w 19 1 rfl,fun H5 h5=>?_⟩
 rw[Nat.zero_add] at h5
 have o5:=o4.wr 19 (.int .i64 (((UInt64.ofInt (d.pend+1)).toNat:Int)-1))
 rw[<-h5] at o5
 have m5:=m4.trans (wrM h5)
 rw[ul,ua,up,show d.pend+1-1=d.pend from by omega] at o5
 clear h3 h4 h5 o3 o4
 have m05:Mod [bd] H H5:=(Mod.ext n1.mod).trans m5
 have hoff:Off [bd] a:=fun b o e hb=>by simp at hb;exact hra b o e hb
 refine c272 (m05.row hoff hr) (by omega) (by omega) fun H6 ba bw ar6 e6 hba hbw=>⟨_,_,rfl,trivial,by rw[Nat.zero_add];exact (o5.mod e6 (by simp)).w 14 1 rfl,fun H7 h7=>?_⟩
 rw[Nat.zero_add] at h7
 have o7:=(o5.mod e6 (by simp)).wr 14 (.pointer (some ⟨ba,0,none⟩))
 rw[<-h7] at o7
 have m57:Mod [bd] H5 H7:=(Mod.ext e6).trans (wrM h7)
 have z5:=m05.1
 have ar7:=ar6.mod (wrM h7) (by simp;omega) (by simp;omega)
 clear h7
 have m07:=m05.trans m57
 have m17:=m5.trans m57
 have z7:=m07.1
 have hal:=ar7.lt
 have hwl:bw<H7.size:=ar7.row.lt (u64s_ne (by omega))
 have o7':Own H7 bd (drvL (i64s (planL h)) (hdrC h hp) (.slice pa 10 pc) (.pointer (some ⟨ba,0,none⟩)) (.pointer none) (.pointer none) { d0 h 0 with l:=d.l,at_:=d.at_,pend:=d.pend }):=o7
 have hpo:Off [bd] pa:=fun b o e hb=>by simp at hb;exact np b o e hb
 have rp7:=Mod.row m07 hpo rp
 obtain⟨pb,po,pe,pr⟩:=rp7.at (by omega)
 have hkl:=v.kl
 have h8:((partsOf h).take 8).sum=((s.l.flatten.length:Nat):Int):=by have:=v.offs_ 8 (by omega);exact this.symm
 have r8:rd H7 pb (po+8)=some (.int .i64 ((s.l.flatten.length:Nat):Int)):=by
  refine rdL_get' pr ?_
  simp only[i64s,List.getElem?_map,places_get h (show 8<=8 by omega),Option.map_some,h8]
 have hmul:slotsOf h*slotOf h=(K.length:Int):=by rw[Int.mul_comm,hkl]
 have hall:s.l.flatten.length+K.length<=(s.l.flatten++K++post).length:=by simp
 refine⟨_,by rw[Nat.zero_add];exact o7'.rd 14 rfl,_,_,_,by rw[Nat.zero_add];exact o7'.rd 13 rfl,pb,po,pe,⟨by omega,by omega⟩,_,r8,_,by rw[Nat.zero_add];exact o7'.rd 3 rfl,_,by rw[Nat.zero_add];exact o7'.rd 2 rfl,?_⟩
 rw[hmul,<-Int.natCast_add]
 refine⟨by unfold I64;omega,by unfold I64;omega,c109 _ ar7 (by omega) fun H8 ar8 m8=>⟨_,_,rfl,?_⟩⟩
 rw[Nat.zero_add] at ar8
 have m78:Ext H7 H7:=Mod.refl
 have o8:=o7'.mod m8 (by simp;omega)
 have hge8:H.size<=ba/\H.size<=bw:=⟨by omega,by omega⟩
 have hbad:ba≠bd:=by omega
 have hbwd:bw≠bd:=by omega
 have m08:Mod [bd] H H8:=m07.trans_new m8 (by simp;omega)
 have m18:Mod [bd] H2 H8:=m17.trans_new m8 (by simp;have:=n1.mod.1;have:=m5.1;omega)
 have z78:=m8.1
 refine⟨fun H'=>∃bs,Own H' bd (drvL (i64s (planL h)) (hdrC h hp) (.slice pa 10 pc) (.pointer (some ⟨ba,0,none⟩)) (drvS h bs) (.pointer none) { d0 h 0 with l:=d.l,at_:=d.at_,pend:=d.pend })/\(h.mode≠3->RdL H' bs 0 (slotsC s.l.flatten.length (slotsOf h).toNat (nX h) ba)/\H8.size<=bs)/\Mod [bd] H8 H',?_,?_⟩
 ·refine c273 (d:=d) (dd:={ d0 h 0 with l:=d.l,at_:=d.at_,pend:=d.pend }) ⟨rfl,rfl,rfl⟩ o8 (Mod.row m08 hpo rp) sg ok h8 ar8 rfl hbad hbwd fun H9 bs o9 hs9 m9=>⟨_,rfl,by simp,fun _=>?_⟩
  have m19:=m18.trans m9
  refine⟨⟨by omega,by omega⟩,_,rs 9 _ m19 (by omega) rfl,by omega,_,o9.rd 0 rfl,_,by rw[Nat.zero_add];exact o9.rd 2 rfl,?_⟩
  refine c274 (d:=d) (bs:=bs) (ba:=ba) (bw:=bw) (pre:=s.l.flatten) (post:=post) (tags:=tags) (g:=s.l.flatten.length+K.length) (o9.rd 4 rfl) (fun hm=>?_) (o9.rd 18 rfl) (o9.rd 19 rfl) fun H10 n e10 hn hn3=>⟨_,rfl,by rw[Nat.zero_add];exact e10.rd (by simp) (o9.rd 2 rfl),e10.rd (by simp) (o9.rd 0 rfl),rs 9 _ (m19.thenExt e10) (by omega) rfl,?_⟩
  ·refine⟨?_,?_⟩
   ·have:=o9.rd 15 rfl
    unfold drvS at this;rw[if_neg hm] at this;exact this
   ·obtain⟨_,rfl,sem⟩|⟨h3,_⟩:=sg.sem
    ·obtain⟨d1,d2,d3,d4,d5⟩:=ok.1.dims
     have hok:=heldOf_ok ok.1.dims sem.mok
     have hhl:(heldOf h tags).length=(slotsOf h).toNat:=by rw[heldOf_length,sem.len]
     obtain⟨hs1,hs2⟩:=hs9 hm
     rw[<-hhl] at hs1
     exact⟨hs1,ar8.mod m9 (by simpa using hbad) (by simpa using hbwd),by rw[slotsW_length hok];exact Nat.le_refl _,by simp only[nX];omega,by simp only[nX];omega,hok,by have:=ar8.lt;omega,by omega⟩
    ·exact (hm h3).elim
  have hlive:d.live=fixedOf h+n*slotOf h/\0<=fixedOf h/\0<=n*slotOf h:=by
   have hfx:0<=fixedOf h:=(small_sum ok.1 7).1
   rcases sg.sem with ⟨hm,_,sem⟩|⟨hm,_,sem⟩
   ·have h1:=sem.live
    rw[hn hm,Int.mul_comm]
    have:=slot_eq hm
    have h2:=Int.mul_nonneg (show 0<=slotOf h by omega) (show (0:Int)<=(heldN tags:Int) by omega)
    exact⟨h1,hfx,h2⟩
   ·have h1:=sem.live
    have hs3:=slot3 hm ok.1
    have hne:n=d.at_:=by
     rw[hn3 hm];split
     ·rfl
     ·exact (sem.p1 (by omega)).symm
    rw[hne,Int.mul_comm]
    have h2:=Int.mul_nonneg (show 0<=slotOf h by omega) sa.1
    exact⟨h1,hfx,h2⟩
  obtain⟨hv1,hv2,hv3⟩:=hlive
  have hplan:∀(x:Int),x=fixedOf h->I64 (n*slotOf h)/\I64 (x+n*slotOf h)/\(¬((UInt64.ofInt d.live).toNat:Int)=x+n*slotOf h->R (.bool false) H10)/\(¬¬((UInt64.ofInt d.live).toNat:Int)=x+n*slotOf h->∃bs,Own H10 bd (drvL (i64s (planL h)) (hdrC h hp) (.slice pa 10 pc) (.pointer (some ⟨ba,0,none⟩)) (drvS h bs) (.pointer none) { d0 h 0 with l:=d.l,at_:=d.at_,pend:=d.pend })/\(h.mode≠3->RdL H10 bs 0 (slotsC s.l.flatten.length (slotsOf h).toNat (nX h) ba)/\H8.size<=bs)/\Mod [bd] H8 H10):=by
   rintro _ rfl
   refine⟨by unfold I64;omega,by unfold I64;omega,fun hne=>(hne (by omega)).elim,fun _=>⟨bs,o9.mod e10 (by simp),fun hm=>⟨e10.rdL (by simp) (hs9 hm).1,(hs9 hm).2⟩,m9.thenExt e10⟩⟩
  exact hplan _ rfl
 ·rintro H9 ⟨bs,o9,hs9,m9⟩
  have m19:=m18.trans m9
  have z9:=m9.1
  refine⟨_,by rw[Nat.zero_add];exact o9.rd 12 rfl,⟨by omega,by omega⟩,_,rs 9 _ m19 (by omega) rfl,by omega,⟨by omega,by omega⟩,_,rs 10 _ m19 (by omega) rfl,by omega,?_⟩
  rw[uv,uk]
  refine c171 h.words d.live d.peak sv.1 sv.2.1 sv.2.2 fun H10 bm n10=>⟨_,_,rfl,trivial,by rw[Nat.zero_add];exact (o9.mod n10.mod (by simp)).w 16 1 rfl,fun H11 h11=>?_⟩
  rw[Nat.zero_add] at h11
  have o11:=(o9.mod n10.mod (by simp)).wr 16 (.pointer (some ⟨bm,0,none⟩))
  rw[<-h11] at o11
  have hbm:=n10.ge
  have hbml:=n10.lt
  have m911:Mod [bd] H9 H11:=(Mod.ext n10.mod).trans (wrM h11)
  have met11:=n10.own.mod (wrM h11) (by simp;omega)
  have z1011:=(wrM h11).1
  clear h11
  have m111:=m19.trans m911
  have z911:=m911.1
  refine⟨⟨by omega,by omega⟩,_,rs 5 _ m111 (by omega) rfl,by omega,⟨by omega,by omega⟩,_,rs 6 _ m111 (by omega) rfl,by omega,⟨by omega,by omega⟩,_,rs 7 _ m111 (by omega) rfl,by omega,⟨by omega,by omega⟩,_,rs 8 _ m111 (by omega) rfl,by omega,rfl,?_,by rw[Nat.zero_add];exact o11.w 20 4 rfl,fun H12 h12=>?_⟩
  ·intro x hx;simp only[List.mem_cons,List.not_mem_nil,or_false] at hx;rcases hx with rfl|rfl|rfl|rfl<;>trivial
  rw[k1,k2,k3,k4,Nat.zero_add] at h12
  have o12:=o11.wrL 20 [.int .i64 d.plain,.int .i64 d.tapd,.int .i64 d.losses,.int .i64 d.sweeps] (by simp[drvL,i64s,planL,hdrC])
  rw[<-h12] at o12
  have m1112:Mod [bd] H11 H12:=wrLM h12
  clear h12
  have m112:=m111.trans m1112
  refine⟨⟨by omega,by omega⟩,_,rs 11 _ m112 (by omega) rfl,by rw[Nat.zero_add];exact o12.w 24 1 rfl,fun H13 h13=>?_⟩
  rw[Nat.zero_add] at h13
  have o13:=o12.wr 24 (.int .u64 (d.loss.toNat:Int))
  rw[<-h13] at o13
  have m1213:Mod [bd] H12 H13:=wrM h13
  clear h13
  have m1113:=m1112.trans m1213
  have z1113:=m1113.1
  let bs':=if h.mode=3 then H13.size else bs
  have hS:drvS h bs=slotsPtr h ⟨bd,ba,bw,bm,bs',hp,pa,pc⟩:=by
   unfold drvS slotsPtr
   split
   ·rfl
   ·rename_i hm;simp only[bs',if_neg hm]
  rw[hS] at o13
  have o13':Own H13 bd (drvC h ⟨bd,ba,bw,bm,bs',hp,pa,pc⟩ d):=o13
  have m013:Mod [bd] H H13:=((m08.trans m9).trans m911).trans m1113
  have hbs:H8.size<=bs'/\bs'≠bm:=by
   by_cases hm:h.mode=3
   ·simp only[bs',if_pos hm];omega
   ·simp only[bs',if_neg hm]
    have h1:=rd_lt (hs9 hm).1.1
    have h2:=(hs9 hm).2
    omega
  have rlt:∀{sz l:Nat} {a:Option Addr} {cells:List Value},Row sz H a l cells->0<sz->0<l->∀b o,a=some ⟨b,o,none⟩->b<H.size:=by
   intro sz l a cells hr hz hl b o e
   apply Classical.byContradiction
   intro hn
   exact hr.fresh (S:=[b]) hz hl (by simp;omega) b o e (by simp)
  have off:∀{a:Option Addr} {l:Nat},(0<l->∀b o,a=some ⟨b,o,none⟩->b≠bd)->(0<l->∀b o,a=some ⟨b,o,none⟩->b<H.size)->0<l->Off [bd,ba,bw,bm] a:=by
   intro a l h1 h2 hl b o e hb
   have:=h1 hl b o e;have:=h2 hl b o e
   simp at hb;omega
  have of:ROff h ⟨bd,ba,bw,bm,bs',hp,pa,pc⟩ [bd,ba,bw,bm]:=
   ⟨fun h0=>off (fun h1 b o e=>nx b o h1 e) (fun h1=>rlt rr.x (by omega) h1) h0,fun h0=>off (fun h1 b o e=>nt b o h1 e) (fun h1=>rlt rr.th (by omega) h1) h0,fun h0=>off (fun h1 b o e=>ns b o h1 e) (fun h1=>rlt rr.s (by omega) h1) h0,
    fun h0=>off (fun h1 b o e=>nl b o h1 e) (fun h1=>rlt rr.l (by omega) h1) h0,off (l:=10) (fun h1 b o e=>np b o e) (fun h1=>rlt rp (by omega) h1) (by omega)⟩
  have of':=of.mono (T:=[bd]) (by simp)
  have hbal:ba<H8.size:=ar8.lt
  have hbwl:bw<H8.size:=by omega
  have:=k H13 ba bw bm bs' ⟨o13',((ar8.mod m9 (by simpa using hbad) (by simpa using hbwd)).mod m911 (by simpa using hbad) (by simpa using hbwd)).mod m1113 (by simpa using hbad) (by simpa using hbwd),met11.mod m1113 (by simp;omega),HRows.mod (b:=⟨bd,ba,bw,bm,bs',hp,pa,pc⟩) rr m013 of',Mod.row m013 hpo rp,v.plen,v.pl,v.kl,v.tot,fun hm=>?_,ok,by dsimp only;omega,by dsimp only;omega,by dsimp only;omega,by dsimp only;omega,by dsimp only;omega,⟨by dsimp only;omega,by dsimp only;omega,by dsimp only;omega,by dsimp only;omega⟩,of⟩ hge8.1 hge8.2 (by omega) (by omega) m013
  ·simpa using this
  ·have h1:=hs9 hm
   have h2:bs'=bs:=by simp only[bs',if_neg hm]
   show RdL H13 bs' 0 _
   rw[h2]
   exact m1113.rdL (by simp;omega) (m911.rdL (by simp;omega) h1.1)
end Go.VC
namespace Go.VC
open Go Go.Proofs
variable {H:Heap}{R:Value->Heap->Prop}
noncomputable def scalE (h:Hdr)(d:DS)(ended:Bool):List UInt64:=(scalI h d).map UInt64.ofInt++[d.loss]++[flagW ended,0,0,0]
theorem scalE_length (h:Hdr)(d:DS)(ended:Bool):(scalE h d ended).length=16:=rfl
theorem c32 {be:Nat}{b:DB}{h:Hdr}{d:DS}{tags:List Int}{ended:Bool}{s:PS}{K post:List UInt64}(e:EngG H be b h d tags ended false s K post)(hp : -1<=d.pend/\d.pend<=65536)
  (k:∀a' c' H',Buf 1 H' H.size a' ((s.l.flatten++K++post).length+18) c' (u64s (frozen (scalE h d ended) (s.l.flatten++K++post)))->Ext H H'->R (.tuple #[.slice a' ((s.l.flatten++K++post).length+18) c',.int .i64 0]) H'):Ru 32 [.pointer (some ⟨be,0,none⟩)] H R:=by
 have hf:=e.drv.ar.few
 refine v32 _ _ (v21 _ _ fun H1 p n1=>c54 (e.ext n1.mod).top (c61 (e.ext n1.mod).drv hp fun H2 e2=>⟨u64s (scal h d),rfl,rfl,rfl,u64s_one,?_,fun H3 h3=>⟨u64s (scal h d),rfl,?_,⟨u64s (scal h d),rfl,rfl,fun H4 q n4=>⟨rfl,u64s_one,n4.own.w 0 16 rfl,fun H5 h5=>?_⟩⟩⟩⟩))
 ·exact (n1.own.mod e2 (by simp)).w 0 16 rfl
 ·rw[h3];exact rdL_wrL (n1.own.mod e2 (by simp)).2
 have e3:Ext H H3:=(n1.mod.thenExt e2).trans_new (wrLM h3) (by have:=n1.ge;simpa using this)
 obtain⟨e35,o5⟩:=tmpE (cs:=u64s (scal h d)) n4 rfl h5
 clear h3 h5
 have hq:=n4.ge
 have e5:=e3.thenExt e35
 have g5:=e.ext e5
 have r4:rd H5 be (0+4)=some (.bool false):=by rw[Nat.zero_add];exact g5.top.rd 4 rfl
 refine⟨_,by rw[Nat.zero_add];exact g5.top.rd 3 rfl,_,r4,c75 _ ⟨_,rfl,r4,⟨by omega,by omega⟩,c75 _ ⟨_,rfl,o5.w 12 1 rfl,fun H6 h6=>⟨⟨by omega,by omega⟩,?_,fun H7 h7=>?_⟩⟩⟩⟩
 ·exact (by rw[h6];exact o5.wr 12 _:Own H6 q _).w 13 1 rfl
 have o6:=o5.wr 12 (.int .u64 ((flagW ended).toNat:Int))
 rw[<-h6] at o6
 have o7:=o6.wr 13 (.int .u64 ((flagW false).toNat:Int))
 rw[<-h7] at o7
 have o7':Own H7 q (u64s (scalE h d ended)):=o7
 have e7:Ext H H7:=(e5.trans_new (wrM h6) (by have:=e3.1;simp;omega)).trans_new (wrM h7) (by have:=e3.1;simp;omega)
 refine⟨_,rfl,o7'.1,c30 (e.ext e7) fun a c H8 hB e8=>⟨_,_,_,rfl,e8.rdL (by simp) o7'.1,c76 rfl hB.row (by omega) fun a9 c9 H9 hB9 e9=>⟨_,_,_,rfl,k a9 c9 H9 (hB9.down ?_) ((e7.thenExt e8).thenExt e9)⟩⟩⟩
 have:=e7.1;have:=e8.1;omega
theorem c140 {h:Hdr}{hp:HAt}(r:HRows H h hp){d:DS}{s:PS}{tags:List Int}{K post:List UInt64}{H0:Heap}{b0:DB}(v:Drv H0 b0 h d s K post)(sg:SemG h d tags s K)(sm:SmallD h d){a:Option Addr}{l c:Nat}(hr:RowU H a l (s.l.flatten++K++post))(ended:Bool)
  (k:∀H' b,Drv H' b h d s K post->DIn h b H.size->Ext H H'->R (.tuple #[.pointer (some ⟨b.d,0,none⟩),.int .i64 0]) H'):Ru 140 [.agg (hdrC h hp).toArray,.slice a l c,.agg (u64s (scalE h d ended)).toArray] H R:=by
 refine v140 (hdrC h hp) _ _ _ (u64s (scalE h d ended)) fun H1 p n1 H2 q n2=>⟨_,rfl,n2.mod.rdL (by simp) n1.rdL,c105 h hp (r.ext (n1.mod.new n2)) (fun _ H3 bd hq pa pc o3 rr3 rp3 e3 hbd lx lt ls ll lp nx nt ns nl np=>⟨_,_,rfl,fun h'=>(h' rfl).elim,fun _=>?_⟩) (fun n H' _ hno _=>(hno v.ok).elim)⟩
 have e2:=n1.mod.new n2
 have e03:=e2.thenExt e3
 have z2:=e2.1
 have hr3:=Ext.row e03 hr
 have hlen:=hr.len
 have hw:=v.words
 refine⟨_,rfl,e3.rdL (by simp) n2.rdL,c209 v sg sm o3 rr3 rp3 nx nt ns nl np hr3 (fun b o e=>?_) _ fun H4 ba bw bm bs v4 h1 h2 h3 h4 m4=>⟨_,rfl,fun h'=>by simp at h',fun _=>?_⟩⟩
 ·have:b<H.size:=by
   obtain⟨b',o',e',hrd⟩:=hr.at (by omega)
   rw[e] at e';cases e'
   cases hx:u64s (s.l.flatten++K++post) with
   | nil=>have:=congrArg List.length hx;simp only[u64s_length,List.length_nil] at this;omega
   | cons x xs=>rw[hx] at hrd;exact rd_lt hrd.1
  omega
 ·have z3:=e3.1
  refine k H4 _ v4 ⟨by dsimp only;omega,by dsimp only;omega,by dsimp only;omega,by dsimp only;omega,by dsimp only;omega,lx.down z2,lt.down z2,ls.down z2,ll.down z2,lp.down z2⟩ (e03.trans_new m4 (by simp;omega))
theorem c77 {h:Hdr}{hp:HAt}(r:HRows H h hp){d:DS}{s:PS}{tags:List Int}{K post:List UInt64}{H0:Heap}{b0:DB}(v:Drv H0 b0 h d s K post)(sg:SemG h d tags s K)(sm:SmallD h d){qb c:Nat}{ended:Bool}
  (hc:(s.l.flatten++K++post).length+18<=c) (hr:RowU H (some ⟨qb,0,none⟩) ((s.l.flatten++K++post).length+18) (frozen (scalE h d ended) (s.l.flatten++K++post)))
  (k:∀H' b,Drv H' b h d s K post->DIn h b H.size->Ext H H'->R (.tuple #[.pointer (some ⟨b.d,0,none⟩),.int .i64 0]) H'):Ru 77 [.agg (hdrC h hp).toArray,.slice (some ⟨qb,0,none⟩) ((s.l.flatten++K++post).length+18) c] H R:=by
 have hf:=v.ar.few
 refine v77 (hdrC h hp) _ _ _ fun H1 p n1=>c78 (scalE_length h d ended) rfl hf hc (Ext.row n1.mod hr) fun a c H2 hB e2=>⟨_,_,_,u64s (scalE h d ended),rfl,_,rfl,fun H3 q n3=>⟨rfl,u64s_one,n3.own.w 0 16 rfl,fun H4 h4=>⟨fun h'=>(h' rfl).elim,fun _=>?_⟩⟩⟩
 obtain⟨e4,o4⟩:=tmpE (cs:=u64s (scalE h d ended)) n3 rfl h4
 have e02:=n1.mod.thenExt e2
 have e04:=e02.thenExt e4
 refine⟨_,rfl,(e2.thenExt e4).rdL (by simp) n1.rdL,_,rfl,o4.1,c140 (r.ext e04) v sg sm (hB.ext e4).row ended fun H5 b v5 di e5=>⟨_,_,rfl,k H5 b v5 (di.down e04.1) (e04.thenExt e5)⟩⟩
theorem c79 {be:Nat}{b:DB}{h:Hdr}{d:DS}{tags:List Int}{s:PS}{K post:List UInt64}(e:EngG H be b h d tags false false s K post)(ended:Bool)(h1:h.mode≠2->ended=false)(h2:h.mode=2->ended=true\/d.pend<0)
  (k:∀H',Ext H H'->R (.bool true) H'):Ru 79 [.pointer (some ⟨be,0,none⟩),.int .u64 ((flagW ended).toNat:Int),.int .u64 ((0:UInt64).toNat:Int)] H R:=by
 refine v79 _ _ _ _ (g16 e fun a c H1 hB e1=>⟨_,rfl,rfl,trivial,_,rfl,_,rfl,fun c H'=>c=false/\Ext H H',⟨fun h'=>?_,fun _=>⟨fun h'=>?_,fun _=>⟨?_,e1⟩⟩⟩,?_⟩)
 ·cases ended<;>exact absurd h' (by decide)
 ·exact absurd h' (by decide)
 ·cases ended<;>decide
 rintro H2 c ⟨rfl,e2⟩
 refine⟨fun h'=>by simp at h',fun _=>⟨_,by rw[Nat.zero_add];exact (e.ext e2).top.rd 1 rfl,fun hm=>?_,fun hm=>⟨fun h'=>absurd h' (by decide),fun _=>⟨fun _=>k H2 e2,fun hne=>?_⟩⟩⟩⟩
 ·rw[h1 hm,decide_eq_true (by decide)];exact k H2 e2
 ·rcases h2 (Classical.not_not.1 hm) with h3|h3
  ·subst h3;exact (hne rfl).elim
  ·rw[decide_eq_true (by omega)];exact k H2 e2
theorem c33 {h:Hdr}{hp:HAt}(r:HRows H h hp){d:DS}{s:PS}{tags:List Int}{K post:List UInt64}{H0:Heap}{b0:DB}(v:Drv H0 b0 h d s K post)(sg:SemG h d tags s K)(sm:SmallD h d){qb c:Nat}{ended:Bool}
  (h1:h.mode≠2->ended=false) (h2:h.mode=2->ended=true\/d.pend<0)
  (hc:(s.l.flatten++K++post).length+18<=c) (hr:RowU H (some ⟨qb,0,none⟩) ((s.l.flatten++K++post).length+18) (frozen (scalE h d ended) (s.l.flatten++K++post)))
  (k:∀H' be b,EngG H' be b h d tags ended false s K post->DIn h b H.size->H.size<=be->be<H'.size->Ext H H'->R (.tuple #[.pointer (some ⟨be,0,none⟩),.int .i64 0]) H'):Ru 33 [.agg (hdrC h hp).toArray,.slice (some ⟨qb,0,none⟩) ((s.l.flatten++K++post).length+18) c] H R:=by
 have hf:=v.ar.few
 refine v33 (hdrC h hp) _ _ _ fun H1 p n1=>⟨_,rfl,n1.rdL,c77 (r.ext n1.mod) v sg sm hc (Ext.row n1.mod hr) fun H2 b v2 di e2=>⟨_,_,rfl,fun h'=>(h' rfl).elim,fun _=>?_⟩⟩
 have e02:=n1.mod.thenExt e2
 refine c78 (scalE_length h d ended) rfl hf hc (Ext.row e02 hr) fun a c H3 hB e3=>⟨_,_,_,u64s (scalE h d ended),rfl,_,rfl,fun H4 q n4=>⟨rfl,u64s_one,n4.own.w 0 16 rfl,fun H5 h5=>?_⟩⟩
 obtain⟨e35,o5⟩:=tmpE (cs:=u64s (scalE h d ended)) n4 rfl h5
 clear h5
 have e25:=e3.thenExt e35
 have e05:=e02.thenExt e25
 have z05:=e05.1;have z02:=e02.1;have z25:=e25.1;have z01:=n1.mod.1
 refine⟨_,rfl,(e2.thenExt e25).rdL (by simp) n1.rdL,c50 h hp v.ok.1.mode b.d fun H6 be o6 e6 hbe hlt=>?_⟩
 have v6:=(v2.ext e25).ext e6
 have eng:EngG H6 be b h d tags false false s K post:=⟨o6,v6,(v2.ext e25).fresh (by simpa using hbe),sg.sem⟩
 have oq6:=o5.mod e6 (by simp)
 refine⟨⟨by omega,by omega⟩,flagW ended,oq6.rd 12 rfl,⟨by omega,by omega⟩,0,oq6.rd 13 rfl,c79 eng ended h1 h2 fun H7 e7=>⟨_,rfl,fun h'=>by simp at h',fun _=>?_⟩⟩
 have oq7:=oq6.mod e7 (by simp)
 have o7:=o6.mod e7 (by simp)
 have hqb:q≠be:=by have:=oq6.lt (by simp[scalE,u64s]);have:=o5.lt (by simp[scalE,u64s]);omega
 refine⟨⟨by omega,by omega⟩,flagW ended,oq7.rd 12 rfl,⟨by omega,by omega⟩,0,oq7.rd 13 rfl,be,0,rfl,by rw[Nat.zero_add];exact o7.w 3 1 rfl,fun H8 h8=>?_⟩
 rw[Nat.zero_add] at h8
 have o8:=o7.wr 3 (.bool (decide (flagW ended=UInt64.ofNat (nat_lit 1))))
 rw[<-h8] at o8
 have oq8:=oq7.mod (wrM h8) (by simpa using hqb)
 refine⟨oq8.rd 13 rfl,be,0,rfl,by rw[Nat.zero_add];exact o8.w 4 1 rfl,fun H9 h9=>?_⟩
 rw[Nat.zero_add] at h9
 have o9:=o8.wr 4 (.bool (decide ((0:UInt64)=UInt64.ofNat (nat_lit 1))))
 rw[<-h9] at o9
 have hfl:decide (flagW ended=UInt64.ofNat (nat_lit 1))=ended:=by cases ended<;>decide
 have hz:decide ((0:UInt64)=UInt64.ofNat (nat_lit 1))=false:=by decide
 rw[hfl,hz] at o9
 have o9':Own H9 be (engC h b.d ended false):=o9
 have m79:Mod [be] H7 H9:=(wrM h8).trans (wrM h9)
 have v9:=(v6.ext e7).keep m79 eng.off
 refine k H9 be b ⟨o9',v9,eng.off,sg.sem⟩ (di.down z01) (by omega) (by have:=e7.1;have:=m79.1;omega) (((e05.thenExt e6).thenExt e7).trans_new m79 (by simp;omega))
end Go.VC
namespace Go.VC
open Go Go.Proofs
def lo (r n c:Nat):Int:=(r:Int)*n-ch (c+r) (c+1)
def bst:Nat->Nat->Nat->Int
 | 0,n,c=>lo 0 n c
 | R+1,n,c=>max (bst R n c) (lo (R+1) n c)
theorem lo_zero (n c:Nat):lo 0 n c=0:=by simp[lo,ch_lt]
theorem lo_le_bst {r R:Nat}(n c:Nat)(h:r<=R):lo r n c<=bst R n c:=by
 induction h with
 | refl=>cases r<;>simp only[bst]<;>omega
 | step h ih=>simp only[bst];omega
theorem bst_is (R n c:Nat):∃r,r<=R/\bst R n c=lo r n c:=by
 induction R with
 | zero=>exact⟨0,Nat.le_refl _,rfl⟩
 | succ R ih=>
  obtain⟨r,h1,h2⟩:=ih
  simp only[bst]
  rcases Int.le_total (bst R n c) (lo (R+1) n c) with h|h
  ·exact⟨R+1,Nat.le_refl _,by omega⟩
  ·exact⟨r,by omega,by omega⟩
theorem bst_nonneg (R n c:Nat):0<=bst R n c:=by
 have:=lo_le_bst n c (Nat.zero_le R);rwa [lo_zero] at this
theorem ch_low (c r:Nat):r<=ch (c+r) (c+1):=by
 cases r with
 | zero=>omega
 | succ r=>
  have:=ch_ge (s:=c+1) (r:=r) (by omega)
  rw[show c+(r+1)=c+1+r from by omega];exact this
theorem bst_one (R c:Nat):bst R 1 c=0:=by
 obtain⟨r,_,h⟩:=bst_is R 1 c
 have h0:=bst_nonneg R 1 c
 have hl:=ch_low c r
 rw[h] at h0 ⊢
 unfold lo at *
 omega
theorem bst_none (R c:Nat):bst R 0 c=0:=by
 obtain⟨r,_,h⟩:=bst_is R 0 c
 have h0:=bst_nonneg R 0 c
 have hl:=ch_low c r
 rw[h] at h0 ⊢
 unfold lo at *
 omega
theorem lo_split (r m n c:Nat):lo (r+1) (m+n) (c+1)=m+lo r m (c+1)+lo (r+1) n c:=by
 have e:ch (c+1+(r+1)) (c+1+1)=ch (c+(r+1)) (c+1)+ch (c+1+r) (c+1+1):=by
  rw[show c+1+(r+1)=(c+1+r)+1 from by omega,ch,show c+(r+1)=c+1+r from by omega]
 unfold lo
 rw[e]
 simp only[Int.natCast_add,Int.mul_add,Int.add_mul,Int.natCast_one,Int.one_mul]
 omega
theorem bst_split (R m n c:Nat):bst R (m+n) (c+1)<=m+bst R m (c+1)+bst R n c:=by
 obtain⟨r,hr,h⟩:=bst_is R (m+n) (c+1)
 rw[h]
 cases r with
 | zero=>rw[lo_zero];have:=bst_nonneg R m (c+1);have:=bst_nonneg R n c;omega
 | succ r=>
  rw[lo_split]
  have:=lo_le_bst m (c+1) (show r<=R by omega)
  have:=lo_le_bst n c hr
  omega
theorem lo_mono (r n c:Nat):lo r n (c+1)<=lo r n c:=by
 have:ch (c+r) (c+1)<=ch (c+1+r) (c+1+1):=by
  cases r with
  | zero=>rw[ch_lt (show c+0<c+1 by omega)];omega
  | succ r=>
   have:=ch_diag r (show c+1<=c+1+1 by omega)
   rw[show c+(r+1)=r+(c+1) from by omega,show c+1+(r+1)=r+(c+1+1) from by omega];exact this
 unfold lo;omega
theorem bst_mono (R n c:Nat):bst R n (c+1)<=bst R n c:=by
 obtain⟨r,hr,h⟩:=bst_is R n (c+1)
 rw[h]
 have:=lo_mono r n c
 have:=lo_le_bst n c hr
 omega
theorem lo_next (r n c:Nat):lo (r+1) n c=lo r n c+n-ch (c+r) c:=by
 have e:ch (c+(r+1)) (c+1)=ch (c+r) c+ch (c+r) (c+1):=by rw[show c+(r+1)=(c+r)+1 from by omega,ch]
 unfold lo
 rw[e]
 simp only[Int.natCast_add,Int.add_mul,Int.natCast_one,Int.one_mul]
 omega
theorem lo_after {r n c:Nat}(h:n<=ch (c+r) c):∀d,lo (r+d) n c<=lo r n c
 | 0=>Int.le_refl _
 | d+1=>by
  have ih:=lo_after h d
  have:=ch_mono (show c+r<=c+(r+d) by omega) c
  rw[<-Nat.add_assoc,lo_next];omega
theorem lo_before {r n c:Nat}(h:r=0\/ch (c+(r-1)) c<=n):∀d,d<=r->lo (r-d) n c<=lo r n c
 | 0,_=>Int.le_refl _
 | d+1,hd=>by
  have ih:=lo_before h d (by omega)
  have hm:=ch_mono (show c+(r-(d+1))<=c+(r-1) by omega) c
  have e:=lo_next (r-(d+1)) n c
  rw[show r-(d+1)+1=r-d from by omega] at e
  rcases h with h|h<;>omega
theorem bst_at {r n c:Nat}(R:Nat)(h1:n<=ch (c+r) c)(h2:r=0\/ch (c+(r-1)) c<=n):bst R n c<=lo r n c:=by
 obtain⟨q,_,h⟩:=bst_is R n c
 rw[h]
 rcases Nat.le_total q r with hq|hq
 ·have:=lo_before h2 (r-q) (by omega)
  rwa [show r-(r-q)=q from by omega] at this
 ·have:=lo_after h1 (q-r)
  rwa [show r+(q-r)=q from by omega] at this
theorem split_bst {R n c:Nat}(hn:2<=n)(hR:n<=R):(splitOf n (c+1):Int)+bst R (splitOf n (c+1)) (c+1)+bst R (n-splitOf n (c+1)) c<=bst R n (c+1):=by
 have hsp:=repsOf_spec (l:=n) (s:=c+1) (by omega)
 obtain⟨q,hq⟩:∃q,repsOf n (c+1)=q+1:=by
  refine⟨repsOf n (c+1)-1,?_⟩
  have:repsOf n (c+1)≠0:=by
   intro e
   have:=hsp.enough
   rw[e] at this;simp at this;omega
  omega
 have en:=hsp.enough
 have le:=hsp.least
 have rl:=hsp.le
 rw[hq] at en le rl
 rw[show q+1-1=q from by omega] at le
 have le':ch (c+1+q) (c+1)<n:=by rcases le with h|h;omega;exact h
 have hm:splitOf n (c+1)=max 1 (max (ch (c+q) (c+1)) (n-ch (c+1+q) c)):=by
  unfold splitOf
  rw[hq,show c+1+(q+1)-2=c+q from by omega,show c+1+(q+1)-1=c+1+q from by omega,show c+1-1=c from by omega]
 have p1:ch (c+1+(q+1)) (c+1)=ch (c+1+q) c+ch (c+1+q) (c+1):=by rw[show c+1+(q+1)=(c+1+q)+1 from by omega,ch]
 have p2:ch (c+1+q) (c+1)=ch (c+q) c+ch (c+q) (c+1):=by rw[show c+1+q=(c+q)+1 from by omega,ch]
 have p3:=ch_up (c+q) c
 rw[show c+q+1=c+1+q from by omega] at p3
 have p4:1<=ch (c+q) c:=ch_pos (by omega)
 have p5:1<=ch (c+1+q) (c+1):=ch_pos (by omega)
 generalize hs:splitOf n (c+1)=m at *
 have hmn:m<=n:=by omega
 have b1:bst R m (c+1)<=lo q m (c+1):=by
  refine bst_at R (by omega) ?_
  cases q with
  | zero=>exact .inl rfl
  | succ q=>
   right
   rw[show c+1+(q+1-1)=c+(q+1) from by omega];omega
 have b2:bst R (n-m) c<=lo (q+1) (n-m) c:=by
  refine bst_at R ?_ (.inr ?_)
  ·rw[show c+(q+1)=c+1+q from by omega];omega
  ·rw[show c+(q+1-1)=c+q from by omega]
   have:m<=n-ch (c+q) c:=by
    rw[hm]
    omega
   omega
 have b3:=lo_split q m (n-m) c
 rw[show m+(n-m)=n from by omega] at b3
 have b4:=lo_le_bst n (c+1) (show q+1<=R by omega)
 omega
end Go.VC
namespace Go.VC
open Go Go.Proofs
noncomputable def cnt (p:Nat->Prop):Nat->Nat
 | 0=>0
 | n+1=>cnt p n+(open Classical in if p n then 1 else 0)
theorem cnt_mono {p q:Nat->Prop}:∀N,(∀j,j<N->p j->q j)->cnt p N<=cnt q N
 | 0,_=>Nat.le_refl _
 | n+1,h=>by
  have ih:=cnt_mono n fun j hj=>h j (by omega)
  have hn:=h n (by omega)
  unfold cnt
  by_cases hp:p n
  ·rw[if_pos hp,if_pos (hn hp)];omega
  ·rw[if_neg hp];omega
theorem cnt_more {p q:Nat->Prop}(a:Nat):∀(m N:Nat),(∀j,j<N->p j->q j\/(a<=j/\j<a+m))->cnt p N<=cnt q N+(min (a+m) N-min a N)
 | m,0,_=>by simp[cnt]
 | m,n+1,h=>by
  have ih:=cnt_more a m n fun j hj=>h j (by omega)
  have hn:=h n (by omega)
  unfold cnt
  by_cases hp:p n
  ·rw[if_pos hp]
   rcases hn hp with hq|⟨h1,h2⟩
   ·rw[if_pos hq];omega
   ·omega
  ·rw[if_neg hp];omega
theorem cnt_less {p q:Nat->Prop}(a m:Nat):∀N,(∀j,j<N->q j->p j)->(∀j,j<N->a<=j->j<a+m->p j/\¬q j)->cnt q N+(min (a+m) N-min a N)<=cnt p N
 | 0,_,_=>by simp[cnt]
 | n+1,h1,h2=>by
  have ih:=cnt_less a m n (fun j hj=>h1 j (by omega)) (fun j hj=>h2 j (by omega))
  have hn:=h1 n (by omega)
  have hm:=h2 n (by omega)
  unfold cnt
  by_cases hq:q n
  ·rw[if_pos hq,if_pos (hn hq)]
   have:¬(a<=n/\n<a+m):=fun h=>(hm h.1 h.2).2 hq
   omega
  ·rw[if_neg hq]
   by_cases hp:p n
   ·rw[if_pos hp];omega
   ·have:¬(a<=n/\n<a+m):=fun h=>hp (hm h.1 h.2).1
    omega
def segs (R s:Nat):Nat->List Nat->Int
 | _,[]=>0
 | e,b ::B=>bst R (e-b) (s-B.length)+segs R s b B
def Down:Nat->List Nat->Prop
 | _,[]=>False
 | e,[b]=>b<e/\b=0
 | e,b ::c ::B=>b<e/\Down b (c ::B)
theorem Down.lt {e b:Nat}{B:List Nat}(h:Down e (b ::B)):b<e:=by cases B<;>exact h.1
theorem Down.all:∀{e:Nat} {B:List Nat},Down e B->∀x∈B,x<e
 | _,[],h,_,_=>h.elim
 | e,[b],h,x,hx=>by simp at hx;subst hx;exact h.1
 | e,b ::c ::B,h,x,hx=>by
  rcases List.mem_cons.1 hx with rfl|hx
  ·exact h.1
  ·have:=Down.all h.2 x hx;have:=h.1;omega
theorem Down.mono {e e' b:Nat}{B:List Nat}(h:Down e (b ::B))(h':b<e'):Down e' (b ::B):=by
 cases B with
 | nil=>exact⟨h',h.2⟩
 | cons c B=>exact⟨h',h.2⟩
theorem Down.cons {e x b:Nat}{B:List Nat}(h:Down x (b ::B))(hx:x<e):Down e (x ::b ::B):=⟨hx,h⟩
theorem segs_drop (R s:Nat)(z x y:Nat)(C:List Nat):∀(A:List Nat) (e:Nat),Down e (A++z ::x ::y ::C)->A.length+C.length+3<=s+2->segs R s e (A++z ::y ::C)<=segs R s e (A++z ::x ::y ::C)+(x-y:Nat)
 | [],e,hd,hl=>by
  simp only[List.nil_append,segs,List.length_cons]
  obtain⟨h1,h2,h3⟩:=hd
  have h4:=Down.lt h3
  obtain⟨c,hc⟩:∃c,s-C.length=c+1:=⟨s-C.length-1,by simp at hl;omega⟩
  have b1:=bst_split R (x-y) (z-x) c
  rw[show x-y+(z-x)=z-y from by omega] at b1
  have b2:bst R (e-z) (s-(C.length+1))<=bst R (e-z) (s-(C.length+1+1)):=by
   rcases Nat.lt_or_ge (C.length+1) s with h|h
   ·rw[show s-(C.length+1)=s-(C.length+1+1)+1 from by omega];exact bst_mono _ _ _
   ·rw[show s-(C.length+1)=0 from by omega,show s-(C.length+1+1)=0 from by omega];exact Int.le_refl _
  rw[show s-(C.length+1)=c from by omega] at b2 ⊢
  rw[hc]
  omega
 | a ::A,e,hd,hl=>by
  have ih:=segs_drop R s z x y C A a (by
   have:Down e (a :: (A++z ::x ::y ::C)):=hd
   cases hA:A++z ::x ::y ::C with
   | nil=>simp at hA
   | cons b B=>rw[hA] at this;exact this.2) (by simp at hl ⊢;omega)
  simp only[List.cons_append,segs]
  have b2:bst R (e-a) (s-(A++z ::y ::C).length)<=bst R (e-a) (s-(A++z ::x ::y ::C).length):=by
   have e1:(A++z ::x ::y ::C).length=(A++z ::y ::C).length+1:=by simp;omega
   rw[e1]
   rcases Nat.lt_or_ge (A++z ::y ::C).length s with h|h
   ·rw[show s-(A++z ::y ::C).length=s-((A++z ::y ::C).length+1)+1 from by omega];exact bst_mono _ _ _
   ·rw[show s-(A++z ::y ::C).length=0 from by omega,show s-((A++z ::y ::C).length+1)=0 from by omega];exact Int.le_refl _
  omega
theorem segs_all (R s e:Nat):∀(z:Nat) (K:List Nat),Down e (z ::K)->K.length<=s->bst R e s<=z+segs R s e (z ::K)
 | z,[],hd,_=>by
  obtain⟨h1,rfl⟩:=hd
  simp[segs]
 | z,x ::K,hd,hl=>by
  have h2:Down z (x ::K):=hd.2
  have hx:=Down.lt h2
  have ih:=segs_all R s e x K (h2.mono (by have:=hd.1;omega)) (by simp at hl;omega)
  have hz:=hd.1
  simp only[segs,List.length_cons] at ih ⊢
  obtain⟨c,hc⟩:∃c,s-K.length=c+1:=⟨s-K.length-1,by simp at hl;omega⟩
  have b1:=bst_split R (z-x) (e-z) c
  rw[show z-x+(e-z)=e-x from by omega] at b1
  rw[show s-(K.length+1)=c from by omega]
  rw[hc] at ih ⊢
  omega
def unsh (I:List Int)(K:List Nat)(j:Nat):Prop:=∃k∈K,j<k/\∀i∈I,¬((j:Int)<i/\i<=k)
theorem find_drop (I:List Int)(h0:(0:Int)∈I):∀(K:List Nat) (z x e:Nat),Down e (z ::x ::K)->(∃i∈I,(x:Int)<i/\i<=z)->I.countP (fun i=>decide (0<=i) && decide (i<=(z:Int)))<=K.length+1->
  ∃(A:List Nat) (z' x' y':Nat) (C:List Nat),z ::x ::K=A++z' ::x' ::y' ::C/\(∃i∈I,(x':Int)<i/\i<=z')/\∀i∈I,¬((y':Int)<i/\i<=x')
 | K,z,x,e,hd,⟨i,hi,hi1,hi2⟩,hc=>by
  have hx:x<z:=Down.lt hd.2
  have hlt:I.countP (fun i=>decide (0<=i) && decide (i<=(x:Int)))+1<=I.countP (fun i=>decide (0<=i) && decide (i<=(z:Int))):=by
   clear hc h0
   induction I with
   | nil=>simp at hi
   | cons a I ih=>
    simp only[List.countP_cons]
    have hle:I.countP (fun i=>decide (0<=i) && decide (i<=(x:Int)))<=I.countP (fun i=>decide (0<=i) && decide (i<=(z:Int))):=by
     refine List.countP_mono_left fun b _ hb=>?_
     simp only[Bool.and_eq_true,decide_eq_true_eq] at hb ⊢;omega
    rcases List.mem_cons.1 hi with rfl|hi
    ·have n1:(decide (0<=i) && decide (i<=(x:Int)))=false:=by simp;omega
     have n2:(decide (0<=i) && decide (i<=(z:Int)))=true:=by simp;omega
     rw[n1,n2];simp;omega
    ·have:=ih hi
     by_cases n1:(decide (0<=a) && decide (a<=(x:Int)))=true
     ·have n2:(decide (0<=a) && decide (a<=(z:Int)))=true:=by simp only[Bool.and_eq_true,decide_eq_true_eq] at n1 ⊢;omega
      rw[if_pos n1,if_pos n2];omega
     ·rw[if_neg n1];omega
  match K,hd,hc with
  | [],hd,hc=>
   have hx0:x=0:=hd.2.2
   subst hx0
   have:0<I.countP (fun i=>decide (0<=i) && decide (i<=((0:Nat):Int))):=List.countP_pos_iff.2 ⟨0,h0,by simp⟩
   simp at hc
   omega
  | y ::K,hd,hc=>
   by_cases hy:∃i∈I,(y:Int)<i/\i<=x
   ·obtain⟨A,z',x',y',C,h1,h2,h3⟩:=find_drop I h0 K x y z hd.2 hy (by simp at hc;omega)
    exact⟨z ::A,z',x',y',C,by rw[h1];rfl,h2,h3⟩
   ·exact⟨[],z,x,y,K,rfl,⟨i,hi,hi1,hi2⟩,fun j hj hh=>hy ⟨j,hj,hh⟩⟩
theorem Down.drop {z x y:Nat}{C:List Nat}:∀{A:List Nat} {e:Nat},Down e (A++z ::x ::y ::C)->Down e (A++z ::y ::C)
 | [],e,h=>by
  obtain⟨h1,h2,h3⟩:=h
  exact⟨h1,h3.mono (by have:=Down.lt h3;omega)⟩
 | [a],e,h=>⟨h.1,Down.drop (A:=[]) h.2⟩
 | a ::b ::A,e,h=>⟨h.1,Down.drop (A:=b ::A) h.2⟩
def KOk (K:List Nat)(e s:Nat):Prop:=(e=0/\K=[])\/(0<e/\Down e K/\K.length<=s+1)
def infoOf (m:MS1):List Int:=m.at_ ::m.tags
def endN (m:MS1):Nat:=(if m.pend<0 then m.l else m.pend).toNat
inductive MRun:MS1->List (Int × Int)->MS1->Prop
 | nil (m):MRun m [] m
 | cons {m k n m' acs m''}:mstep m k n=some m'->MRun m' acs m''->MRun m ((k,n) ::acs) m''
theorem unsh_info {I I':List Int}{K:List Nat}{j:Nat}(h:∀i∈I',(0:Int)<=i->i∈I)(hu:unsh I K j):unsh I' K j:=by
 obtain⟨k,hk,h1,h2⟩:=hu
 exact⟨k,hk,h1,fun i hi hh=>h2 i (h i hi (by omega)) hh⟩
theorem mem_set_le {l:List Int}{k:Nat}{v x:Int}(h:x∈l.set k v):x∈l\/x=v:=List.mem_or_eq_of_mem_set h
theorem low_left (R N:Nat){m m':MS1}{acs:List (Int × Int)}(r:MRun m acs m'):MOk m->m'.pend=0->m.l<=N->
  (0<endN m->(0:Int)∈infoOf m)/\∃K,KOk K (endN m) m.tags.length/\(cnt (unsh (infoOf m) K) N:Int)+segs R m.tags.length (endN m) K+m.total<=m'.total:=by
 induction r with
 | nil m=>
  intro ok hp _
  have he:endN m=0:=by unfold endN;rw[if_neg (by omega)];omega
  refine⟨fun h=>by omega,[],.inl ⟨he,rfl⟩,?_⟩
  have:cnt (unsh (infoOf m) []) N<=0:=by
   have h1:cnt (unsh (infoOf m) []) N<=cnt (fun _=>False) N:=cnt_mono N fun j _ ⟨k,hk,_⟩=>by simp at hk
   have h2:∀N,cnt (fun _=>False) N=0:=by intro N;induction N with
    | zero=>rfl
    | succ n ih=>unfold cnt;rw[ih];simp
   rw[h2] at h1;exact h1
  simp[segs];omega
 | @cons m k n m1 acs m2 hs r ih=>
  intro ok hp hN
  have ok1:=mstep_ok ok hs
  obtain⟨hl,ht⟩:=mstep_l hs
  obtain⟨hz,K,hK,hcost⟩:=ih ok1 hp (by omega)
  obtain⟨l0,l1,at0,at1,p0,p1,tg,few⟩:=ok
  have same:endN m1=endN m->m1.total=m.total->(∀i∈infoOf m1,(0:Int)<=i->i∈infoOf m)->_:=fun e1 e2 e3=>by
   have hu:cnt (unsh (infoOf m) K) N<=cnt (unsh (infoOf m1) K) N:=cnt_mono N fun j _ hj=>unsh_info e3 hj
   rw[e1,ht,e2] at hcost
   exact (⟨fun h=>e3 _ (hz (by omega)) (Int.le_refl _),K,by rw[<-e1,<-ht];exact hK,by omega⟩:(0<endN m->(0:Int)∈infoOf m)/\∃K,KOk K (endN m) m.tags.length/\(cnt (unsh (infoOf m) K) N:Int)+segs R m.tags.length (endN m) K+m.total<=m2.total)
  rcases mstep_inv hs with ⟨-,n1,n2,n3,rfl⟩|⟨-,n1,n2,n3,rfl⟩|⟨-,n1,n2,n3,rfl⟩|⟨-,n1,n2,n3,rfl⟩|⟨-,n1,n2,n3,rfl⟩|⟨-,n1,n2,n3,rfl⟩|⟨-,n1,n2,n3,rfl⟩
  ·
   have hu:cnt (unsh (infoOf m) K) N<=cnt (unsh (infoOf { m with at_:=m.at_+n,total:=m.total+n }) K) N+n.toNat:=by
    have key:=cnt_more (p:=unsh (infoOf m) K) (q:=unsh (infoOf { m with at_:=m.at_+n,total:=m.total+n }) K) m.at_.toNat n.toNat N ?_
    ·omega
    intro j _ hj
    by_cases hin:m.at_.toNat<=j/\j<m.at_.toNat+n.toNat
    ·exact .inr hin
    ·left
     obtain⟨k,hk,h1,h2⟩:=hj
     refine⟨k,hk,h1,fun i hi hh=>?_⟩
     rcases List.mem_cons.1 hi with rfl|hi
     ·dsimp only at hh
      have:=h2 m.at_ (List.mem_cons_self ..)
      omega
     ·exact h2 i (List.mem_cons_of_mem _ hi) hh
   refine⟨fun h=>?_,K,hK,?_⟩
   ·rcases List.mem_cons.1 (hz h) with h'|h'
    ·dsimp only at h';omega
    ·exact List.mem_cons_of_mem _ h'
   ·have e:endN { m with at_:=m.at_+n,total:=m.total+n }=endN m:=rfl
    rw[e] at hcost
    dsimp only at hcost
    omega
  ·
   refine same rfl rfl fun i hi _=>?_
   rcases List.mem_cons.1 hi with rfl|hi
   ·exact List.mem_cons_self ..
   ·rcases mem_set_le hi with h|rfl
    ·exact List.mem_cons_of_mem _ h
    ·exact List.mem_cons_self ..
  ·
   refine same rfl rfl fun i hi _=>?_
   rcases List.mem_cons.1 hi with rfl|hi
   ·exact List.mem_cons_of_mem _ (tagAt_mem n1 n2)
   ·exact List.mem_cons_of_mem _ hi
  ·
   refine same rfl rfl fun i hi h0=>?_
   rcases List.mem_cons.1 hi with rfl|hi
   ·exact List.mem_cons_self ..
   ·rcases mem_set_le hi with h|rfl
    ·exact List.mem_cons_of_mem _ h
    ·omega
  ·
   refine same ?_ rfl fun i hi _=>hi
   unfold endN
   dsimp only
   rw[if_neg (by omega),if_pos (by omega)];omega
  all_goals
   have he:endN m=m.at_.toNat+1:=by
    unfold endN
    split<;>omega
   have he1:endN { m with pend:=m.at_ }=m.at_.toNat:=by
    unfold endN;dsimp only;rw[if_neg (by omega)]
   have hI:infoOf { m with pend:=m.at_ }=infoOf m:=rfl
   rw[he1] at hz hK hcost
   rw[hI] at hz hcost
   dsimp only at hK hcost
   have hat:m.at_∈infoOf m:=List.mem_cons_self ..
   have hsub:cnt (unsh (infoOf m) (m.at_.toNat ::K)) N<=cnt (unsh (infoOf m) K) N:=by
    refine cnt_mono N fun j _ hj=>?_
    obtain⟨k,hk,h1,h2⟩:=hj
    rcases List.mem_cons.1 hk with rfl|hk
    ·exact absurd ⟨by omega,by omega⟩ (h2 _ hat)
    ·exact⟨k,hk,h1,h2⟩
   have hsg:segs R m.tags.length (m.at_.toNat+1) (m.at_.toNat ::K)=segs R m.tags.length m.at_.toNat K:=by
    simp only[segs]
    rw[show m.at_.toNat+1-m.at_.toNat=1 from by omega,bst_one];omega
   refine⟨fun _=>?_,?_⟩
   ·rcases Nat.eq_zero_or_pos m.at_.toNat with h|h
    ·have:m.at_=0:=by omega
     rw[this] at hat;exact hat
    ·exact hz h
   rw[he]
   rcases hK with ⟨h0,rfl⟩|⟨h0,hd,hlen⟩
   ·refine⟨[m.at_.toNat],.inr ⟨by omega,⟨by omega,h0⟩,by simp⟩,?_⟩
    rw[hsg];omega
   ·obtain⟨x,K,rfl⟩:∃x K',K=x ::K':=by
     cases K with
     | nil=>exact hd.elim
     | cons x K=>exact⟨x,K,rfl⟩
    have hd1:Down (m.at_.toNat+1) (m.at_.toNat ::x ::K):=⟨by omega,hd⟩
    rcases Nat.lt_or_ge K.length m.tags.length with hk|hk
    ·refine⟨_,.inr ⟨by omega,hd1,by simp;omega⟩,?_⟩
     rw[hsg];omega
    ·have hkl:K.length=m.tags.length:=by simp at hlen;omega
     have hx:=Down.lt hd
     obtain⟨A,z',x',y',C,q1,⟨i,hi,hi1,hi2⟩,q3⟩:=find_drop (infoOf m) (hz h0) K m.at_.toNat x _ hd1 ⟨_,hat,by omega,by omega⟩ (by
      refine Nat.le_trans List.countP_le_length ?_
      simp[infoOf];omega)
     rw[q1] at hd1 hsub hsg
     have hql:A.length+C.length+3=K.length+2:=by
      have:=congrArg List.length q1
      simp at this;omega
     have hdd:x'<z'/\y'<x'/\z'<=m.at_.toNat:=by
      have hz':z'<=m.at_.toNat:=by
       have:z'∈m.at_.toNat ::x ::K:=by rw[q1];simp
       rcases List.mem_cons.1 this with h|h
       ·omega
       ·have:=Down.all hd _ h;omega
      have:∀(A:List Nat) (e:Nat),Down e (A++z' ::x' ::y' ::C)->x'<z'/\y'<x':=by
       intro A
       induction A with
       | nil=>intro e h;exact⟨h.2.1,Down.lt h.2.2⟩
       | cons a A ihA=>
        intro e h
        have h':Down e (a :: (A++z' ::x' ::y' ::C)):=h
        cases hA:A++z' ::x' ::y' ::C with
        | nil=>simp at hA
        | cons b B=>rw[hA] at h';have h2:=h'.2;rw[<-hA] at h2;exact ihA a h2
      have:=this A _ hd1
      exact⟨this.1,this.2,hz'⟩
     obtain⟨d1,d2,d3⟩:=hdd
     have hsd:=segs_drop R m.tags.length z' x' y' C A _ hd1 (by omega)
     have hA:∀a∈A,z'<a:=by
      have:∀(A:List Nat) (e:Nat),Down e (A++z' ::x' ::y' ::C)->∀a∈A,z'<a:=by
       intro A
       induction A with
       | nil=>intro e _ a ha;simp at ha
       | cons b A ihA=>
        intro e h a ha
        have h':Down e (b :: (A++z' ::x' ::y' ::C)):=h
        have h2:Down b (A++z' ::x' ::y' ::C):=by
         cases hA:A++z' ::x' ::y' ::C with
         | nil=>simp at hA
         | cons c B=>rw[hA] at h';exact h'.2
        rcases List.mem_cons.1 ha with rfl|ha
        ·exact Down.all h2 z' (by simp)
        ·exact ihA b h2 a ha
      exact this A _ hd1
     have hC:∀c∈C,c<y':=by
      have:∀(A:List Nat) (e:Nat),Down e (A++z' ::x' ::y' ::C)->∀c∈C,c<y':=by
       intro A
       induction A with
       | nil=>
        intro e h c hc
        have h3:Down x' (y' ::C):=h.2.2
        cases C with
        | nil=>simp at hc
        | cons d C=>exact Down.all h3.2 c hc
       | cons b A ihA=>
        intro e h
        have h':Down e (b :: (A++z' ::x' ::y' ::C)):=h
        refine ihA b ?_
        cases hA:A++z' ::x' ::y' ::C with
        | nil=>simp at hA
        | cons c B=>rw[hA] at h';exact h'.2
      exact this A _ hd1
     have hcl:=cnt_less (p:=unsh (infoOf m) (A++z' ::x' ::y' ::C)) (q:=unsh (infoOf m) (A++z' ::y' ::C)) y' (x'-y') N
      (fun j _ hj=>by
       obtain⟨k,hk,h1,h2⟩:=hj
       refine⟨k,?_,h1,h2⟩
       simp only[List.mem_append,List.mem_cons] at hk ⊢
       rcases hk with h|h|h|h
       ·exact .inl h
       ·exact .inr (.inl h)
       ·exact .inr (.inr (.inr (.inl h)))
       ·exact .inr (.inr (.inr (.inr h))))
      (fun j _ h1 h2=>by
       refine⟨⟨x',by simp,by omega,fun i hi hh=>q3 i hi ⟨by omega,hh.2⟩⟩,?_⟩
       rintro⟨k,hk,k1,k2⟩
       have hzk:z'<=k:=by
        simp only[List.mem_append,List.mem_cons] at hk
        rcases hk with h|h|h|h
        ·have:=hA k h;omega
        ·omega
        ·omega
        ·have:=hC k h;omega
       exact k2 i hi ⟨by omega,by omega⟩)
     refine⟨A++z' ::y' ::C,.inr ⟨by omega,hd1.drop,by simp;omega⟩,?_⟩
     have hNN:x'<=N:=by omega
     rw[show min (y'+(x'-y')) N-min y' N=x'-y' from by omega] at hcl
     omega
theorem low_all (R:Nat){l s:Nat}{acs:List (Int × Int)}{m':MS1}(hl:0<l)(ok:MOk ⟨0,-1,l,0,List.replicate s (-1)⟩)(r:MRun ⟨0,-1,l,0,List.replicate s (-1)⟩ acs m')(hp:m'.pend=0):bst R l s<=m'.total:=by
 obtain⟨_,K,hK,hc⟩:=low_left R l r ok hp (by simp)
 have he:endN ⟨0,-1,l,0,List.replicate s (-1)⟩=l:=by unfold endN;simp
 rw[he] at hK hc
 simp only[List.length_replicate] at hK hc
 rcases hK with ⟨h0,_⟩|⟨_,hd,hlen⟩
 ·omega
 obtain⟨z,K,rfl⟩:∃x K',K=x ::K':=by
  cases K with
  | nil=>exact hd.elim
  | cons x K=>exact⟨x,K,rfl⟩
 have h1:=segs_all R s l z K hd (by simp at hlen;omega)
 have hz:=Down.lt hd
 have h2:z<=cnt (unsh (infoOf ⟨0,-1,l,0,List.replicate s (-1)⟩) (z ::K)) l:=by
  have:=cnt_less (p:=unsh (infoOf ⟨0,-1,l,0,List.replicate s (-1)⟩) (z ::K)) (q:=fun _=>False) 0 z l (fun _ _ h=>h.elim) (fun j _ _ hj=>⟨⟨z,by simp,by omega,fun i hi hh=>by
   simp only[infoOf,List.mem_cons,List.mem_replicate] at hi
   rcases hi with rfl|⟨_,rfl⟩<;>omega⟩,id⟩)
  omega
 omega
end Go.VC
namespace Go.VC
open Go Go.Proofs
theorem bst_reps {l s:Nat}(hs:1<=s):bst l l s=lo (repsOf l s) l s:=by
 have hsp:=repsOf_spec (l:=l) hs
 refine Int.le_antisymm (bst_at l hsp.enough ?_) (lo_le_bst l s hsp.le)
 rcases hsp.least with h|h
 ·exact .inl h
 ·exact .inr (by omega)
theorem lo_cap {l s:Nat}(hs:1<=s)(hl:l<65536):chCap (s+repsOf l s) (s+1)=ch (s+repsOf l s) (s+1)/\((chCap (s+repsOf l s) (s+1):Nat):Int)<=(repsOf l s:Int)*l/\(repsOf l s:Int)*l<=4294967296:=by
 have hsp:=repsOf_spec (l:=l) hs
 have h0:0<=lo (repsOf l s) l s:=by rw[<-bst_reps hs];exact bst_nonneg _ _ _
 have hle:=hsp.le
 have hmul:repsOf l s*l<=65536*65536:=Nat.mul_le_mul (by omega) (by omega)
 have e:((repsOf l s*l:Nat):Int)=(repsOf l s:Int)*l:=by push_cast;rfl
 unfold lo at h0
 unfold chCap most
 omega
def modS (D:Nat):Nat->Nat
 | 0=>0
 | i+1=>modS D i+i % D
theorem modS_eq {D:Nat}(hD:0<D):∀l,2*modS D l+(l % D)*(D-l % D)=l*(D-1)
 | 0=>by simp[modS]
 | l+1=>by
  have ih:=modS_eq hD l
  have hr:=Nat.mod_lt l hD
  simp only[modS]
  rcases Nat.lt_or_ge (l % D+1) D with h|h
  ·have e:(l+1) % D=l % D+1:=by rw[Nat.add_mod,Nat.mod_eq_of_lt (show 1<D by omega),Nat.mod_eq_of_lt h]
   rw[e]
   obtain⟨k,hk⟩:∃k,D=l % D+1+k:=⟨D-(l % D+1),by omega⟩
   have e1:D-(l % D+1)=k:=by omega
   have e2:D-l % D=k+1:=by omega
   have e3:D-1=l % D+k:=by omega
   rw[e1,e3,Nat.add_mul,Nat.add_mul,Nat.one_mul,Nat.one_mul]
   rw[e2,e3,Nat.mul_add (l % D) k 1,Nat.mul_one] at ih
   omega
  ·have hr':l % D=D-1:=by omega
   have e:(l+1) % D=0:=by
    have:(l+1) % D=(l % D+1) % D:=by rw[Nat.add_mod];simp[Nat.add_mod]
    rw[this,hr',Nat.sub_add_cancel hD,Nat.mod_self]
   rw[e,Nat.zero_mul,Nat.add_mul,Nat.one_mul]
   rw[hr',show D-(D-1)=1 from by omega,Nat.mul_one] at ih
   rw[hr']
   omega
theorem modS_le {D:Nat}(hD:0<D)(l:Nat):2*modS D l<=l*(D-1):=by have:=modS_eq hD l;omega
theorem modS_one:∀l,modS 1 l=0
 | 0=>rfl
 | l+1=>by simp[modS,modS_one l,Nat.mod_one]
theorem stride_few {l s:Nat}(hs:1<=s)(hl:l<65536):s*modS (strideD l s) l<=l*l/\(l<s->modS (strideD l s) l=0):=by
 obtain⟨j,hj,e,h1,h2⟩:=strideD_spec hs hl
 rcases h2 with h0|h2
 ·subst h0
  rw[e,Nat.pow_zero,modS_one]
  exact⟨by omega,fun _=>rfl⟩
 ·have hj0:1<=j\/j=0:=by omega
  rcases hj0 with hj1|hj1
  ·have hpow:2 ^ j=2*2 ^ (j-1):=by rw[<-Nat.pow_succ'];congr 1;omega
   have hD:0<strideD l s:=strideD_pos hs hl
   have hm:=modS_le hD l
   have hp:0<2 ^ (j-1):=Nat.pow_pos (by omega)
   refine⟨?_,fun hlt=>?_⟩
   ·have a1:s*(2*modS (strideD l s) l)<=s*(l*(strideD l s-1)):=Nat.mul_le_mul_left _ hm
    have a2:s*(l*(strideD l s-1))<=s*(l*strideD l s):=Nat.mul_le_mul_left _ (Nat.mul_le_mul_left _ (by omega))
    have a3:s*(l*strideD l s)=l*(2*(s*2 ^ (j-1))):=by rw[e,hpow];simp only[Nat.mul_left_comm]
    have a4:l*(2*(s*2 ^ (j-1)))<=l*(2*l):=Nat.mul_le_mul_left _ (Nat.mul_le_mul_left _ h2)
    have a5:l*(2*l)=2*(l*l):=by simp only[Nat.mul_left_comm]
    have a6:s*(2*modS (strideD l s) l)=2*(s*modS (strideD l s) l):=by simp only[Nat.mul_left_comm]
    omega
   ·have:s*1<=s*2 ^ (j-1):=Nat.mul_le_mul_left _ hp
    omega
  ·subst hj1
   rw[e,Nat.pow_zero,modS_one]
   exact⟨by omega,fun _=>rfl⟩
end Go.VC
namespace Go.VC
open Go Go.Proofs
def remS (D:Nat)(at_ pend:Int):Int:=if at_<pend then (modS D (pend-1).toNat:Int)+(pend-1-at_) else (modS D pend.toNat:Int)
structure BPl (l at_ pend plain:Int)(tags:List Int):Prop where
 mul:∀j,j<tags.length->0<=gt tags j->gt tags j % (DD l tags:Int)=0
 full:∀m:Nat,((m*DD l tags:Nat):Int)<pend->∃i,i<tags.length/\gt tags i=((m*DD l tags:Nat):Int)
 low:at_<pend->bT tags<=at_
 sum:plain+remS (DD l tags) at_ pend=l+(modS (DD l tags) l.toNat:Int)
theorem bT_held {tags:List Int}(h0:0<=bT tags):0<=bestF tags (fun t=>decide (0<=t)) (fun a b=>decide (b<a))/\(bestF tags (fun t=>decide (0<=t)) (fun a b=>decide (b<a))).toNat<tags.length/\gt tags (bestF tags (fun t=>decide (0<=t)) (fun a b=>decide (b<a))).toNat=bT tags:=by
 have hb:0<=bestF tags (fun t=>decide (0<=t)) (fun a b=>decide (b<a)):=by
  apply Classical.byContradiction
  intro hn
  unfold bT at h0;rw[if_neg hn] at h0;omega
 exact⟨hb,best_lt hb,by unfold bT;rw[if_pos hb]⟩
theorem bpl_first {l at_ plain:Int}{tags:List Int}(h:AFull l at_ tags)(hp:plain=at_):BPl l at_ at_ plain tags:=by
 have e:=h.here
 subst e
 refine⟨h.mul,fun m hm=>h.full m (by omega),fun h'=>by omega,?_⟩
 unfold remS
 rw[if_neg (by omega),hp]
theorem b_plain {l at_ pend plain:Int}{tags:List Int}{ended:Bool}(h:BInv l at_ pend tags)(w:BPl l at_ pend plain tags){k n:Int}{m:MS1}(hx:strideNext l ended at_ pend tags=some (k,n))(hs:mstep ⟨at_,pend,l,0,tags⟩ k n=some m) :
  BPl l m.at_ m.pend (if k=1 then plain+n else plain) m.tags:=by
 obtain⟨mok,pd,n1,has0⟩:=h
 have ⟨l0,l1,at0,at1,p0,p1,tg,few⟩:=mok
 dsimp only at l0 l1 at0 at1 p0 p1 tg few
 have tg1:∀t∈tags,-1<=t:=fun t ht=>(tg t ht).1
 have hD:0<DD l tags:=strideD_pos n1 (by omega)
 obtain⟨mul,full,low,sum⟩:=w
 rw[back_eq ended pd] at hx
 split at hx
 ·rename_i c1
  cases hx
  obtain⟨h1,h2,h3⟩:=bT_held c1.1
  rcases mstep_inv hs with ⟨hk,_⟩|⟨hk,_⟩|⟨hk,_⟩|⟨-,-,-,-,rfl⟩|⟨hk,_⟩|⟨hk,_⟩|⟨hk,_⟩<;>try omega
  rw[if_neg (by omega)]
  refine⟨fun j hj h0=>?_,fun q hq=>?_,fun hlt=>?_,?_⟩
  ·dsimp only at hj h0 ⊢
   rw[DD_set]
   rw[List.length_set] at hj
   rw[gt_set] at h0 ⊢
   split at h0
   ·omega
   ·rename_i hne;rw[if_neg hne];exact mul j hj h0
  ·dsimp only at hq ⊢
   rw[DD_set] at hq ⊢
   obtain⟨i,hi,e⟩:=full q hq
   refine⟨i,by simpa using hi,?_⟩
   rw[gt_set,if_neg ?_,e]
   rintro⟨ei,_⟩
   rw[ei,e] at h3;omega
  ·dsimp only at hlt
   have:=low hlt;omega
  ·dsimp only
   rw[DD_set];exact sum
 rename_i c1
 split at hx
 ·cases hx
 rename_i c2
 split at hx
 ·rename_i c3
  cases hx
  rcases mstep_inv hs with ⟨hk,_⟩|⟨hk,_⟩|⟨hk,_⟩|⟨hk,_⟩|⟨hk,_⟩|⟨hk,_⟩|⟨-,-,-,-,rfl⟩<;>try omega
  rw[if_neg (by omega)]
  refine⟨mul,fun q hq=>full q (by dsimp only at hq;omega),fun hlt=>by dsimp only at hlt;omega,?_⟩
  dsimp only
  unfold remS at sum ⊢
  rw[if_pos (by omega)] at sum
  rw[if_neg (by omega),c3]
  omega
 rename_i c3
 split at hx
 ·rename_i c4
  cases hx
  obtain⟨h1,h2,h3⟩:=bT_held c4.1
  rcases mstep_inv hs with ⟨hk,_⟩|⟨hk,_⟩|⟨-,-,-,-,rfl⟩|⟨hk,_⟩|⟨hk,_⟩|⟨hk,_⟩|⟨hk,_⟩<;>try omega
  rw[if_neg (by omega)]
  have e:tagAt ⟨at_,pend,l,0,tags⟩ (bestF tags (fun t=>decide (0<=t)) (fun a b=>decide (b<a)))=bT tags:=h3
  rw[e]
  have hlt:bT tags<pend:=by omega
  have hge:¬at_<pend:=fun hh=>by have:=low hh;omega
  refine⟨mul,full,fun _=>Int.le_refl _,?_⟩
  dsimp only
  unfold remS at sum ⊢
  rw[if_neg hge] at sum
  rw[if_pos hlt]
  obtain⟨P,hP⟩:∃P:Nat,pend=(P:Int)+1:=⟨(pend-1).toNat,by omega⟩
  have e1:(pend-1).toNat=P:=by omega
  have e2:pend.toNat=P+1:=by omega
  rw[e2] at sum
  rw[e1]
  simp only[modS] at sum
  have hbt:bT tags=((P / DD l tags*DD l tags:Nat):Int):=by
   have hdm:=Nat.div_mul_le_self P (DD l tags)
   obtain⟨i,hi,ei⟩:=full (P / DD l tags) (by omega)
   have h4:=bT_top tg1 hi
   rw[ei] at h4
   have h5:=mul _ h2 (by omega)
   rw[h3] at h5
   obtain⟨B,hB⟩:∃B:Nat,bT tags=(B:Int):=⟨(bT tags).toNat,by omega⟩
   rw[hB] at h5 hlt h4 ⊢
   have h6:B % DD l tags=0:=by exact_mod_cast h5
   have h7:B=B / DD l tags*DD l tags:=by have:=Nat.div_add_mod B (DD l tags);rw[h6,Nat.mul_comm] at this;omega
   have h8:B / DD l tags<=P / DD l tags:=Nat.div_le_div_right (by omega)
   have h9:=Nat.mul_le_mul_right (DD l tags) h8
   omega
  have hmod:=Nat.div_add_mod P (DD l tags)
  rw[Nat.mul_comm] at hmod
  rw[hbt]
  push_cast at sum
  omega
 rename_i c4
 split at hx
 ·rename_i c5
  cases hx
  rcases mstep_inv hs with ⟨-,-,-,-,rfl⟩|⟨hk,_⟩|⟨hk,_⟩|⟨hk,_⟩|⟨hk,_⟩|⟨hk,_⟩|⟨hk,_⟩<;>try omega
  rw[if_pos rfl]
  refine⟨mul,full,fun _=>?_,?_⟩
  ·have:=low c5;dsimp only;omega
  ·dsimp only
   unfold remS at sum ⊢
   rw[if_pos c5] at sum
   rw[if_pos (by omega)]
   omega
 ·cases hx
theorem a_plain {l at_ plain:Int}{tags:List Int}{ended:Bool}(h0:0<=at_)(hp:plain=at_){k n:Int}{m:MS1}(hx:strideNext l ended at_ (-1) tags=some (k,n))(hs:mstep ⟨at_,-1,l,0,tags⟩ k n=some m)(hm:m.pend = -1):(if k=1 then plain+n else plain)=m.at_:=by
 rw[ahead_eq] at hx
 have hk:k=1\/k=4\/k=2\/k=5:=by
  split at hx
  ·cases hx;omega
  ·split at hx
   ·cases hx;omega
   ·split at hx
    ·cases hx;omega
    ·split at hx
     ·cases hx;omega
     ·cases hx
 rcases mstep_inv hs with ⟨e,-,-,-,rfl⟩|⟨e,-,-,-,rfl⟩|⟨e,-,-,-,rfl⟩|⟨e,-,-,-,rfl⟩|⟨e,_,_,_,rfl⟩|⟨e,_,_,_,rfl⟩|⟨e,_⟩
 ·rw[if_pos e,hp]
 ·rw[if_neg (by omega),hp]
 ·omega
 ·rw[if_neg (by omega),hp]
 ·dsimp only at hm;omega
 ·dsimp only at hm;omega
 ·omega
theorem mstep_lift {s m:MS1}{k n:Int}(h:mstep s k n=some m){l' t':Int}(hl:s.l<=l')(he:(k=5\/k=6)->s.l=l'):mstep { s with l:=l',total:=t' } k n=some { m with l:=l',total:=if k=1 then t'+n else t' }:=by
 unfold mstep mstepR at h ⊢
 have ht:∀x,tagAt { s with l:=l',total:=t' } x=tagAt s x:=fun x=>rfl
 split at h
 ·cases h
 rename_i hr
 rw[if_neg hr]
 dsimp only
 split at h
 ·rename_i k1
  rw[if_pos k1]
  split at h
  ·cases h
  ·cases h
   rw[if_neg (by omega),if_pos k1]
 rename_i k1
 rw[if_neg k1,if_neg k1]
 split at h
 ·rename_i k2
  rw[if_pos k2,ht]
  split at h
  ·cases h
  ·rename_i c;cases h;rw[if_neg c]
 rename_i k2
 rw[if_neg k2]
 split at h
 ·rename_i k3
  rw[if_pos k3,ht]
  split at h
  ·cases h
  ·rename_i c;cases h;rw[if_neg c]
 rename_i k3
 rw[if_neg k3]
 split at h
 ·rename_i k4
  rw[if_pos k4,ht]
  split at h
  ·cases h
  ·rename_i c;cases h;rw[if_neg c]
 rename_i k4
 rw[if_neg k4]
 split at h
 ·rename_i k5
  have e:=he (.inl k5)
  rw[if_pos k5,<-e]
  split at h
  ·rename_i c;cases h;rw[if_pos c]
  ·cases h
 rename_i k5
 rw[if_neg k5]
 split at h
 ·rename_i k6
  have e:=he (.inr k6)
  rw[if_pos k6,<-e]
  split at h
  ·rename_i c;cases h;rw[if_pos c]
  ·cases h
 rename_i k6
 rw[if_neg k6]
 split at h
 ·rename_i c;cases h;rw[if_pos c]
 ·cases h
end Go.VC
namespace Go.VC
open Go Go.Proofs
theorem split_all {n:Nat}(hn:2<=n):splitOf n 1=n-1:=by
 have hsp:=repsOf_spec (l:=n) (s:=1) (by omega)
 have e:∀r,ch (1+r) 1=1+r:=fun r=>ch_one _
 have en:=hsp.enough
 have le:=hsp.least
 rw[e] at en le
 have h:=split_le (n:=n) (c:=1) hn (by omega)
 have hr:1<=repsOf n 1:=by
  rcases Nat.eq_zero_or_pos (repsOf n 1) with h0|h0
  ·rw[h0] at en;omega
  ·exact h0
 unfold splitOf at h ⊢
 rw[show 1-1=0 from rfl,ch_zero] at h ⊢
 omega
theorem filt_set (p:Int->Bool):∀(l:List Int) (k:Nat) (v:Int),k<l.length->((l.set k v).filter p).Perm ((if p v then [v] else [])++(l.eraseIdx k).filter p)
 | a ::l,0,v,_=>by
  simp only[List.set_cons_zero,List.eraseIdx_zero,List.tail_cons,List.filter_cons]
  cases p v<;>simp
 | a ::l,k+1,v,h=>by
  have ih:=filt_set p l k v (by simpa using h)
  simp only[List.set_cons_succ,List.eraseIdx_cons_succ,List.filter_cons]
  cases p a
  ·simpa using ih
  ·simp only[if_true]
   exact (ih.cons a).trans List.perm_middle.symm
theorem filt_self (p:Int->Bool)(l:List Int)(k:Nat)(h:k<l.length):(l.filter p).Perm ((if p l[k] then [l[k]] else [])++(l.eraseIdx k).filter p):=by
 have:=filt_set p l k l[k] h
 rwa [List.set_getElem_self] at this
def Stk (tags:List Int)(B:List Nat):Prop:=(tags.filter fun t=>decide (0<=t)).Perm (B.map fun b:Nat=>(b:Int))
theorem gt_get {tags:List Int}{k:Nat}(h:k<tags.length):gt tags k=tags[k]:=by
 unfold gt;rw[List.getD_eq_getElem?_getD,List.getElem?_eq_getElem h];rfl
theorem Stk.store {tags:List Int}{B:List Nat}(w:Stk tags B){k:Nat}(hk:k<tags.length)(hn:gt tags k<0)(x:Nat):Stk (tags.set k x) (x ::B):=by
 have h1:=filt_set (fun t=>decide (0<=t)) tags k x hk
 have h2:=filt_self (fun t=>decide (0<=t)) tags k hk
 rw[gt_get hk] at hn
 rw[if_neg (by simpa using hn)] at h2
 rw[if_pos (by simp)] at h1
 simp only[List.nil_append] at h2
 exact h1.trans ((h2.symm.trans w).cons _)
theorem Stk.freed {tags:List Int}{b:Nat}{B:List Nat}(w:Stk tags (b ::B)){k:Nat}(hk:k<tags.length)(hn:gt tags k=b):Stk (tags.set k (-1)) B:=by
 have h1:=filt_set (fun t=>decide (0<=t)) tags k (-1) hk
 have h2:=filt_self (fun t=>decide (0<=t)) tags k hk
 rw[gt_get hk] at hn
 rw[if_pos (by simp;omega),hn] at h2
 rw[if_neg (by simp)] at h1
 simp only[List.nil_append] at h1
 exact h1.trans ((h2.symm.trans w).cons_inv)
theorem Stk.len {tags:List Int}{B:List Nat}(w:Stk tags B):heldN tags=B.length:=by
 have:=w.length_eq
 rw[List.length_map] at this
 unfold heldN
 rw[List.countP_eq_length_filter];exact this
theorem Stk.le {tags:List Int}{B:List Nat}(w:Stk tags B):B.length<=tags.length:=by rw[<-w.len];exact heldN_le _
theorem stk_nil {tags:List Int}(ht:∀t∈tags,-1<=t)(w:Stk tags []):baseOf tags = -1:=by
 refine base_none ht fun j hj=>?_
 have h:=w.length_eq
 simp only[List.map_nil,List.length_nil] at h
 have:=List.filter_eq_nil_iff.1 (List.length_eq_zero_iff.1 h) _ (gt_mem hj)
 simpa using this
theorem stk_top {tags:List Int}(ht:∀t∈tags,-1<=t){e b:Nat}{B:List Nat}(w:Stk tags (b ::B))(hd:Down e (b ::B)):baseOf tags=b:=by
 have hb:(b:Int)∈tags:=(List.mem_filter.1 (w.mem_iff.2 (by simp))).1
 obtain⟨j,hj,e1⟩:=List.getElem_of_mem hb
 refine base_eq ht (by omega) hj (by rw[gt_get hj];exact e1) fun i hi=>?_
 rcases Int.lt_or_le (gt tags i) 0 with h|h
 ·omega
 ·have:gt tags i∈(b ::B).map fun b:Nat=>(b:Int):=w.mem_iff.1 (List.mem_filter.2 ⟨gt_mem hi,by simpa using h⟩)
  obtain⟨x,hx,e2⟩:=List.mem_map.1 this
  rcases List.mem_cons.1 hx with rfl|hx
  ·omega
  ·have:Down (b+1) (b ::B):=hd.mono (by omega)
   cases B with
   | nil=>simp at hx
   | cons c B=>have:=Down.all this.2 x hx;omega
theorem stk_free {tags:List Int}(ht:∀t∈tags,-1<=t){B:List Nat}(w:Stk tags B):(lookF tags).free=tags.length-(B.length:Int):=by
 have h:=(seen_of ht).fr
 rw[List.take_length] at h
 have h2:=w.len
 unfold heldN at h2
 have h3:=List.length_eq_countP_add_countP (fun t:Int=>decide (0<=t)) (l:=tags)
 have h4:tags.countP (fun t=>decide (t<0))=tags.countP (fun a=>decide ¬(decide (0<=a)=true)):=by
  congr 1;funext t
  by_cases h:0<=t
  ·simp[h]
  ·simp[h];omega
 rw[h,h4]
 omega
def phi (R s:Nat)(l at_ pend:Int)(tags:List Int)(B:List Nat):Int:=
 if baseOf tags<at_/\at_<endOf l pend then segs R s (endOf l pend).toNat (at_.toNat ::B) else segs R s (endOf l pend).toNat B
def Up (R s:Nat)(c l at_ pend total:Int)(tags:List Int):Prop:=
 tags.length=s/\∃B,Stk tags B/\(B=[]\/Down ((endOf l pend).toNat+1) B)/\(B≠[]->baseOf tags<at_->at_<endOf l pend->at_=endOf l pend-1\/0<(lookF tags).free)/\total+phi R s l at_ pend tags B<=c
theorem segs_nonneg (R s:Nat):∀(B:List Nat) (e:Nat),0<=segs R s e B
 | [],_=>by simp[segs]
 | b ::B,e=>by have:=segs_nonneg R s B b;have:=bst_nonneg R (e-b) (s-B.length);simp only[segs];omega
theorem Up.le {R s:Nat}{c l at_ pend total:Int}{tags:List Int}(w:Up R s c l at_ pend total tags):total<=c:=by
 obtain⟨_,B,_,_,_,h⟩:=w
 have:0<=phi R s l at_ pend tags B:=by unfold phi;split<;>exact segs_nonneg _ _ _ _
 omega
theorem Up.first (R s:Nat){l:Int}(h0:0<=l):Up R s (if 0<l then bst R l.toNat s else 0) l 0 (-1) 0 (List.replicate s (-1)):=by
 have hst:Stk (List.replicate s (-1)) []:=by
  unfold Stk
  rw[List.filter_eq_nil_iff.2 (by intro t ht;rw[List.mem_replicate] at ht;simp[ht.2])];exact List.Perm.refl _
 refine⟨by simp,[],hst,.inl rfl,fun h=>(h rfl).elim,?_⟩
 have hb:=stk_nil (by intro t ht;rw[List.mem_replicate] at ht;omega) hst
 have he:endOf l (-1)=l:=rfl
 unfold phi
 rw[hb,he]
 by_cases hl:0<l
 ·rw[if_pos hl,if_pos ⟨by omega,hl⟩]
  simp[segs]
 ·rw[if_neg hl,if_neg (by omega)]
  simp[segs]
theorem up_step {R s:Nat}{c l at_ pend total:Int}{tags:List Int}{k n:Int}{m:MS1}(hR:l<=R)(h:OffInv l at_ pend tags)(u:Up R s c l at_ pend total tags)(hx:revNext l at_ pend tags=some (k,n))(hs:mstep ⟨at_,pend,l,0,tags⟩ k n=some m) :
  Up R s c l m.at_ m.pend (if k=1 then total+n else total) m.tags:=by
 obtain⟨mok,dist,n1,start,has0,top,pos⟩:=h
 have mok1:=mstep_ok mok hs
 have ⟨l0,l1,at0,at1,p0,p1,tg,few⟩:=mok
 dsimp only at l0 l1 at0 at1 p0 p1 tg few
 have tg1:∀t∈tags,-1<=t:=fun t ht=>(tg t ht).1
 have seen:=seen_of tg1
 have hb:baseOf tags=(lookF tags).base:=rfl
 have he:0<=endOf l pend/\endOf l pend<=l:=by unfold endOf;split<;>omega
 have hpe:0<=pend->endOf l pend=pend:=by intro hp;unfold endOf;rw[if_neg (by omega)]
 have hne:pend<0->endOf l pend=l:=by intro hp;unfold endOf;rw[if_pos hp]
 have b0:=seen.b0
 have hs0:=seen.slot0
 have hslot:0<=baseOf tags->(lookF tags).slot<tags.length/\gt tags (lookF tags).slot.toNat=baseOf tags:=fun h0=>seen.at_ h0
 obtain⟨hlen,B,hB,hd,hfr,hc⟩:=u
 have hnil:B=[]->baseOf tags = -1:=fun e=>by subst e;exact stk_nil tg1 hB
 have htop:∀b B',B=b ::B'->baseOf tags=b/\Down ((endOf l pend).toNat+1) (b ::B'):=fun b B' e=>by
  subst e
  have hd:Down ((endOf l pend).toNat+1) (b ::B'):=by rcases hd with h|h;cases h;exact h
  exact⟨stk_top tg1 hB hd,hd⟩
 have hcons:0<=baseOf tags->∃b B',B=b ::B':=fun h0=>by
  cases B with
  | nil=>have:=hnil rfl;omega
  | cons b B=>exact⟨b,B,rfl⟩
 have hfree:=stk_free tg1 hB
 have hble:=hB.le
 rw[revNext_eq] at hx
 split at hx
 ·
  rename_i c1
  cases hx
  rcases mstep_inv hs with ⟨hk,_⟩|⟨hk,_⟩|⟨hk,_⟩|⟨-,-,-,-,rfl⟩|⟨hk,_⟩|⟨hk,_⟩|⟨hk,_⟩<;>try omega
  have hp:=hpe c1.1
  have hbe:baseOf tags=pend:=by omega
  obtain⟨b,B',rfl⟩:=hcons (by omega)
  obtain⟨ht1,ht2⟩:=htop _ _ rfl
  obtain⟨hsl,hsg⟩:=hslot (by omega)
  have hat:at_=pend:=by rcases pos (by omega) with h1|h1<;>omega
  rw[if_neg (by omega)]
  refine⟨by simpa using hlen,B',hB.freed (by omega) (by rw[hsg];omega),?_,fun _ _ h2=>by dsimp only at h2;omega,?_⟩
  ·cases B' with
   | nil=>exact .inl rfl
   | cons x B'=>exact .inr (ht2.2.mono (by have:=Down.lt ht2.2;have:=Down.lt ht2;dsimp only;omega))
  ·unfold phi at hc ⊢
   rw[if_neg (by omega)] at hc
   rw[if_neg (by dsimp only;omega)]
   have e1:(endOf l pend).toNat=b:=by omega
   simp only[e1,segs,Nat.sub_self,bst_none] at hc ⊢
   omega
 rename_i c1
 split at hx
 ·cases hx
 rename_i c2
 split at hx
 ·
  rename_i c3
  cases hx
  rcases mstep_inv hs with ⟨hk,_⟩|⟨hk,_⟩|⟨hk,_⟩|⟨hk,_⟩|⟨-,-,-,-,rfl⟩|⟨hk,_⟩|⟨hk,_⟩<;>try omega
  have hbn:baseOf tags = -1:=by
   apply Classical.byContradiction
   intro hn
   rcases pos (by omega) with h1|h1
   ·have:=hne c3.1;omega
   ·omega
  have hl:l=0:=by rcases start hbn with h1|h1<;>omega
  have hBn:B=[]:=by
   cases B with
   | nil=>rfl
   | cons b B=>have:=(htop _ _ rfl).1;omega
  subst hBn
  rw[if_neg (by omega)]
  have e1:endOf l at_=0:=by unfold endOf;rw[if_neg (by omega)];omega
  have e2:=hne c3.1
  refine⟨hlen,[],hB,.inl rfl,fun h=>(h rfl).elim,?_⟩
  unfold phi at hc ⊢
  dsimp only
  rw[if_neg (by omega)] at hc
  rw[if_neg (by omega)]
  simpa [segs] using hc
 rename_i c3
 split at hx
 ·
  rename_i c4
  have key:(if k=1 then total+n else total)=total/\m={ at_:=at_,pend:=at_,l:=l,total:=0,tags:=tags }:=by
   split at hx
   ·cases hx
    rcases mstep_inv hs with ⟨hk,_⟩|⟨hk,_⟩|⟨hk,_⟩|⟨hk,_⟩|⟨hk,_⟩|⟨hk,_⟩|⟨-,-,-,-,rfl⟩<;>try omega
    exact⟨rfl,rfl⟩
   ·cases hx
    rcases mstep_inv hs with ⟨hk,_⟩|⟨hk,_⟩|⟨hk,_⟩|⟨hk,_⟩|⟨hk,_⟩|⟨-,-,-,-,rfl⟩|⟨hk,_⟩<;>try omega
    exact⟨rfl,rfl⟩
  obtain⟨k1,rfl⟩:=key
  rw[k1]
  have e1:endOf l at_=at_:=by unfold endOf;rw[if_neg (by omega)]
  have hba:baseOf tags<=at_:=by
   rcases Int.lt_or_le (baseOf tags) 0 with h0|h0
   ·omega
   ·rcases pos h0 with h1|h1
    ·omega
    ·have:=hpe h1.1;omega
  refine⟨hlen,B,hB,?_,fun _ _ h2=>by dsimp only at h2;omega,?_⟩
  ·cases B with
   | nil=>exact .inl rfl
   | cons b B=>obtain⟨t1,t2⟩:=htop _ _ rfl;exact .inr (t2.mono (by dsimp only;rw[e1];omega))
  ·unfold phi at hc ⊢
   dsimp only
   rw[e1,if_neg (by omega)]
   have e3:(endOf l pend).toNat=at_.toNat+1:=by omega
   rw[e3] at hc
   split at hc
   ·simp only[segs] at hc
    rw[show at_.toNat+1-at_.toNat=1 from by omega,bst_one] at hc
    omega
   ·obtain⟨b,B',rfl⟩:=hcons (by omega)
    have t1:=(htop _ _ rfl).1
    have e4:at_.toNat=b:=by omega
    rw[e4] at hc ⊢
    simp only[segs,Nat.sub_self,bst_none] at hc ⊢
    rw[show b+1-b=1 from by omega,bst_one] at hc
    omega
 rename_i c4
 split at hx
 ·
  rename_i c5
  split at hx
  ·cases hx
  rename_i c5'
  cases hx
  rcases mstep_inv hs with ⟨hk,_⟩|⟨-,-,q1,q2,rfl⟩|⟨hk,_⟩|⟨hk,_⟩|⟨hk,_⟩|⟨hk,_⟩|⟨hk,_⟩<;>try omega
  obtain⟨ha0,hp1⟩:at_=0/\pend = -1:=by rcases start (by omega) with h1|h1;exact h1;omega
  have hBn:B=[]:=by
   cases B with
   | nil=>rfl
   | cons b B=>have:=(htop _ _ rfl).1;omega
  subst hBn
  rw[if_neg (by omega)]
  have hB':Stk (tags.set (0:Int).toNat at_) [0]:=by rw[ha0];exact hB.store (k:=0) (by omega) q2 0
  have hbase:=stk_top (e:=1) (fun t ht=>(mok1.tg t ht).1) hB' ⟨by omega,rfl⟩
  dsimp only at hbase
  refine⟨by simpa using hlen,[0],hB',.inr ⟨by omega,rfl⟩,fun _ h1=>by dsimp only at h1;omega,?_⟩
  unfold phi at hc ⊢
  dsimp only
  rw[if_neg (by omega)]
  rw[if_pos (by omega),ha0] at hc
  exact hc
 rename_i c5
 split at hx
 ·
  rename_i c6
  cases hx
  rcases mstep_inv hs with ⟨hk,_⟩|⟨hk,_⟩|⟨-,q0,q1,q2,rfl⟩|⟨hk,_⟩|⟨hk,_⟩|⟨hk,_⟩|⟨hk,_⟩<;>try omega
  obtain⟨hsl,hsg⟩:=hslot (by omega)
  have hta:tagAt ⟨at_,pend,l,0,tags⟩ (lookF tags).slot=baseOf tags:=hsg
  rw[if_neg (by omega)]
  refine⟨hlen,B,hB,hd,fun _ h1=>by dsimp only at h1;omega,?_⟩
  unfold phi at hc ⊢
  dsimp only
  rw[if_neg (by omega)] at hc
  rw[if_neg (by omega)]
  exact hc
 rename_i c6
 obtain⟨b,B',rfl⟩:=hcons (by omega)
 obtain⟨t1,t2⟩:=htop _ _ rfl
 split at hx
 ·
  rename_i c7
  cases hx
  rcases mstep_inv hs with ⟨hk,_⟩|⟨-,q0,q1,q2,rfl⟩|⟨hk,_⟩|⟨hk,_⟩|⟨hk,_⟩|⟨hk,_⟩|⟨hk,_⟩<;>try omega
  dsimp only at q1
  rw[if_neg (by omega)]
  have hB':Stk (tags.set (lookF tags).vac.toNat at_) (at_.toNat ::b ::B'):=by
   have:=hB.store (k:=(lookF tags).vac.toNat) (by omega) q2 at_.toNat
   rwa [Int.toNat_of_nonneg at0] at this
  have hD:Down ((endOf l pend).toNat+1) (at_.toNat ::b ::B'):=⟨by omega,t2.mono (by omega)⟩
  have hbase:=stk_top (fun t ht=>(mok1.tg t ht).1) hB' hD
  dsimp only at hbase
  refine⟨by simpa using hlen,_,hB',.inr hD,fun _ h1=>by dsimp only at h1;omega,?_⟩
  unfold phi at hc ⊢
  dsimp only
  rw[if_neg (by omega)]
  rw[if_pos (by omega)] at hc
  exact hc
 rename_i c7
 split at hx
 ·rename_i c8
  have:=hfr (by simp) c8 (by omega)
  omega
 rename_i c8
 cases hx
 rcases mstep_inv hs with ⟨-,-,-,-,rfl⟩|⟨hk,_⟩|⟨hk,_⟩|⟨hk,_⟩|⟨hk,_⟩|⟨hk,_⟩|⟨hk,_⟩<;>try omega
 have hab:at_=baseOf tags:=by omega
 have hfs:((lookF tags).free+1).toNat=s-(B'.length+1)+1:=by simp at hble hfree;omega
 have hnn:(endOf l pend-baseOf tags).toNat=(endOf l pend).toNat-b:=by omega
 have h2:2<=(endOf l pend).toNat-b:=by omega
 have hsp:=split_le (n:=(endOf l pend).toNat-b) (c:=s-(B'.length+1)+1) h2 (by omega)
 have hbest:=split_bst (R:=R) (n:=(endOf l pend).toNat-b) (c:=s-(B'.length+1)) h2 (by omega)
 have hone:(lookF tags).free=0->splitOf ((endOf l pend).toNat-b) (s-(B'.length+1)+1)=(endOf l pend).toNat-b-1:=by
  intro h0
  rw[show s-(B'.length+1)+1=1 from by omega];exact split_all h2
 rw[if_pos rfl]
 rw[hfs,hnn]
 generalize splitOf ((endOf l pend).toNat-b) (s-(B'.length+1)+1)=q at *
 refine⟨hlen,b ::B',hB,hd,fun _ _ _=>?_,?_⟩
 ·rcases Int.lt_or_le 0 (lookF tags).free with h0|h0
  ·exact .inr h0
  ·have:=hone (by have:=seen.f0;omega)
   left;dsimp only;omega
 ·unfold phi at hc ⊢
  dsimp only
  rw[if_neg (by omega)] at hc
  rw[if_pos (by omega)]
  simp only[segs,List.length_cons] at hc ⊢
  have e1:(at_+(q:Int)).toNat-b=q:=by omega
  have e2:(endOf l pend).toNat-(at_+(q:Int)).toNat=(endOf l pend).toNat-b-q:=by omega
  have e3:s-B'.length=s-(B'.length+1)+1:=by simp at hble;omega
  rw[e1,e2]
  rw[e3] at hc ⊢
  omega
end Go.VC
