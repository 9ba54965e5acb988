/- Texts that the claim rests on: CSweep, PMach, HEq, CMach, PChain, PLive, PVis, PVis2, PStride, CStride, PChoose, VExt, CSlots, CSlots2, CReps, PRevolve, CRevolve, CDrv, CRun, CDrv2, CDrv3, CDrv4, CDrv5. No condition. -/
import Derived.ChangeKeysEq
import Derived.Laws.StructEq
import Derived.Test.YthenlgnbegeliaaGreatM03
namespace Go.VC
open Go Go.Proofs
variable {H:Heap}{R:Value->Heap->Prop}
def bkRem (t:Tree)(F:List Bk):List Op:=t.unroll.reverse++bkRest F
def bkLeft (t:Tree)(F:List Bk):Nat:=t.steps+bkSteps F
theorem rev_rep {α:Type}(n:Nat)(l:List α):(List.replicate n l).flatten.reverse=(List.replicate n l.reverse).flatten:=by
 rw[List.reverse_flatten,List.map_replicate,List.reverse_replicate]
theorem bkRem_op (o:Op)(u:Tree)(F:List Bk):bkRem (u.app (.op o .nil)) F=o ::bkRem u F:=by simp[bkRem,Tree.unroll_app,Tree.unroll]
theorem bkRem_rep {o e:Op}{b u:Tree}{F:List Bk}(h:0<o.v.toNat):bkRem (u.app (.rep o b e .nil)) F=bkRem b (⟨o.v,o,b,e,u⟩ ::F):=by
 simp only[bkRem,Tree.unroll_app,Tree.unroll,bkRest,List.append_nil,List.reverse_append,rev_rep]
 rw[rep_pos h];simp
theorem bkRem_again {f:Bk}{F:List Bk}(h:1<f.k.toNat):bkRem .nil (f ::F)=bkRem f.b ({ f with k:=f.k-1 } ::F):=by
 simp only[bkRem,Tree.unroll,bkRest,List.reverse_nil,List.nil_append]
 rw[rep_pos (by omega),u64_pred (by omega)]
 simp
theorem bkRem_out {f:Bk}{F:List Bk}(h:¬1<f.k.toNat):bkRem .nil (f ::F)=bkRem f.l F:=by
 simp only[bkRem,Tree.unroll,bkRest,List.reverse_nil,List.nil_append]
 rw[show f.k.toNat-1=0 from by omega];simp
theorem bkLeft_op {o:Op}{u:Tree}{F:List Bk}:bkLeft u F<bkLeft (u.app (.op o .nil)) F:=by
 simp only[bkLeft,Tree.steps_app,Tree.steps];omega
theorem bkLeft_rep {o e:Op}{b u:Tree}{F:List Bk}(h:0<o.v.toNat):bkLeft b (⟨o.v,o,b,e,u⟩ ::F)<bkLeft (u.app (.rep o b e .nil)) F:=by
 obtain⟨m,hm⟩:∃m,o.v.toNat=m+1:=⟨o.v.toNat-1,by omega⟩
 simp only[bkLeft,Tree.steps_app,Tree.steps,bkSteps,hm,Nat.add_sub_cancel,Nat.add_mul]
 omega
theorem bkLeft_again {f:Bk}{F:List Bk}(h:1<f.k.toNat):bkLeft f.b ({ f with k:=f.k-1 } ::F)<bkLeft .nil (f ::F):=by
 obtain⟨m,hm⟩:∃m,f.k.toNat=m+2:=⟨f.k.toNat-2,by omega⟩
 simp only[bkLeft,Tree.steps,bkSteps,u64_pred (show 0<f.k.toNat by omega),hm,show m+2-1=m+1 from rfl,Nat.add_sub_cancel,Nat.add_mul]
 omega
theorem bkLeft_out {f:Bk}{F:List Bk}:bkLeft f.l F<bkLeft .nil (f ::F):=by
 simp only[bkLeft,Tree.steps,bkSteps];omega
theorem c370 {br ro c1 ba c2 lr la:Nat}{r adj tp:List UInt64}{a3:Option Addr}{l3 c3:Nat}(o:Op)(n:Nat)(hlr:lr=r.length)(hla:la=adj.length)(hr:OwnO H br ro (u64s r))(ha:Own H ba (u64s adj))(ht:RowU H a3 l3 tp)(hn:n<l3)
  (hne:br≠ba) (hoff:0<l3->Off [ba] a3) (hsep:0<l3->Sep br ro l3 a3) (hl:adj.length=r.length) (ho:RegOk r.length o)
  (k:∀H',OwnO H' br ro (u64s (bStep o (tp[n]'(by rw[ht.len];exact hn)) (r,adj)).1)->Own H' ba (u64s (bStep o (tp[n]'(by rw[ht.len];exact hn)) (r,adj)).2)->RowU H' a3 l3 tp->Mod [br,ba] H H'->R (.tuple #[]) H') :
  Ru 370 [.agg #[.slice (some ⟨br,ro,none⟩) lr c1,.slice (some ⟨ba,0,none⟩) la c2,.slice a3 l3 c3],.agg (opC o).toArray,.int .i64 (n:Int)] H R:=by
 subst hlr;subst hla
 obtain⟨r1,r2,r3,r4,r5,r6⟩:=ho
 refine v370 [.slice (some ⟨br,ro,none⟩) r.length c1,.slice (some ⟨ba,0,none⟩) adj.length c2,.slice a3 l3 c3] (opC o) _ fun H1 p n1 H2 q n2=>?_
 have e2:=n1.mod.new n2
 have hp:=n2.mod.rdL (S:=[]) (by simp) n1.rdL
 have ps:∀(S:List Nat) (H':Heap),Mod S H2 H'->p∉S->rd H' p 0=some (.slice (some ⟨br,ro,none⟩) r.length c1)/\rd H' p 1=some (.slice (some ⟨ba,0,none⟩) adj.length c2)/\rd H' p 2=some (.slice a3 l3 c3):=
  fun S H' m hS=>⟨m.rd hS hp.1,m.rd hS hp.2.1,m.rd hS hp.2.2.1⟩
 have pq:∀(S:List Nat) (H':Heap),Mod S H2 H'->q∉S->Own H' q (opC o):=fun S H' m hS=>n2.own.mod m hS
 have hbr:br<H.size:=hr.lt (u64s_ne (by omega))
 have hba:ba<H.size:=ha.lt (u64s_ne (by omega))
 have hp0:=n1.ge;have hq0:=n2.ge;have hp1:=n1.lt;have hz1:=n1.mod.1
 have hpS:p∉[br,ba]:=by simp;omega
 have hqS:q∉[br,ba]:=by simp;omega
 have hr2:=hr.mod e2 (by simp)
 have ha2:=ha.mod e2 (by simp)
 have s2:=ps [br,ba] H2 Mod.refl hpS
 have q2:=pq [br,ba] H2 Mod.refl hqS
 refine⟨_,_,_,s2.2.1,_,q2.rd 1 rfl,ba,0,rfl,⟨r1,by omega⟩,_,ha2.u64 r1 (by omega),_,_,_,s2.2.1,_,q2.rd 1 rfl,ba,0,rfl,⟨r1,by omega⟩,ha2.wu r1 (by omega),?_⟩
 intro H3 hH3
 have ha3:=ha2.setu o.d.toNat 0
 have m3:Mod [br,ba] H2 H3:=by rw[hH3];exact Mod.refl.wr (.inl (by simp))
 have hr3:OwnO H3 br ro (u64s r):=by rw[hH3];exact hr2.mod (S:=[ba]) (Mod.refl.wr (.inl (by simp))) (by simpa using hne)
 have ha3:Own H3 ba (u64s (adj.set o.d.toNat 0)):=by rw[hH3];exact ha3
 have ht3:RowU H3 a3 l3 tp:=by rw[hH3];exact (Mod.refl.wr (S:=[ba]) (.inl (by simp))).rowz hoff (Ext.row e2 ht)
 clear hH3
 have s3:=ps _ H3 m3 hpS
 have q3:=pq _ H3 m3 hqS
 refine⟨_,_,_,s3.1,_,q3.rd 1 rfl,_,_,_,s3.2.2,?_⟩
 refine RowU.idx ht3 (i:=(n:Int)) (by omega) (by omega) ⟨br,ro,rfl,⟨r1,r2⟩,hr3.wu r1 (by omega),?_⟩
 simp only[Int.toNat_natCast]
 generalize hw:tp[n]'(by rw[ht.len];exact hn)=w at k ⊢
 intro H4 hH4
 have hr4:=hr3.setu o.d.toNat w
 have m4:Mod [br,ba] H3 H4:=by rw[hH4];exact Mod.refl.wr (.inl (by simp))
 have ha4:Own H4 ba (u64s (adj.set o.d.toNat 0)):=by rw[hH4];exact ha3.mod (S:=[br]) (Mod.refl.wr (.inl (by simp))) (by simpa using Ne.symm hne)
 have hr4:OwnO H4 br ro (u64s (r.set o.d.toNat w)):=by rw[hH4];exact hr4
 have ht4:RowU H4 a3 l3 tp:=by rw[hH4];exact ht3.apart hsep
 clear hH4
 have m24:=m3.trans m4
 have s4:=ps _ H4 m24 hpS
 have q4:=pq _ H4 m24 hqS
 have hl4:(r.set o.d.toNat w).length=r.length:=by simp
 refine⟨_,rfl,q4.1,_,_,_,s4.1,_,q4.rd 2 rfl,br,ro,rfl,⟨r3,r4⟩,_,hr4.u64 r3 (by omega),_,_,_,s4.1,_,q4.rd 3 rfl,br,ro,rfl,⟨r5,r6⟩,_,hr4.u64 r5 (by omega),?_⟩
 refine c372 o _ _ fun H5 e5=>⟨_,_,rfl,?_⟩
 have m25:=m24.thenExt e5
 have s5:=ps _ H5 m25 hpS
 have q5:=pq _ H5 m25 hqS
 have ha5:=ha4.mod e5 (by simp)
 have hr5:=hr4.mod e5 (by simp)
 refine⟨_,_,_,s5.2.1,_,q5.rd 2 rfl,ba,0,rfl,⟨r3,by omega⟩,_,ha5.u64 r3 (by simp;omega),ba,0,rfl,⟨r3,by omega⟩,ha5.wu r3 (by simp;omega),?_⟩
 intro H6 hH6
 have ha6:=ha5.setu o.a.toNat (rg (adj.set o.d.toNat 0) o.a+(partialsOp o (rg (r.set o.d.toNat w) o.a) (rg (r.set o.d.toNat w) o.b)).1*rg adj o.d)
 have m6:Mod [br,ba] H5 H6:=by rw[hH6];exact Mod.refl.wr (.inl (by simp))
 have hr6:OwnO H6 br ro (u64s (r.set o.d.toNat w)):=by rw[hH6];exact hr5.mod (S:=[ba]) (Mod.refl.wr (.inl (by simp))) (by simpa using hne)
 rw[<-hH6] at ha6
 have ht6:RowU H6 a3 l3 tp:=by rw[hH6];exact (Mod.refl.wr (S:=[ba]) (.inl (by simp))).rowz hoff (Ext.row e5 ht4)
 clear hH6
 have m26:=m25.trans m6
 have s6:=ps _ H6 m26 hpS
 have q6:=pq _ H6 m26 hqS
 refine⟨_,_,_,s6.2.1,_,q6.rd 3 rfl,ba,0,rfl,⟨r5,by omega⟩,_,ha6.u64 r5 (by simp;omega),ba,0,rfl,⟨r5,by omega⟩,ha6.wu r5 (by simp;omega),?_⟩
 intro H7 hH7
 have ha7:=ha6.setu o.b.toNat (rg ((adj.set o.d.toNat 0).set o.a.toNat (rg (adj.set o.d.toNat 0) o.a+(partialsOp o (rg (r.set o.d.toNat w) o.a) (rg (r.set o.d.toNat w) o.b)).1*rg adj o.d)) o.b+(partialsOp o (rg (r.set o.d.toNat w) o.a) (rg (r.set o.d.toNat w) o.b)).2*rg adj o.d)
 have m7:Mod [br,ba] H6 H7:=by rw[hH7];exact Mod.refl.wr (.inl (by simp))
 have hr7:OwnO H7 br ro (u64s (r.set o.d.toNat w)):=by rw[hH7];exact hr6.mod (S:=[ba]) (Mod.refl.wr (.inl (by simp))) (by simpa using hne)
 rw[<-hH7] at ha7
 have ht7:RowU H7 a3 l3 tp:=by rw[hH7];exact (Mod.refl.wr (S:=[ba]) (.inl (by simp))).rowz hoff ht6
 clear hH7
 exact k H7 hr7 ha7 ht7 ((Mod.ext e2).trans (m26.trans m7))
theorem c353 {a:Option Addr}{l c:Nat}{t:Tree}(hc:RowC H a l (t.link 0))(tok:t.Ok)(tfull:t.Full)(td:t.depth<=8){br ro c1 ba c2:Nat}{regs adj tp:List UInt64}{a3:Option Addr}{l3 c3:Nat}
  (hr:OwnO H br ro (u64s regs)) (ha:Own H ba (u64s adj)) (ht:RowU H a3 l3 tp) (htl:t.size<=l3) (hbb:br≠ba) (hoff:0<l->Off [br,ba] a) (hoff3:0<l3->Off [ba] a3) (hsep:0<l3->Sep br ro l3 a3) (hal:adj.length=regs.length)
  (ho:∀o∈t.unroll,RegOk regs.length o) (hsz:t.size<=65536) (h0:0<regs.length) (hl4:(t.link 0).length<=4096)
  (k:∀H',OwnO H' br ro (u64s (bwd (t.unroll.zip tp).reverse (regs,adj)).1)->Own H' ba (u64s (bwd (t.unroll.zip tp).reverse (regs,adj)).2)->Mod [br,ba] H H'->R (.tuple #[]) H') :
  Ru 353 [.agg #[.slice (some ⟨br,ro,none⟩) regs.length c1,.slice (some ⟨ba,0,none⟩) adj.length c2,.slice a3 l3 c3],.slice a l c,.int .i64 (t.size:Int)] H R:=by
 have hcl:=hc.len
 have htpl:=ht.len
 have hrl:br<H.size:=hr.lt (u64s_ne h0)
 have hral:ba<H.size:=ha.lt (u64s_ne (by omega))
 have husz:=t.size_eq
 let J:Nat->Int->Nat->Nat->Int->Int->Heap->Prop:=fun N n b o n1 n2 H'=>∃(m:Nat) (u:Tree) (F:List Bk) (j:Nat),n=(j:Int)/\o=0/\n1=(m:Int)-1/\n2=((F.length:Nat):Int)/\N=bkLeft u F/\BkAt (t.link 0) m u F/\j<=t.size/\bkRem u F=(t.unroll.take j).reverse/\
  Lft H' b (F.map Bk.k).reverse/\OwnO H' br ro (u64s (bwd ((t.unroll.zip tp).drop j).reverse (regs,adj)).1)/\Own H' ba (u64s (bwd ((t.unroll.zip tp).drop j).reverse (regs,adj)).2)/\Mod [br,ba] H H'/\H.size<=b/\RowU H' a3 l3 tp
 refine v353 [.slice (some ⟨br,ro,none⟩) regs.length c1,.slice (some ⟨ba,0,none⟩) adj.length c2,.slice a3 l3 c3] _ _ _ _ fun Hp p np=>?_
 refine⟨fun n b o n1 n2 H'=>∃N,J N n b o n1 n2 H'/\rd H' p 0=some (.slice (some ⟨br,ro,none⟩) regs.length c1)/\rd H' p 1=some (.slice (some ⟨ba,0,none⟩) adj.length c2)/\rd H' p 2=some (.slice a3 l3 c3),fun n b o n1 n2 H'=>least fun N=>J N n b o n1 n2 H',fun H1 q n1=>⟨⟨by omega,by omega⟩,_,⟨l,t,[],t.size,rfl,rfl,rfl,rfl,rfl,?_,Nat.le_refl _,?_,n1.lft,?_,?_,(np.mod.new n1).ext,Nat.le_trans np.mod.1 n1.ge,Ext.row (np.mod.new n1) ht⟩,n1.mod.rd (by simp) (np.rd 0),n1.mod.rd (by simp) (np.rd 1),n1.mod.rd (by simp) (np.rd 2)⟩,?_⟩
 ·have:=BkAt.start tok tfull td;rwa [hcl] at this
 ·simp[bkRem,bkRest,husz]
 ·rw[List.drop_of_length_le (by simp[<-husz];omega)];exact hr.mod (np.mod.new n1) (by simp)
 ·rw[List.drop_of_length_le (by simp[<-husz];omega)];exact ha.mod (np.mod.new n1) (by simp)
 rintro H1 n b o n1 n2 ⟨N0,hN0,hp0,hp1,hp2⟩
 have hN:=least_spec (p:=fun N=>J N n b o n1 n2 H1) hN0
 clear hN0 N0
 obtain⟨m,u,F,j,rfl,rfl,rfl,rfl,hNe,hat,hj,hrem,hleft,hown,hadj,hmod,hne,htp⟩:=hN
 have hle:=hat.le
 have hfl:=bwd_length ((t.unroll.zip tp).drop j).reverse (regs,adj)
 have hpp:H.size<=p:=np.ge
 have hpl:p<H1.size:=rd_lt hp0
 refine⟨fun hend=>?_,fun hend=>?_⟩
 ·have hm0:m=0:=by omega
  have h1:=hat.here
  rw[hm0,List.take_zero] at h1
  have h2:=List.append_eq_nil_iff.1 h1.symm
  have hF:F=[]:=by
   cases F with
   | nil=>rfl
   | cons f F=>simp[bkCode] at h2
  have hu:u=.nil:=by
   cases u with
   | nil=>rfl
   | op _ _=>simp[Tree.link] at h2
   | rep _ _ _ _=>simp[Tree.link] at h2
  subst hF;subst hu
  simp only[bkRem,Tree.unroll,bkRest,List.reverse_nil,List.append_nil] at hrem
  have hj0:j=0:=by
   have:=congrArg List.length hrem
   simp[<-husz] at this;omega
  subst hj0
  rw[List.drop_zero] at hown hadj
  exact k _ hown hadj hmod
 have hbr:b≠br:=by omega
 have hba:b≠ba:=by omega
 have hrow:RowC H1 a l (t.link 0):=hmod.rowz hoff hc
 have hoffb:0<l3->Off [b] a3:=fun h'=>ht.fresh (by omega) h' (by simpa using hne)
 have hbl:=hleft.lt
 have fin:∀(N':Nat) (n:Int) (b' o:Nat) (n1 n2:Int) (H':Heap) (T:List Nat),J N' n b' o n1 n2 H'->Mod T H1 H'->p∉T->N'<bkLeft u F->
   (∃N,J N n b' o n1 n2 H'/\rd H' p 0=some (.slice (some ⟨br,ro,none⟩) regs.length c1)/\rd H' p 1=some (.slice (some ⟨ba,0,none⟩) adj.length c2)/\rd H' p 2=some (.slice a3 l3 c3))/\least (fun N=>J N n b' o n1 n2 H')<least (fun N=>J N (j:Int) b 0 ((m:Int)-1) ((F.length:Nat):Int) H1):=
  fun N' n b' o n1 n2 H' T hJ hM hp hlt=>⟨⟨N',hJ,hM.rd hp hp0,hM.rd hp hp1,hM.rd hp hp2⟩,Nat.lt_of_lt_of_eq (least_lt hJ hlt) hNe.symm⟩
 have hpb:p≠b:=by
  rintro rfl
  obtain⟨L,hL1,hL2,_⟩:=hleft
  have:=hL1.rd 0 (u64s_get (xs:=L) (i:=0) (by omega))
  rw[hp0] at this;cases this
 rcases u.snoc with rfl|⟨u,o,rfl⟩|⟨u,o,bd,e,rfl⟩
 ·match F with
  | []=>have:=hat.len;simp[bkCode,Tree.flat] at this;omega
  | f ::F=>
   obtain⟨m',rfl,hx,hagain,hout⟩:=hat.end_
   obtain⟨_,_,hk0,ho7,_⟩:=hat.fr
   have em:(((m'+1:Nat):Int)-1)=(m':Int):=by push_cast;omega
   rw[em] at fin ⊢
   refine RowC.load hrow hx rfl fun H2 q hO e2 hq hql=>⟨⟨by omega,by omega⟩,?_⟩
   have hleft3:=hleft.mod e2 (by simp)
   simp only[List.map_cons,List.reverse_cons] at hleft3
   have hkl:(F.map Bk.k).reverse.length=F.length:=by simp
   have hle8:=hleft3.le
   simp at hle8
   have eF:((((f ::F).length:Nat):Int)-1).toNat=F.length:=by simp
   have eF1:(((f ::F).length:Nat):Int)=(F.length:Int)+1:=by simp
   have htop:=hleft3.top
   rw[hkl] at htop
   refine⟨_,hO.rd 0 rfl,fun h'=>by omega,fun _=>⟨fun _=>⟨⟨by omega,by omega⟩,⟨by omega,by omega⟩,_,by rw[eF,Nat.zero_add,Nat.mul_one];exact htop,⟨by omega,by omega⟩,?_,?_⟩,fun h'=>(h' ho7).elim⟩⟩
   ·rw[eF,Nat.zero_add,Nat.mul_one];exact hleft3.w (by omega)
   rintro H4 hH4
   rw[eF,Nat.zero_add,Nat.mul_one] at hH4
   have hput:=hleft3.set (w:=f.k-1)
   rw[hkl] at hput
   have hH4':H4=wr H2 b F.length (.int .u64 ((f.k-1).toNat:Int)):=hH4
   rw[<-hH4'] at hput
   have m4:Mod [b] H2 H4:=by rw[hH4];exact Mod.refl.wr (.inl (by simp))
   clear hH4 hH4'
   have hO4:=hO.mod m4 (by simp;omega)
   have hown4:=(hown.mod e2 (by simp)).mod m4 (by simpa using Ne.symm hbr)
   have hadj4:=(hadj.mod e2 (by simp)).mod m4 (by simpa using Ne.symm hba)
   have m14:Mod [br,ba] H H4:=(hmod.thenExt e2).trans_new m4 (by simpa using .inr hne)
   have mp:Mod [b] H1 H4:=(Mod.ext e2).trans m4
   have ht4:RowU H4 a3 l3 tp:=mp.rowz hoffb htp
   have htop4:=hput.top
   rw[hkl] at htop4
   refine⟨⟨by omega,by omega⟩,⟨by omega,by omega⟩,_,by rw[eF,Nat.zero_add,Nat.mul_one];exact htop4,fun hpos=>?_,fun hpos=>?_⟩
   ·have hk1:1<f.k.toNat:=by
     have:=UInt64.lt_iff_toNat_lt.1 hpos
     rw[u64_pred hk0] at this;simp at this;omega
    have hle2:=(hagain hk1).le
    refine⟨_,hO4.rd 5 rfl,⟨by omega,by omega⟩,fin (bkLeft f.b ({ f with k:=f.k-1 } ::F)) (j:Int) b 0 (((m'+1+f.b.flat.length+1:Nat):Int)-2) (((f ::F).length:Nat):Int) H4 [b] ⟨m'+1+f.b.flat.length,f.b,{ f with k:=f.k-1 } ::F,j,rfl,rfl,by push_cast;omega,by simp,rfl,hagain hk1,hj,by rw[<-hrem,bkRem_again hk1],by simpa using hput,hown4,hadj4,m14,hne,ht4⟩ mp (by simpa using hpb) (bkLeft_again hk1)⟩
   ·have hk1:¬1<f.k.toNat:=by
     intro h1
     apply hpos
     rw[UInt64.lt_iff_toNat_lt,u64_pred hk0];simp;omega
    refine⟨⟨by omega,by omega⟩,fin (bkLeft f.l F) (j:Int) b 0 ((m':Int)-1) ((((f ::F).length:Nat):Int)-1) H4 [b] ⟨m',f.l,F,j,rfl,rfl,by omega,by simp,rfl,hout,hj,by rw[<-hrem,bkRem_out hk1],hput.pop,hown4,hadj4,m14,hne,ht4⟩ mp (by simpa using hpb) bkLeft_out⟩
 ·obtain⟨m',rfl,hx,hat2⟩:=hat.op
  have em:(((m'+1:Nat):Int)-1)=(m':Int):=by push_cast;omega
  rw[em] at fin ⊢
  have hok:=(Tree.ok_app_iff.1 hat.ok).2
  have hk1:=hok.1;have hk2:=hok.2.1
  rw[bkRem_op] at hrem
  obtain⟨j',rfl⟩:∃j',j=j'+1:=by
   cases j with
   | zero=>simp at hrem
   | succ j'=>exact⟨j',rfl⟩
  have hjl:j'<t.unroll.length:=by omega
  rw[List.take_succ_eq_append_getElem hjl,List.reverse_append,List.reverse_singleton,List.singleton_append] at hrem
  obtain⟨hoe,hrem2⟩:=List.cons_eq_cons.1 hrem
  have hro:RegOk regs.length o:=ho o (by rw[hoe];exact List.getElem_mem _)
  refine RowC.load hrow hx rfl fun H2 q hO e2 hq hql=>⟨⟨by omega,by omega⟩,?_⟩
  have hzip:((t.unroll.zip tp).drop j').reverse=((t.unroll.zip tp).drop (j'+1)).reverse++[(o,tp[j']'(by omega))]:=by
   rw[List.drop_eq_getElem_cons (by simp;omega),List.reverse_cons]
   simp[hoe]
  have en:((j'+1:Nat):Int)-1=(j':Int):=by push_cast;omega
  have hpc:RdL H2 p 0 [.slice (some ⟨br,ro,none⟩) regs.length c1,.slice (some ⟨ba,0,none⟩) adj.length c2,.slice a3 l3 c3]:=⟨e2.rd (by simp) hp0,e2.rd (by simp) hp1,e2.rd (by simp) hp2,trivial⟩
  refine⟨_,hO.rd 0 rfl,fun h'=>by omega,fun _=>⟨fun h'=>by omega,fun _=>⟨⟨by omega,by omega⟩,_,rfl,hpc,_,rfl,(rdL_append.1 hO.1).1,?_⟩⟩⟩
  generalize hs:bwd ((t.unroll.zip tp).drop (j'+1)).reverse (regs,adj)=s at *
  obtain⟨s1,s2⟩:=s
  simp only at hown hadj hfl
  rw[en]
  refine c370 o j' (by omega) (by omega) (hown.mod e2 (by simp)) (hadj.mod e2 (by simp)) (Ext.row e2 htp) (by omega) hbb hoff3 hsep (by omega) (by rw[hfl.1];exact hro) fun H3 hr3 ha3 ht3 m3=>?_
  refine fin (bkLeft u F) (j':Int) b 0 ((m':Int)-1) ((F.length:Nat):Int) H3 [br,ba] ⟨m',u,F,j',rfl,rfl,rfl,rfl,rfl,hat2,by omega,hrem2,(hleft.mod e2 (by simp)).mod m3 (by simp[hbr,hba]),?_,?_,hmod.trans ((Mod.ext e2).trans m3),hne,ht3⟩ ((Mod.ext e2).trans m3) (by simp;omega) bkLeft_op
  ·rw[hzip,bwd_append,hs];exact hr3
  ·rw[hzip,bwd_append,hs];exact ha3
 ·obtain⟨m',rfl,hx,⟨x,hx0⟩,hat2⟩:=hat.rep
  have em:(((m'+1:Nat):Int)-1)=(m':Int):=by push_cast;omega
  rw[em] at fin ⊢
  have hok:=(Tree.ok_app_iff.1 hat.ok).2
  have hfu:=(Tree.full_app.1 hat.full).2
  have hst:(bkCode F).length+u.flat.length<l:=by rw[<-hcl];exact (List.getElem?_eq_some_iff.1 hx0).1
  refine RowC.load hrow hx rfl fun H2 q hO e2 hq hql=>⟨⟨by omega,by omega⟩,?_⟩
  have hd:=hat.deep
  rw[Tree.depth_app] at hd
  simp only[Tree.depth] at hd
  obtain⟨bo,oo,eo,hbo,hro⟩:=RowC.rdL (hrow.mod (Mod.ext (S:=[]) e2) Off.nil) hx0
  have hleft3:=hleft.mod e2 (by simp)
  have hkl:(F.map Bk.k).reverse.length=F.length:=by simp
  have e1:((((bkCode F).length+u.flat.length+1:Nat):Int)-1)=(((bkCode F).length+u.flat.length:Nat):Int):=by push_cast;omega
  refine⟨_,hO.rd 0 rfl,fun _=>⟨_,hO.rd 5 rfl,⟨by omega,by omega⟩,bo,oo,eo,by rw[e1];exact hbo,o.v,by rw[e1];have:=hro.2.2.2.2.1;simpa [Nat.add_assoc] using this,⟨by omega,by omega⟩,?_,?_⟩,fun h'=>(h' hok.2.2.1).elim⟩
  ·rw[Nat.zero_add,Nat.mul_one,Int.toNat_natCast];exact hleft3.w (by omega)
  rintro H4 hH4
  rw[Nat.zero_add,Nat.mul_one,Int.toNat_natCast] at hH4
  have hput:=hleft3.put (v:=o.v) (by omega)
  rw[hkl,<-hH4] at hput
  have m4:Mod [b] H2 H4:=by rw[hH4];exact Mod.refl.wr (.inl (by simp))
  clear hH4
  refine⟨⟨by omega,by omega⟩,fin (bkLeft bd (⟨o.v,o,bd,e,u⟩ ::F)) (j:Int) b 0 ((m':Int)-1) (((F.length:Nat):Int)+1) H4 [b] ⟨m',bd,⟨o.v,o,bd,e,u⟩ ::F,j,rfl,rfl,rfl,by simp,rfl,hat2,hj,by rw[<-hrem,bkRem_rep hfu.1],by simpa using hput,(hown.mod e2 (by simp)).mod m4 (by simpa using Ne.symm hbr),(hadj.mod e2 (by simp)).mod m4 (by simpa using Ne.symm hba),(hmod.thenExt e2).trans_new m4 (by simpa using .inr hne),hne,((Mod.ext e2).trans m4:Mod [b] H1 H4).rowz hoffb htp⟩ ((Mod.ext e2).trans m4) (by simpa using hpb) (bkLeft_rep hfu.1)⟩
end Go.VC
namespace Go.VC
open Go Go.Proofs
structure MS1 where
 at_:Int
 pend:Int
 l:Int
 total:Int
 tags:List Int
def rightA (k n:Int):Prop:=1<=k/\k<=9/\(k=1->1<=n/\n<65536)/\(2<=k->k<=4->0<=n/\n<1048576)/\(5<=k->n=0)
instance (k n:Int):Decidable (rightA k n):=inferInstanceAs (Decidable (_/\_/\_/\_/\_))
def tagAt (s:MS1)(n:Int):Int:=s.tags.getD n.toNat (-1)
def mstepR (s:MS1)(k n:Int):Option MS1:=
 if k=1 then if s.l-s.at_<n then none else some { s with at_:=s.at_+n,total:=s.total+n }
 else if k=2 then if (s.tags.length:Int)<=n\/0<=tagAt s n then none else some { s with tags:=s.tags.set n.toNat s.at_ }
 else if k=3 then if (s.tags.length:Int)<=n\/tagAt s n<0 then none else some { s with at_:=tagAt s n }
 else if k=4 then if (s.tags.length:Int)<=n\/tagAt s n<0 then none else some { s with tags:=s.tags.set n.toNat (-1) }
 else if k=5 then if s.pend = -1/\s.at_=s.l then some { s with pend:=s.at_ } else none
 else if k=6 then if s.pend = -1/\s.at_=s.l-1 then some { s with pend:=s.at_ } else none
 else if 0<s.pend/\s.at_=s.pend-1 then some { s with pend:=s.at_ } else none
def mstep (s:MS1)(k n:Int):Option MS1:=if ¬rightA k n\/7<k then none else mstepR s k n
structure MOk (s:MS1):Prop where
 l0:0<=s.l
 l1:s.l<65536
 at0:0<=s.at_
 at1:s.at_<=s.l
 p0 : -1<=s.pend
 p1:s.pend<=s.l
 tg:∀t∈s.tags,-1<=t/\t<=s.l
 few:s.tags.length<=1048576
theorem tagAt_mem {s:MS1}{n:Int}(h0:0<=n)(h:n<s.tags.length):tagAt s n∈s.tags:=by
 unfold tagAt
 rw[List.getD_eq_getElem?_getD,List.getElem?_eq_getElem (by omega)]
 exact List.getElem_mem _
theorem mstep_ok {s s':MS1}{k n:Int}(h:MOk s)(e:mstep s k n=some s'):MOk s':=by
 obtain⟨l0,l1,at0,at1,p0,p1,tg,few⟩:=h
 unfold mstep mstepR at e
 split at e
 ·cases e
 rename_i hr
 have hr':rightA k n:=Classical.byContradiction fun h=>hr (.inl h)
 obtain⟨r1,r2,r3,r4,r5⟩:=hr'
 split at e
 ·split at e
  ·cases e
  ·cases e;exact⟨l0,l1,by dsimp only;omega,by dsimp only;omega,p0,p1,tg,few⟩
 split at e
 ·split at e
  ·cases e
  ·cases e
   refine⟨l0,l1,at0,at1,p0,p1,?_,by simpa using few⟩
   intro t ht
   rcases List.mem_or_eq_of_mem_set ht with h|rfl
   ·exact tg t h
   ·dsimp only;omega
 split at e
 ·split at e
  ·cases e
  ·cases e
   rename_i h2
   have:=tg _ (tagAt_mem (s:=s) (n:=n) (by omega) (by omega))
   exact⟨l0,l1,by dsimp only;omega,this.2,p0,p1,tg,few⟩
 split at e
 ·split at e
  ·cases e
  ·cases e
   refine⟨l0,l1,at0,at1,p0,p1,?_,by simpa using few⟩
   intro t ht
   rcases List.mem_or_eq_of_mem_set ht with h|rfl
   ·exact tg t h
   ·dsimp only;omega
 split at e
 ·split at e
  ·cases e;exact⟨l0,l1,at0,at1,by dsimp only;omega,at1,tg,few⟩
  ·cases e
 split at e
 ·split at e
  ·cases e;exact⟨l0,l1,at0,at1,by dsimp only;omega,at1,tg,few⟩
  ·cases e
 split at e
 ·cases e;exact⟨l0,l1,at0,at1,by dsimp only;omega,at1,tg,few⟩
 ·cases e
theorem mstep_l {s s':MS1}{k n:Int}(e:mstep s k n=some s'):s'.l=s.l/\s'.tags.length=s.tags.length:=by
 unfold mstep mstepR at e
 repeat' split at e
 all_goals first|cases e;done|(cases e;simp)
end Go.VC
namespace Go.VC
open Go Go.Proofs
def intOf:Option Value->Int
 | some (.int _ n)=>n
 | _=>0
@[simp] theorem intOf_some (k:IntKind)(n:Int):intOf (some (.int k n))=n:=rfl
theorem run_partI {P:Program}{t:TypeId}{k:IntKind}(h:P.underlying t=some (.int k)){cs:Array Value}{o:Nat}{v:Value}(hv:cs[o]?=some v)(w:World):(part t cs o).run P w=.ok v w:=by
 simp[part,isAgg,run_underlying h,hv]
theorem eqFields_ints {P:Program}(w:World)(d:Nat)(xs ys:Array Value):∀fs:List Field,
  (∀ f ∈ fs, f.name ≠ "_" ∧ (∃ k', P.underlying f.type = some (.int k')) ∧ ∃ k a b, xs[f.offset]? = some (.int k a) ∧ ys[f.offset]? = some (.int k b)) →
  (Op.eqFields (d+1) xs ys fs).run P w=.ok (fs.all fun f=>decide (intOf xs[f.offset]?=intOf ys[f.offset]?)) w
 | [],_=>by simp[Op.eqFields]
 | f ::fs,h=>by
  obtain⟨hn,⟨k',hk⟩,k,a,b,ha,hb⟩:=h f (by simp)
  have ih:=eqFields_ints w d xs ys fs fun g hg=>h g (by simp[hg])
  simp only[Op.eqFields]
  rw[if_pos hn]
  simp only[Sem.run_bind,run_partI hk ha,run_partI hk hb,Result.andThen_ok,run_equalIn_int w d f.type k k' a b hk,Sem.run_ite,Sem.run_pure,List.all_cons,ha,hb,intOf_some]
  by_cases e:a=b
  ·subst e;simp[ih]
  ·simp[e]
theorem isB_neq {P:Program}{t:TypeId}{xo yo:Operand}{xs ys:List Value}(tos:List (TypeId × Nat))(ht:P.underlying t=some (.struct (P.fieldsOf t)))(hp:P.stoodInHeld t=false)(hm:P.eqGuardType P.depth t=false)
  (hf : (P.fieldsOf t).toList.map (fun f => (f.type, f.offset)) = tos) (hn : (P.fieldsOf t).toList.all (fun f => f.name != "_") = true)
  (h:∀q∈tos,(∃k',P.underlying q.1=some (.int k'))/\∃k a b,xs[q.2]?=some (.int k a)/\ys[q.2]?=some (.int k b)) {c:Bool}
  (hc:c=!(tos.all fun q=>decide (intOf xs[q.2]?=intOf ys[q.2]?))):IsB P (cmpS BinOp.neq t xo yo (.agg xs.toArray) (.agg ys.toArray)) c:=by
 intro w
 have hfs:(Op.eqFields 9999 xs.toArray ys.toArray (P.fieldsOf t).toList).run P w=.ok (tos.all fun q=>decide (intOf xs[q.2]?=intOf ys[q.2]?)) w:=by
  rw[eqFields_ints w 9998 _ _ (P.fieldsOf t).toList]
  ·rw[<-hf,List.all_map];simp[Function.comp_def]
  ·intro f hfm
   have h1:=List.all_eq_true.1 hn f hfm
   have h2:=h (f.type,f.offset) (by rw[<-hf];exact List.mem_map.2 ⟨f,hfm,rfl⟩)
   exact⟨by simpa using h1,h2.1,by simpa using h2.2⟩
 simp only[cmpS,Sem.run_bind,run_eqGuard_agg w BinOp.neq t xo yo xs.toArray ys.toArray hm,Result.andThen_ok,run_neq_struct,run_equalIn_agg w 9999 t xs.toArray ys.toArray ht hp,hfs,hc]
theorem eq141 (xo yo:Operand)(a b c d:Int):IsB Tryz.prog (cmpS BinOp.neq 141 xo yo (.agg [Value.int .i64 a,.int .i64 b].toArray) (.agg [Value.int .i64 c,.int .i64 d].toArray)) (!(decide (a=c) && decide (b=d))):=by
 refine isB_neq [(3,0),(3,1)] (by kernel_rfl) (by kernel_rfl) (by kernel_rfl) (by kernel_rfl) (by kernel_rfl) ?_ ?_
 ·intro q hq
  simp only[List.mem_cons,List.not_mem_nil,or_false] at hq
  rcases hq with rfl|rfl
  ·exact⟨⟨.i64,by kernel_rfl⟩,.i64,_,_,rfl,rfl⟩
  ·exact⟨⟨.i64,by kernel_rfl⟩,.i64,_,_,rfl,rfl⟩
 ·simp[intOf]
end Go.VC
namespace Go.VC
open Go Go.Proofs
variable {H:Heap}{R:Value->Heap->Prop}
def machC (s:MS1)(a:Option Addr)(c:Nat):List Value:=[.int .i64 s.at_,.int .i64 s.pend,.int .i64 s.l,.int .i64 s.total,.slice a s.tags.length c]
structure Mach (H:Heap)(n bm:Nat)(a:Option Addr)(c:Nat)(s:MS1):Prop where
 top:Own H bm (machC s a c)
 lo:n<=bm
 tags:Buf 1 H n a s.tags.length c (i64s s.tags)
 ne:0<c->∀b,a=some ⟨b,0,none⟩->b≠bm
def MachB (bm:Nat)(a:Option Addr)(c:Nat)(b:Nat):Prop:=b=bm\/0<c/\a=some ⟨b,0,none⟩
theorem Mach.keep {S:List Nat}{H H':Heap}{n bm:Nat}{a:Option Addr}{c:Nat}{s:MS1}(h:Mach H n bm a c s)(m:Mod S H H')(hS:∀b∈S,¬MachB bm a c b):Mach H' n bm a c s:=
 ⟨h.top.mod m fun hb=>hS bm hb (.inl rfl),h.lo,h.tags.keep2 m fun hc b e hb=>hS b hb (.inr ⟨hc,e⟩),h.ne⟩
theorem Mach.ge {H:Heap}{n bm:Nat}{a:Option Addr}{c:Nat}{s:MS1}(h:Mach H n bm a c s){b:Nat}(hb:MachB bm a c b):n<=b:=by
 rcases hb with rfl|⟨hc,e⟩
 ·exact h.lo
 ·rcases h.tags.ok with h0|⟨b',e',hn,_⟩
  ·omega
  ·rw[e] at e';cases e';exact hn
theorem Mach.low {S:List Nat}{H H':Heap}{n bm:Nat}{a:Option Addr}{c:Nat}{s:MS1}(h:Mach H n bm a c s)(m:Mod S H H')(hS:∀b∈S,b<n):Mach H' n bm a c s:=
 h.keep m fun b hb hm=>by have:=h.ge hm;have:=hS b hb;omega
theorem Mach.ext {H H':Heap}{n bm:Nat}{a:Option Addr}{c:Nat}{s:MS1}(h:Mach H n bm a c s)(m:Ext H H'):Mach H' n bm a c s:=h.low m (by simp)
theorem i64s_set' (xs:List Int)(i:Nat)(x:Int):(i64s xs).set i (.int .i64 x)=i64s (xs.set i x):=by simp[i64s,List.map_set]
theorem Mach.tag {H:Heap}{n bm:Nat}{a:Option Addr}{c:Nat}{s:MS1}(h:Mach H n bm a c s){i:Int}(h0:0<=i)(h1:i<s.tags.length) :
  ∃b,a=some ⟨b,0,none⟩/\0<c/\b≠bm/\n<=b/\rd H b (0+i.toNat)=some (.int .i64 (tagAt s i))/\WOk H b (0+i.toNat) 1:=by
 have hle:=h.tags.le
 rcases h.tags.ok with h0'|⟨b,e,hn,hr,hw⟩
 ·omega
 ·refine⟨b,e,by omega,h.ne (by omega) b e,hn,?_,wok_sub hw (by omega) (by omega)⟩
  have:=rdL_get' hr (i64s_get (xs:=s.tags) (i:=i.toNat) (by omega))
  unfold tagAt
  rw[List.getD_eq_getElem?_getD,List.getElem?_eq_getElem (by omega)]
  simpa using this
def MMod (bm:Nat)(a:Option Addr)(c:Nat)(H H':Heap):Prop:=∃S,Mod S H H'/\∀b∈S,MachB bm a c b
theorem Mach.setTop {H:Heap}{n bm:Nat}{a:Option Addr}{c:Nat}{s:MS1}(h:Mach H n bm a c s)(s':MS1)(ht:s'.tags=s.tags){H':Heap}(ho:Own H' bm (machC s' a c))(m:Mod [bm] H H'):Mach H' n bm a c s':=by
 have hk:Buf 1 H' n a s.tags.length c (i64s s.tags):=h.tags.keep2 m fun hc b e hb=>by simp at hb;exact h.ne hc b e hb
 exact⟨ho,h.lo,by rw[ht];exact hk,h.ne⟩
theorem Mach.setTag {H:Heap}{n bm:Nat}{a:Option Addr}{c:Nat}{s:MS1}(h:Mach H n bm a c s){i:Int}(h0:0<=i)(h1:i<s.tags.length)(v:Int){b:Nat}(e:a=some ⟨b,0,none⟩) :
  Mach (wr H b (0+i.toNat) (.int .i64 v)) n bm a c { s with tags:=s.tags.set i.toNat v }/\MMod bm a c H (wr H b (0+i.toNat) (.int .i64 v)):=by
 obtain⟨b',e',hc,hne,hn,_,_⟩:=h.tag h0 h1
 rw[e] at e';cases e'
 have m:Mod [b] H (wr H b (0+i.toNat) (.int .i64 v)):=Mod.refl.wr (.inl (by simp))
 refine⟨⟨?_,h.lo,?_,h.ne⟩,[b],m,fun x hx=>by simp at hx;subst hx;exact .inr ⟨hc,e⟩⟩
 ·have:=h.top.mod m (by simpa using Ne.symm hne)
  simpa [machC] using this
 ·have hle:=h.tags.le
  rcases h.tags.ok with h0'|⟨b',e',hn',hr,hw⟩
  ·omega
  ·rw[e] at e';cases e'
   refine⟨by simp,by simpa using hle,.inr ⟨b,e,hn',?_,wok_wr hw⟩⟩
   have:=rdL_wr_set (k:=i.toNat) (v:=.int .i64 v) hr
   rwa [i64s_set'] at this
theorem c72 (x:Int)(k:R (.bool (decide (0<=x/\x<65536))) H):Ru 72 [.int .i64 x] H R:=by
 refine v72 _ ⟨fun h=>?_,fun h=>?_⟩
 ·have:decide (0<=x/\x<65536)=decide (x<65536):=by simp[h]
  rwa [this] at k
 ·have:decide (0<=x/\x<65536)=false:=by simp[h]
  rwa [this] at k
theorem c142 (x:Int)(k:R (.bool (decide (1<=x/\x<=4))) H):Ru 142 [.int .i64 x] H R:=by
 refine v142 _ ⟨fun h=>?_,fun h=>?_⟩
 ·have:decide (1<=x/\x<=4)=decide (x<=4):=by simp[h]
  rwa [this] at k
 ·have:decide (1<=x/\x<=4)=false:=by simp[h]
  rwa [this] at k
def actC (k n:Int):List Value:=[.int .i64 k,.int .i64 n]
theorem c80 (x n:Int)(k:∀H',Ext H H'->R (.bool (decide (rightA x n))) H'):Ru 80 [.agg (actC x n).toArray] H R:=by
 have K:∀(q:Bool) (H':Heap),(q=true<->rightA x n)->Ext H H'->R (.bool q) H':=by
  intro q H' h e
  have:=k H' e
  have hq:decide (rightA x n)=q:=by cases q<;>simp_all
  rwa [hq] at this
 refine v80 (actC x n) fun H1 p n1=>⟨fun c H'=>H'=H1/\(c=true<->x<1\/9<x),⟨_,n1.rd 0,fun h=>⟨rfl,by simp[h]⟩,fun h=>⟨_,n1.rd 0,rfl,by simp[decP,h]⟩⟩,?_⟩
 rintro H1 c ⟨rfl,hc⟩
 refine⟨fun h=>K _ _ ?_ n1.mod,fun h=>?_⟩
 ·have:=hc.1 h
  simp only[Bool.false_eq_true,rightA,false_iff];omega
 have hx:1<=x/\x<=9:=by
  have:¬(x<1\/9<x):=fun h'=>by rw[hc.2 h'] at h;cases h
  omega
 refine⟨_,n1.rd 0,fun h1=>⟨_,n1.rd 1,fun h2=>⟨_,n1.rd 1,K _ _ ?_ n1.mod⟩,fun h2=>K _ _ ?_ n1.mod⟩,fun h1=>⟨_,n1.rd 0,c142 _ ⟨_,rfl,fun h2=>⟨_,n1.rd 1,fun h3=>⟨_,n1.rd 1,K _ _ ?_ n1.mod⟩,fun h3=>K _ _ ?_ n1.mod⟩,fun h2=>⟨_,n1.rd 1,K _ _ ?_ n1.mod⟩⟩⟩⟩
 ·simp only[decide_eq_true_eq,rightA];omega
 ·simp only[Bool.false_eq_true,false_iff,rightA];omega
 ·simp only[decide_eq_true_eq] at h2;simp only[decide_eq_true_eq,rightA];omega
 ·simp only[decide_eq_true_eq] at h2;simp only[Bool.false_eq_true,false_iff,rightA];omega
 ·simp only[decide_eq_false_iff_not] at h2;simp only[decide_eq_true_eq,rightA];omega
theorem c186 {p:Nat}{l:Int}(x:Int)(hp:rd H p 0=some (.int .i64 l))(k:R (.bool (decide (x < -1\/l<x))) H):Ru 186 [.int .i64 x,.pointer (some ⟨p,0,none⟩)] H R:=by
 refine v186 _ _ _ ⟨fun h=>?_,fun h=>⟨_,hp,?_⟩⟩
 ·have:decide (x < -1\/l<x)=true:=by simp[h]
  rwa [this] at k
 ·have:decide (x < -1\/l<x)=decide (l<x):=by simp[h]
  rwa [this] at k
def spotC (at_ pend:Int)(a:Option Addr)(l c:Nat):List Value:=[.int .i64 at_,.int .i64 pend,.slice a l c]
theorem c117 (l at_ pend:Int){a:Option Addr}{n c:Nat}{tags:List Int}(h:RowI H a n tags)(ok:MOk ⟨at_,pend,l,0,tags⟩)
  (k:∀H' bm a' c',Mach H' H.size bm a' c' ⟨at_,pend,l,0,tags⟩->Ext H H'->R (.tuple #[.pointer (some ⟨bm,0,none⟩),.int .i64 0]) H'):Ru 117 [.int .i64 l,.agg (spotC at_ pend a n c).toArray] H R:=by
 obtain⟨l0,l1,at0,at1,p0,p1,tg,few⟩:=ok
 dsimp only at l0 l1 at0 at1 p0 p1 tg few
 have hn:=h.len
 refine v117 _ (spotC at_ pend a n c) fun H1 p n1 H2 q n2=>?_
 have e2:=n1.mod.new n2
 have rl:=n2.mod.rd (by simp) (n1.rd 0)
 refine⟨fun H'=>Ext H2 H',⟨_,rl,c72 _ ⟨_,rfl,fun h'=>by simp at h';omega,fun _=>⟨_,_,_,n2.rd 2,fun h'=>by omega,fun _=>⟨_,n2.rd 0,fun h'=>by omega,fun _=>⟨_,n2.rd 0,c186 _ rl ⟨_,rfl,fun h'=>by simp at h';omega,fun _=>⟨_,n2.rd 1,c186 _ rl ⟨_,rfl,fun h'=>by simp at h';omega,fun _=>⟨_,_,_,n2.rd 2,?_⟩⟩⟩⟩⟩⟩⟩⟩⟩,?_⟩
 ·refine c187 (Ext.row e2 h) (by omega) 186 _ _ (by kernel_rfl) (fun x=>decide (x < -1\/l<x)) (fun H' o K e' _ hk=>c186 _ (e'.rd (by simp) rl) (hk _ Mod.refl)) fun H' e'=>⟨_,rfl,fun h'=>?_,fun _=>e'⟩
  rw[List.any_eq_true] at h'
  obtain⟨x,hx,hx2⟩:=h'
  have:=tg x hx
  simp only[decide_eq_true_eq] at hx2
  omega
 ·intro H3 e3
  have e13:=e2.thenExt e3
  refine⟨_,e3.rd (by simp) (n2.rd 0),_,e3.rd (by simp) (n2.rd 1),_,e3.rd (by simp) rl,_,_,_,e3.rd (by simp) (n2.rd 2),?_⟩
  refine c97 (Ext.row e13 h) (by omega) fun a' c' H4 hB e4=>⟨_,_,_,rfl,e4.rd (by simp) (e3.rd (by simp) rl),e4.rd (by simp) (e3.rd (by simp) (n2.rd 1)),e4.rd (by simp) (e3.rd (by simp) (n2.rd 0)),rfl,fun H5 bm n5=>?_⟩
  have e14:=e13.thenExt e4
  refine k H5 bm a' c' ⟨?_,Nat.le_trans e14.1 n5.ge,?_,?_⟩ (e14.new n5)
  ·have:=n5.own
   simpa [machC,hn] using this
  ·have:=(hB.ext n5.mod).down e13.1
   simpa [hn] using this
  ·intro hc b e hb
   subst e;subst hb
   have:=hB.lt hc (by omega)
   have:=n5.ge;omega
theorem c119 {n bm:Nat}{a:Option Addr}{c:Nat}{s:MS1}(h:Mach H n bm a c s)(few:s.tags.length<=1048576)
  (k:∀H' a' c',Buf 1 H' H.size a' s.tags.length c' (i64s s.tags)->Ext H H'->R (.agg (spotC s.at_ s.pend a' s.tags.length c').toArray) H'):Ru 119 [.pointer (some ⟨bm,0,none⟩)] H R:=by
 refine v119 _ _ fun H1 p n1=>?_
 have h1:=h.ext n1.mod
 refine⟨_,h1.top.rd 0 rfl,_,h1.top.rd 1 rfl,_,_,_,h1.top.rd 4 rfl,c97 h1.tags.row (by omega) fun a' c' H2 hB e2=>?_⟩
 have h2:=h1.ext e2
 have o2:=n1.own.mod e2 (by simp)
 refine⟨_,_,_,rfl,h2.top.rd 1 rfl,h2.top.rd 0 rfl,rfl,?_,o2.w 0 3 rfl,?_⟩
 ·intro v hv;simp only[List.mem_cons,List.not_mem_nil,or_false] at hv;rcases hv with rfl|rfl|rfl<;>trivial
 rintro H3 hH3
 refine⟨spotC s.at_ s.pend a' s.tags.length c',rfl,by rw[hH3];exact rdL_wrL o2.2,?_⟩
 have m3:Mod [p] H2 H3:=by rw[hH3];exact Mod.refl.wrL (.inl (by simp))
 have hp:=n1.ge;have hpl:=n1.lt
 refine k H3 a' c' ((hB.mod m3 (by simpa using hpl)).down n1.mod.1) ((n1.mod.thenExt e2).trans_new m3 (by simpa using hp))
theorem MMod.top {bm:Nat}{a:Option Addr}{c:Nat}{H H':Heap}(m:Mod [bm] H H'):MMod bm a c H H':=⟨[bm],m,fun b hb=>by simp at hb;exact .inl hb⟩
theorem MMod.extl {bm:Nat}{a:Option Addr}{c:Nat}{H0 H H':Heap}(e:Ext H0 H)(m:MMod bm a c H H'):MMod bm a c H0 H':=by
 obtain⟨S,h1,h2⟩:=m
 exact⟨S,(Mod.ext e).trans h1,h2⟩
def MvEnd (bm:Nat)(a:Option Addr)(c n:Nat)(H:Heap)(R:Value->Heap->Prop)(s:MS1)(o:Option MS1):Prop:=
 (∀s' H',o=some s'->Mach H' n bm a c s'->MMod bm a c H H'->R (.int .i64 0) H')/\∀e H',o=none->e≠0->Mach H' n bm a c s->Ext H H'->R (.int .i64 e) H'
theorem c143 {n bm:Nat}{a:Option Addr}{c:Nat}{s:MS1}(h:Mach H n bm a c s)(ok:MOk s)(ht:0<=s.total/\s.total<=4611686018427387904){x:Int}(hx:1<=x/\x<65536)
  (k:MvEnd bm a c n H R s (if s.l-s.at_<x then none else some { s with at_:=s.at_+x,total:=s.total+x })):Ru 143 [.pointer (some ⟨bm,0,none⟩),.int .i64 x] H R:=by
 obtain⟨l0,l1,at0,at1,p0,p1,tg,few⟩:=ok
 refine v143 _ _ _ ⟨_,h.top.rd 2 rfl,_,h.top.rd 0 rfl,⟨by omega,by omega⟩,fun hlt=>?_,fun hge=>⟨_,h.top.rd 0 rfl,⟨by omega,by omega⟩,h.top.w 0 1 rfl,?_⟩⟩
 ·rw[if_pos hlt] at k;exact k.2 _ _ rfl (by omega) h Mod.refl
 ·rw[if_neg hge] at k
  rintro H1 h1
  have o1:=h.top.wr 0 (.int .i64 (s.at_+x))
  rw[<-h1] at o1
  refine⟨_,o1.rd 3 rfl,⟨by omega,by omega⟩,o1.w 3 1 rfl,?_⟩
  rintro H2 h2
  have o2:=o1.wr 3 (.int .i64 (s.total+x))
  rw[<-h2] at o2
  have m:Mod [bm] H H2:=by rw[h2,h1];exact (Mod.refl.wr (.inl (by simp))).wr (.inl (by simp))
  exact k.1 _ H2 rfl (h.setTop { s with at_:=s.at_+x,total:=s.total+x } rfl o2 m) (MMod.top m)
theorem c144 {n bm:Nat}{a:Option Addr}{c:Nat}{s:MS1}(h:Mach H n bm a c s){x:Int}(h0:0<=x)(h1:x<s.tags.length)
  (k:MvEnd bm a c n H R s (if 0<=tagAt s x then none else some { s with tags:=s.tags.set x.toNat s.at_ })):Ru 144 [.pointer (some ⟨bm,0,none⟩),.int .i64 x] H R:=by
 obtain⟨b,e,hc,hne,hn,hr,hw⟩:=h.tag h0 h1
 refine v144 _ _ _ ⟨_,_,_,h.top.rd 4 rfl,b,0,e,⟨h0,h1⟩,_,hr,fun hle=>?_,fun hlt=>⟨_,_,_,h.top.rd 4 rfl,_,h.top.rd 0 rfl,b,0,e,⟨h0,h1⟩,hw,?_⟩⟩
 ·rw[if_pos hle] at k;exact k.2 _ _ rfl (by omega) h Mod.refl
 ·rw[if_neg hlt] at k
  rintro H1 rfl
  obtain⟨m1,m2⟩:=h.setTag h0 h1 s.at_ e
  exact k.1 _ _ rfl m1 m2
theorem c145 {n bm:Nat}{a:Option Addr}{c:Nat}{s:MS1}(h:Mach H n bm a c s){x:Int}(h0:0<=x)(h1:x<s.tags.length)
  (k:MvEnd bm a c n H R s (if tagAt s x<0 then none else some { s with at_:=tagAt s x })):Ru 145 [.pointer (some ⟨bm,0,none⟩),.int .i64 x] H R:=by
 obtain⟨b,e,hc,hne,hn,hr,hw⟩:=h.tag h0 h1
 refine v145 _ _ _ ⟨_,_,_,h.top.rd 4 rfl,b,0,e,⟨h0,h1⟩,_,hr,fun hle=>?_,fun hlt=>⟨_,_,_,h.top.rd 4 rfl,b,0,e,⟨h0,h1⟩,_,hr,h.top.w 0 1 rfl,?_⟩⟩
 ·rw[if_pos hle] at k;exact k.2 _ _ rfl (by omega) h Mod.refl
 ·rw[if_neg hlt] at k
  rintro H1 hH
  have o1:=h.top.wr 0 (.int .i64 (tagAt s x))
  rw[<-hH] at o1
  have m:Mod [bm] H H1:=by rw[hH];exact Mod.refl.wr (.inl (by simp))
  exact k.1 _ H1 rfl (h.setTop { s with at_:=tagAt s x } rfl o1 m) (MMod.top m)
theorem c146 {n bm:Nat}{a:Option Addr}{c:Nat}{s:MS1}(h:Mach H n bm a c s){x:Int}(h0:0<=x)(h1:x<s.tags.length)
  (k:MvEnd bm a c n H R s (if tagAt s x<0 then none else some { s with tags:=s.tags.set x.toNat (-1) })):Ru 146 [.pointer (some ⟨bm,0,none⟩),.int .i64 x] H R:=by
 obtain⟨b,e,hc,hne,hn,hr,hw⟩:=h.tag h0 h1
 refine v146 _ _ _ ⟨_,_,_,h.top.rd 4 rfl,b,0,e,⟨h0,h1⟩,_,hr,fun hle=>?_,fun hlt=>⟨_,_,_,h.top.rd 4 rfl,b,0,e,⟨h0,h1⟩,hw,?_⟩⟩
 ·rw[if_pos hle] at k;exact k.2 _ _ rfl (by omega) h Mod.refl
 ·rw[if_neg hlt] at k
  rintro H1 rfl
  obtain⟨m1,m2⟩:=h.setTag h0 h1 (-1) e
  exact k.1 _ _ rfl m1 m2
theorem c210 {n bm:Nat}{a:Option Addr}{c:Nat}{s:MS1}(h:Mach H n bm a c s)(ok:MOk s){x:Int}(hx:0<=x/\x<=1)
  (k:MvEnd bm a c n H R s (if s.pend = -1/\s.at_=s.l-x then some { s with pend:=s.at_ } else none)):Ru 210 [.pointer (some ⟨bm,0,none⟩),.int .i64 x] H R:=by
 obtain⟨l0,l1,at0,at1,p0,p1,tg,few⟩:=ok
 refine v210 _ _ _ ⟨_,h.top.rd 2 rfl,⟨by omega,by omega⟩,fun H1 p n1=>⟨rfl,?_,n1.own.w 0 2 rfl,fun H2 h2=>?_⟩⟩
 ·intro v hv;simp only[List.mem_cons,List.not_mem_nil,or_false] at hv;rcases hv with rfl|rfl<;>trivial
 have op:RdL H2 p 0 [.int .i64 (s.l-x),.int .i64 (-1)]:=by rw[h2];exact rdL_wrL n1.own.2
 have e2:Ext H H2:=by rw[h2];exact n1.mod.trans_new (Mod.refl.wrL (S:=[p]) (.inl (by simp))) (by simpa using n1.ge)
 clear h2
 have hm2:=h.ext e2
 refine⟨_,hm2.top.rd 1 rfl,_,(by have:=op.2.1;simpa using this),fun hne=>?_,fun heq=>?_⟩
 ·rw[if_neg (by omega)] at k;exact k.2 _ _ rfl (by omega) hm2 e2
 have hp:s.pend = -1:=by omega
 refine⟨[.int .i64 s.at_,.int .i64 s.pend],rfl,?_,_,rfl,op,_,eq141 _ _ _ _ _ _,fun hc=>?_,fun hc=>?_⟩
 ·exact⟨hm2.top.rd 0 rfl,hm2.top.rd 1 rfl,trivial⟩
 ·rw[hp] at hc
  simp at hc
  rw[if_neg (by omega)] at k;exact k.2 _ _ rfl (by omega) hm2 e2
 ·rw[hp] at hc
  simp at hc
  rw[if_pos ⟨hp,hc⟩] at k
  refine⟨_,hm2.top.rd 0 rfl,hm2.top.w 1 1 rfl,?_⟩
  rintro H3 h3
  have o3:=hm2.top.wr 1 (.int .i64 s.at_)
  rw[<-h3] at o3
  have m:Mod [bm] H2 H3:=by rw[h3];exact Mod.refl.wr (.inl (by simp))
  exact k.1 _ H3 rfl (hm2.setTop { s with pend:=s.at_ } rfl o3 m) ((MMod.top m).extl e2)
theorem c147 {n bm:Nat}{a:Option Addr}{c:Nat}{s:MS1}(h:Mach H n bm a c s)(ok:MOk s)(x:Int)
  (k:MvEnd bm a c n H R s (if s.pend = -1/\s.at_=s.l then some { s with pend:=s.at_ } else none)):Ru 147 [.pointer (some ⟨bm,0,none⟩),.int .i64 x] H R:=
 v147 _ _ _ (c210 h ok ⟨by omega,by omega⟩ ⟨fun s' H' e m1 m2=>⟨_,rfl,k.1 s' H' (by simpa using e) m1 m2⟩,fun e H' he hn m1 m2=>⟨_,rfl,k.2 e H' (by simpa using he) hn m1 m2⟩⟩)
theorem c148 {n bm:Nat}{a:Option Addr}{c:Nat}{s:MS1}(h:Mach H n bm a c s)(ok:MOk s)(x:Int)
  (k:MvEnd bm a c n H R s (if s.pend = -1/\s.at_=s.l-1 then some { s with pend:=s.at_ } else none)):Ru 148 [.pointer (some ⟨bm,0,none⟩),.int .i64 x] H R:=
 v148 _ _ _ (c210 h ok ⟨by omega,by omega⟩ ⟨fun s' H' e m1 m2=>⟨_,rfl,k.1 s' H' e m1 m2⟩,fun e H' he hn m1 m2=>⟨_,rfl,k.2 e H' he hn m1 m2⟩⟩)
theorem c149 {n bm:Nat}{a:Option Addr}{c:Nat}{s:MS1}(h:Mach H n bm a c s)(ok:MOk s)(x:Int)
  (k:MvEnd bm a c n H R s (if 0<s.pend/\s.at_=s.pend-1 then some { s with pend:=s.at_ } else none)):Ru 149 [.pointer (some ⟨bm,0,none⟩),.int .i64 x] H R:=by
 obtain⟨l0,l1,at0,at1,p0,p1,tg,few⟩:=ok
 refine v149 _ _ _ ⟨_,h.top.rd 1 rfl,fun hle=>?_,fun hgt=>⟨_,h.top.rd 0 rfl,_,h.top.rd 1 rfl,⟨by omega,by omega⟩,fun hne=>?_,fun heq=>⟨_,h.top.rd 0 rfl,h.top.w 1 1 rfl,?_⟩⟩⟩
 ·rw[if_neg (by omega)] at k;exact k.2 _ _ rfl (by omega) h Mod.refl
 ·rw[if_neg (by omega)] at k;exact k.2 _ _ rfl (by omega) h Mod.refl
 ·rw[if_pos ⟨by omega,by omega⟩] at k
  rintro H3 h3
  have o3:=h.top.wr 1 (.int .i64 s.at_)
  rw[<-h3] at o3
  have m:Mod [bm] H H3:=by rw[h3];exact Mod.refl.wr (.inl (by simp))
  exact k.1 _ H3 rfl (h.setTop { s with pend:=s.at_ } rfl o3 m) (MMod.top m)
def mvF (f bm:Nat):Value:=.func (.func f) #[.pointer (some ⟨bm,0,none⟩)] #[]
def mvsC (bm:Nat):List Value:=[Value.nilFunc,mvF 143 bm,mvF 144 bm,mvF 145 bm,mvF 146 bm,mvF 147 bm,mvF 148 bm,mvF 149 bm]
theorem c81 (bm:Nat)(k:∀H',Ext H H'->R (.agg (mvsC bm).toArray) H'):Ru 81 [.pointer (some ⟨bm,0,none⟩)] H R:=by
 refine v81 _ _ fun H1 p n1=>⟨trivial,rfl,?_,n1.own.w 0 8 rfl,fun H2 h2=>⟨mvsC bm,rfl,by rw[h2];exact rdL_wrL n1.own.2,k H2 ?_⟩⟩
 ·intro v hv;simp only[List.mem_cons,List.not_mem_nil,or_false] at hv;rcases hv with rfl|rfl|rfl|rfl|rfl|rfl|rfl|rfl<;>trivial
 ·rw[h2];exact n1.mod.trans_new (Mod.refl.wrL (S:=[p]) (.inl (by simp))) (by simpa using n1.ge)
theorem c34 {n bm:Nat}{a:Option Addr}{c:Nat}{s:MS1}(h:Mach H n bm a c s)(ok:MOk s)(ht:0<=s.total/\s.total<=4611686018427387904)(kd x:Int)
  (k:MvEnd bm a c n H R s (mstep s kd x)):Ru 34 [.pointer (some ⟨bm,0,none⟩),.agg (actC kd x).toArray] H R:=by
 refine v34 _ _ (actC kd x) fun H1 p n1=>⟨fun b H'=>Ext H1 H'/\(b=true<->¬rightA kd x\/7<kd),⟨actC kd x,rfl,n1.rdL,c80 kd x fun H2 e2=>⟨_,rfl,fun h'=>⟨e2,?_⟩,fun h'=>⟨_,e2.rd (by simp) (n1.rd 0),e2,?_⟩⟩⟩,?_⟩
 ·simp at h';simp[h']
 ·simp at h';simp[h',decP]
 rintro H2 b ⟨e2,hb⟩
 have e02:=n1.mod.thenExt e2
 have h2:=h.ext e02
 have r0:rd H2 p 0=some (.int .i64 kd):=e2.rd (by simp) (n1.rd 0)
 have r1:rd H2 p 1=some (.int .i64 x):=e2.rd (by simp) (n1.rd 1)
 refine⟨fun hbt=>?_,fun hbf=>?_⟩
 ·have:mstep s kd x=none:=by unfold mstep;rw[if_pos (hb.1 hbt)]
  exact k.2 _ _ this (by omega) h2 e02
 have hr:rightA kd x/\kd<=7:=by
  have:¬(¬rightA kd x\/7<kd):=fun h'=>by rw[hb.2 h'] at hbf;cases hbf
  refine⟨Classical.byContradiction fun h'=>this (.inl h'),by omega⟩
 obtain⟨hR,hk7⟩:=hr
 have hms:mstep s kd x=mstepR s kd x:=by unfold mstep;rw[if_neg (by rintro (h'|h');exact h' hR;omega)]
 obtain⟨r1',r2',r3',r4',r5'⟩:=hR
 have k':MvEnd bm a c n H2 R s (mstep s kd x):=⟨fun s' H' e m1 m2=>k.1 s' H' e m1 (m2.extl e02),fun e H' he hn m1 m2=>k.2 e H' he hn m1 (e02.thenExt m2)⟩
 have ex:∀{o:Option MS1} {H3:Heap},Ext H2 H3->mstep s kd x=o->MvEnd bm a c n H3 (fun r H'=>∃n,r=.int .i64 n/\R (.int .i64 n) H') s o:=by
  intro o H3 e3 ho
  rw[ho] at k'
  exact⟨fun s' H' e m1 m2=>⟨_,rfl,k'.1 s' H' e m1 (m2.extl e3)⟩,fun e H' he hn m1 m2=>⟨_,rfl,k'.2 e H' he hn m1 (e3.thenExt m2)⟩⟩
 have mv:(2<=kd->kd<=4->x<s.tags.length)->∃n,rd H2 p 0=some (.int .i64 n)/\∃n_1,rd H2 p 1=some (.int .i64 n_1)/\Ru 81 [.pointer (some ⟨bm,0,none⟩)] H2 fun r H'=>∃cs:List Value,List.length cs=8/\r=.agg (List.toArray cs)/\rd H' p 1=some (.int .i64 n_1)/\rd H' p 0=some (.int .i64 n)/\((0:Int)<=n/\n<(8:Int))/\∃v,cs[Int.toNat n*1]?=some v/\∃g u v_1,v=.func (.func g) u v_1/\callable Tryz.prog g=true/\Ru g (Array.toList u++[.int .i64 n_1]++Array.toList v_1) H' fun r H'=>∃n,r=.int .i64 n/\R (.int .i64 n) H':=by
  intro hlen
  refine⟨_,r0,_,r1,c81 bm fun H3 e3=>⟨mvsC bm,rfl,rfl,e3.rd (by simp) r1,e3.rd (by simp) r0,⟨by omega,by omega⟩,?_⟩⟩
  have h3:=h2.ext e3
  have hc:kd=1\/kd=2\/kd=3\/kd=4\/kd=5\/kd=6\/kd=7:=by omega
  rcases hc with rfl|rfl|rfl|rfl|rfl|rfl|rfl
  ·refine⟨_,rfl,143,_,_,rfl,by kernel_rfl,c143 h3 ok ht (r3' rfl) (ex e3 (hms.trans ?_))⟩
   simp[mstepR]
  ·have:=r4' (by omega) (by omega)
   refine⟨_,rfl,144,_,_,rfl,by kernel_rfl,c144 h3 this.1 (hlen (by omega) (by omega)) (ex e3 (hms.trans ?_))⟩
   have:=hlen (by omega) (by omega)
   simp[mstepR];split<;>(try split)<;>first|rfl|omega
  ·have:=r4' (by omega) (by omega)
   refine⟨_,rfl,145,_,_,rfl,by kernel_rfl,c145 h3 this.1 (hlen (by omega) (by omega)) (ex e3 (hms.trans ?_))⟩
   have:=hlen (by omega) (by omega)
   simp[mstepR];split<;>(try split)<;>first|rfl|omega
  ·have:=r4' (by omega) (by omega)
   refine⟨_,rfl,146,_,_,rfl,by kernel_rfl,c146 h3 this.1 (hlen (by omega) (by omega)) (ex e3 (hms.trans ?_))⟩
   have:=hlen (by omega) (by omega)
   simp[mstepR];split<;>(try split)<;>first|rfl|omega
  ·exact⟨_,rfl,147,_,_,rfl,by kernel_rfl,c147 h3 ok x (ex e3 (hms.trans (by simp[mstepR])))⟩
  ·exact⟨_,rfl,148,_,_,rfl,by kernel_rfl,c148 h3 ok x (ex e3 (hms.trans (by simp[mstepR])))⟩
  ·exact⟨_,rfl,149,_,_,rfl,by kernel_rfl,c149 h3 ok x (ex e3 (hms.trans (by simp[mstepR])))⟩
 refine⟨_,r0,fun hge2=>⟨_,r0,fun hle4=>⟨_,r1,_,_,_,h2.top.rd 4 rfl,fun hbig=>?_,fun hsm=>mv fun _ _=>by omega⟩,fun hgt4=>mv fun _ h'=>(hgt4 h').elim⟩,fun hlt2=>mv fun h' _=>(hlt2 h').elim⟩
 have:mstep s kd x=none:=by
  rw[hms];unfold mstepR;rw[if_neg (by omega)]
  by_cases e2:kd=2
  ·rw[if_pos e2,if_pos (.inl hbig)]
  ·rw[if_neg e2]
   by_cases e3:kd=3
   ·rw[if_pos e3,if_pos (.inl hbig)]
   ·rw[if_neg e3,if_pos (by omega),if_pos (.inl hbig)]
 exact k.2 _ _ this (by omega) h2 e02
end Go.VC
namespace Go.VC
open Go Go.Proofs
noncomputable def unr (p:Prog):List Op:=@dite _ (∃t,GoodP p t) (Classical.propDecidable _) (fun h=>(Classical.choose h).unroll) fun _=>[]
theorem unr_eq {p:Prog}{t:Tree}(g:GoodP p t):unr p=t.unroll:=by
 have h:∃t,GoodP p t:=⟨t,g⟩
 unfold unr
 rw[dif_pos h]
 have g':=Classical.choose_spec h
 rw[flat_inj g'.ok g.ok (g'.flat.trans g.flat.symm)]
theorem mem_unroll:∀{t:Tree} {o:Op},t.Ok->o∈t.unroll->o∈t.flat/\1<=o.kind/\o.kind<=6
 | .nil,o,_,h=>by simp[Tree.unroll] at h
 | .op x r,o,ok,h=>by
  simp only[Tree.unroll,List.mem_cons] at h
  rcases h with rfl|h
  ·exact⟨by simp[Tree.flat],ok.1,ok.2.1⟩
  ·have:=mem_unroll ok.2.2 h;exact⟨by simp[Tree.flat,this.1],this.2⟩
 | .rep x b e r,o,ok,h=>by
  simp only[Tree.unroll,List.mem_append,List.mem_flatten,List.mem_replicate] at h
  rcases h with ⟨l,⟨_,rfl⟩,h⟩|h
  ·have:=mem_unroll ok.2.1 h;exact⟨by simp[Tree.flat,this.1],this.2⟩
  ·have:=mem_unroll ok.2.2.2 h;exact⟨by simp[Tree.flat,this.1],this.2⟩
theorem good_reg {p:Prog}{t:Tree}(g:GoodP p t){o:Op}(h:o∈t.unroll):RegOk p.regs.toNat o:=by
 obtain⟨hm,k1,k6⟩:=mem_unroll g.ok h
 rw[g.flat] at hm
 have hr:=g.form.2.2 o hm
 have hu:=g.regs.2.2 o hm
 have h1:=g.regs.1
 unfold rightB at hr
 simp only[Bool.and_eq_true,decide_eq_true_eq] at hr
 obtain⟨_,hd,ha,hb,_⟩:=hr
 have hD:askD o.kind=true:=by simp[askD];omega
 unfold regOk at hd ha hb
 unfold usesOp at hu
 rw[hD] at hu hd
 simp only[if_true,decide_eq_true_eq] at hu hd
 have hdl:=hu o.d (by simp)
 have hal:0<=o.a/\o.a<p.regs:=by
  by_cases hA:askA o.kind=true
  ·rw[hA] at ha
   simp only[if_true,decide_eq_true_eq] at ha
   refine⟨ha.1,hu o.a ?_⟩
   unfold readsOp
   by_cases hB:askB o.kind=true<;>simp[hB,hA]
  ·simp only[hA] at ha;simp at ha;omega
 have hbl:0<=o.b/\o.b<p.regs:=by
  by_cases hB:askB o.kind=true
  ·rw[hB] at hb
   simp only[if_true,decide_eq_true_eq] at hb
   refine⟨hb.1,hu o.b ?_⟩
   unfold readsOp
   simp[hB]
  ·simp only[hB] at hb;simp at hb;omega
 exact⟨hd.1,by omega,hal.1,by omega,hbl.1,by omega⟩
theorem unr_reg {p:Prog}(g:∃t,GoodP p t){o:Op}(h:o∈unr p):RegOk p.regs.toNat o:=by
 obtain⟨t,g⟩:=g
 rw[unr_eq g] at h
 exact good_reg g h
theorem unr_kind {p:Prog}(g:∃t,GoodP p t){o:Op}(h:o∈unr p):1<=o.kind/\o.kind<=6:=by
 obtain⟨t,g⟩:=g
 rw[unr_eq g] at h
 exact (mem_unroll g.ok h).2
def zeros (n:Nat):List UInt64:=List.replicate n 0
@[simp] theorem zeros_length (n:Nat):(zeros n).length=n:=by simp[zeros]
def padTo (n:Nat)(l:List UInt64):List UInt64:=l++zeros (n-l.length)
theorem padTo_length {n:Nat}{l:List UInt64}(h:l.length<=n):(padTo n l).length=n:=by simp[padTo];omega
def nX (h:Hdr):Nat:=h.x.length
def nT (h:Hdr):Nat:=h.th.length
def nS (h:Hdr):Nat:=h.step.regs.toNat
def nL (h:Hdr):Nat:=h.loss.regs.toNat
def stepIn (h:Hdr)(t:Nat)(x:List UInt64):List UInt64:=padTo (nS h) (x++h.th++[UInt64.ofNat t])
noncomputable def stepOut (h:Hdr)(t:Nat)(x:List UInt64):List UInt64:=fwd (unr h.step) (stepIn h t x)
noncomputable def stepTape (h:Hdr)(t:Nat)(x:List UInt64):List UInt64:=taped (unr h.step) (stepIn h t x)
noncomputable def st (h:Hdr):Nat->List UInt64
 | 0=>h.x
 | t+1=>(stepOut h t (st h t)).take (nX h)
def lossIn (h:Hdr)(x:List UInt64):List UInt64:=padTo (nL h) (x++h.th)
noncomputable def lossOut (h:Hdr)(x:List UInt64):List UInt64:=fwd (unr h.loss) (lossIn h x)
noncomputable def lossTape (h:Hdr)(x:List UInt64):List UInt64:=taped (unr h.loss) (lossIn h x)
noncomputable def pullLoss (h:Hdr)(x:List UInt64):List UInt64:=(bwd ((unr h.loss).zip (lossTape h x)).reverse (lossOut h x,padTo (nL h) [1])).2
noncomputable def pullStep (h:Hdr)(t:Nat)(x a:List UInt64):List UInt64:=(bwd ((unr h.step).zip (stepTape h t x)).reverse (stepOut h t x,padTo (nS h) a)).2
def addL (a b:List UInt64):List UInt64:=List.zipWith (·+·) a b
def headA (h:Hdr)(a:List UInt64):List UInt64:=a.take (nX h)
def restA (h:Hdr)(a:List UInt64):List UInt64:=(a.drop (nX h)).take (nT h)
noncomputable def grad (h:Hdr)(l:Nat):Nat->List UInt64 × List UInt64
 | 0=>(headA h (pullLoss h (st h l)),addL (zeros (nT h)) (restA h (pullLoss h (st h l))))
 | k+1=>(headA h (pullStep h (l-(k+1)) (st h (l-(k+1))) (grad h l k).1),addL (grad h l k).2 (restA h (pullStep h (l-(k+1)) (st h (l-(k+1))) (grad h l k).1)))
noncomputable def lossOf (h:Hdr)(l:Nat):UInt64:=rg (lossOut h (st h l)) 0
theorem stepIn_length {h:Hdr}(d:dimsOk h){t:Nat}{x:List UInt64}(hx:x.length=nX h):(stepIn h t x).length=nS h:=by
 obtain⟨d1,d2,d3,d4,d5⟩:=d
 apply padTo_length
 simp[hx,nX,nS];omega
theorem lossIn_length {h:Hdr}(d:dimsOk h){x:List UInt64}(hx:x.length=nX h):(lossIn h x).length=nL h:=by
 obtain⟨d1,d2,d3,d4,d5⟩:=d
 apply padTo_length
 simp[hx,nX,nL];omega
theorem stepOut_length {h:Hdr}(d:dimsOk h){t:Nat}{x:List UInt64}(hx:x.length=nX h):(stepOut h t x).length=nS h:=by
 rw[stepOut,fwd_length,stepIn_length d hx]
theorem st_length {h:Hdr}(d:dimsOk h):∀t,(st h t).length=nX h
 | 0=>rfl
 | t+1=>by
  rw[st,List.length_take,stepOut_length d (st_length d t)]
  obtain⟨d1,d2,d3,d4,d5⟩:=d
  simp only[nX,nS];omega
theorem pullLoss_length {h:Hdr}(d:dimsOk h)(x:List UInt64):(pullLoss h x).length=nL h:=by
 rw[pullLoss,(bwd_length _ _).2]
 obtain⟨d1,d2,d3,d4,d5⟩:=d
 apply padTo_length;simp[nL];omega
theorem pullStep_length {h:Hdr}(d:dimsOk h){t:Nat}{x a:List UInt64}(ha:a.length=nX h):(pullStep h t x a).length=nS h:=by
 rw[pullStep,(bwd_length _ _).2]
 obtain⟨d1,d2,d3,d4,d5⟩:=d
 apply padTo_length;simp[nS,ha,nX];omega
theorem grad_length {h:Hdr}(d:dimsOk h)(l:Nat):∀k,(grad h l k).1.length=nX h/\(grad h l k).2.length=nT h
 | 0=>by
  have h1:=pullLoss_length d (st h l)
  obtain⟨d1,d2,d3,d4,d5⟩:=d
  simp only[grad,headA,restA,addL,List.length_take,List.length_zipWith,List.length_drop,zeros_length,h1]
  simp only[nX,nT,nL];omega
 | k+1=>by
  have ih:=grad_length d l k
  have h1:=pullStep_length d (t:=l-(k+1)) (x:=st h (l-(k+1))) ih.1
  obtain⟨d1,d2,d3,d4,d5⟩:=d
  simp only[grad,headA,restA,addL,List.length_take,List.length_zipWith,List.length_drop,h1,ih.2]
  simp only[nX,nT,nS];omega
noncomputable def tanStep (h:Hdr)(t:Nat)(x dx dth:List UInt64):List UInt64:=(dfwd (unr h.step) (stepIn h t x) (padTo (nS h) (dx++dth++[0]))).take (nX h)
noncomputable def tanLoss (h:Hdr)(x dx dth:List UInt64):UInt64:=rg (dfwd (unr h.loss) (lossIn h x) (padTo (nL h) (dx++dth))) 0
noncomputable def tan (h:Hdr)(l:Nat)(dth:List UInt64):Nat->List UInt64->UInt64
 | 0,dx=>tanLoss h (st h l) dx dth
 | k+1,dx=>tan h l dth k (tanStep h (l-(k+1)) (st h (l-(k+1))) dx dth)
theorem dot_take_drop (a b c:List UInt64)(n:Nat)(h:b.length=n):dot a (b++c)=dot (a.take n) b+dot (a.drop n) c:=by
 by_cases hn:n<=a.length
 ·conv=>lhs;rw[<-List.take_append_drop n a]
  rw[dot_append _ _ _ _ (by simp;omega)]
 ·rw[List.drop_of_length_le (by omega),List.take_of_length_le (by omega),dot_nil_left,UInt64.add_zero]
  induction a generalizing b n with
  | nil=>simp
  | cons x a ih=>
   cases b with
   | nil=>simp at h;omega
   | cons y b=>
    simp only[List.cons_append,dot]
    rw[ih b b.length rfl (by simp at h hn;omega)]
theorem dot_take_left:∀(a b:List UInt64) (n:Nat),b.length<=n->dot (a.take n) b=dot a b
 | [],b,n,h=>by simp
 | x ::a,[],n,h=>by simp
 | x ::a,y ::b,0,h=>by simp at h
 | x ::a,y ::b,n+1,h=>by simp[dot,dot_take_left a b n (by simpa using h)]
theorem dot_addL:∀(a b c:List UInt64),a.length=b.length->dot (addL a b) c=dot a c+dot b c
 | [],[],c,_=>by simp[addL]
 | [],y ::b,c,h=>by simp at h
 | x ::a,[],c,h=>by simp at h
 | x ::a,y ::b,[],h=>by simp
 | x ::a,y ::b,z ::c,h=>by
  have:=dot_addL a b c (by simpa using h)
  simp only[addL,List.zipWith_cons_cons,dot] at this ⊢
  rw[this];grind
theorem dot_pad_right (a b:List UInt64)(n:Nat):dot a (padTo n b)=dot a b:=by
 unfold padTo
 rw[dot_take_drop _ _ _ _ rfl,zeros,dot_zero_right,UInt64.add_zero,dot_take_left _ _ _ (Nat.le_refl _)]
theorem dot_comm:∀a b:List UInt64,dot a b=dot b a
 | [],b=>by simp
 | x ::a,[]=>by simp
 | x ::a,y ::b=>by simp[dot,dot_comm a b,UInt64.mul_comm]
theorem dot_pad_left (a b:List UInt64)(n:Nat):dot (padTo n a) b=dot a b:=by rw[dot_comm,dot_pad_right,dot_comm]
theorem dot_split {h:Hdr}{a dx dth e:List UInt64}(hx:dx.length=nX h)(ht:dth.length=nT h)(hz:e=[]\/e=[0])(n:Nat):dot a (padTo n (dx++dth++e))=dot (headA h a) dx+dot (restA h a) dth:=by
 rw[dot_pad_right,List.append_assoc,dot_take_drop _ _ _ _ hx,dot_take_drop _ _ _ _ ht]
 have:dot ((a.drop (nX h)).drop (nT h)) e=0:=by
  rcases hz with rfl|rfl
  ·simp
  ·generalize (a.drop (nX h)).drop (nT h)=m
   cases m<;>simp[dot]
 rw[this]
 simp only[headA,restA];grind
theorem grad_dual {h:Hdr}(d:dimsOk h)(gs:∃t,GoodP h.step t)(gl:∃t,GoodP h.loss t)(l:Nat){dth:List UInt64}(ht:dth.length=nT h):∀k,∀dx:List UInt64,dx.length=nX h->
  dot (grad h l k).1 dx+dot (grad h l k).2 dth=tan h l dth k dx
 | 0,dx,hx=>by
  have hd:=d
  obtain⟨d1,d2,d3,d4,d5⟩:=d
  have hpl:=pullLoss_length hd (st h l)
  simp only[grad,tan]
  have hrl:(restA h (pullLoss h (st h l))).length=nT h:=by simp only[restA,List.length_take,List.length_drop,hpl,nX,nT,nL];omega
  rw[dot_addL _ _ _ (by simp[hrl]),zeros,dot_zero_left,UInt64.zero_add]
  have h1:=dot_split (a:=pullLoss h (st h l)) hx ht (e:=[]) (.inl rfl) (nL h)
  rw[List.append_nil] at h1
  rw[<-h1,tanLoss]
  have hreg:∀o∈unr h.loss,RegOk (lossIn h (st h l)).length o:=fun o ho=>by rw[lossIn_length hd (st_length hd l)];exact unr_reg gl ho
  have h2:=(bwd_dual (us:=unr h.loss) (r:=lossIn h (st h l)) (d:=padTo (nL h) (dx++dth)) (adj:=padTo (nL h) [1]) hreg
   (by rw[lossIn_length hd (st_length hd l),padTo_length];simp[hx,ht,nX,nT,nL];omega) (by rw[lossIn_length hd (st_length hd l),padTo_length];simp[nL];omega)).2
  rw[pullLoss,lossTape,lossOut,h2,dot_pad_left]
  generalize dfwd (unr h.loss) (lossIn h (st h l)) (padTo (nL h) (dx++dth))=v
  cases v with
  | nil=>simp[dot,rg]
  | cons a v=>simp[dot,rg]
 | k+1,dx,hx=>by
  have hd:=d
  obtain⟨d1,d2,d3,d4,d5⟩:=d
  have hgl:=grad_length hd l k
  simp only[grad,tan]
  generalize hT:l-(k+1)=t at *
  have hpl:=pullStep_length hd (t:=t) (x:=st h t) hgl.1
  have hrl:(restA h (pullStep h t (st h t) (grad h l k).1)).length=nT h:=by simp only[restA,List.length_take,List.length_drop,hpl,nX,nT,nS];omega
  rw[dot_addL _ _ _ (by rw[hgl.2,hrl])]
  have h1:=dot_split (a:=pullStep h t (st h t) (grad h l k).1) hx ht (e:=[0]) (.inr rfl) (nS h)
  have hreg:∀o∈unr h.step,RegOk (stepIn h t (st h t)).length o:=fun o ho=>by rw[stepIn_length hd (st_length hd t)];exact unr_reg gs ho
  have h2:=(bwd_dual (us:=unr h.step) (r:=stepIn h t (st h t)) (d:=padTo (nS h) (dx++dth++[0])) (adj:=padTo (nS h) (grad h l k).1) hreg
   (by rw[stepIn_length hd (st_length hd t),padTo_length];simp[hx,ht,nX,nT,nS];omega) (by rw[stepIn_length hd (st_length hd t),padTo_length];simp[nS,hgl.1,nX];omega)).2
  have h3:dot (pullStep h t (st h t) (grad h l k).1) (padTo (nS h) (dx++dth++[0]))=dot (grad h l k).1 (tanStep h t (st h t) dx dth):=by
   rw[pullStep,stepTape,stepOut,h2,dot_pad_left,tanStep]
   rw[dot_comm,dot_comm _ (List.take _ _),dot_take_left _ _ _ (by omega)]
  have htl:(tanStep h t (st h t) dx dth).length=nX h:=by
   rw[tanStep,List.length_take,dfwd_length,padTo_length (by simp[hx,ht,nX,nT,nS];omega)]
   simp only[nX,nS];omega
  have ih:=grad_dual hd gs gl l ht k (tanStep h t (st h t) dx dth) htl
  rw[<-ih,<-h3,h1]
  grind
def unit (n i:Nat):List UInt64:=(zeros n).set i 1
theorem dot_unit:∀(a:List UInt64) (n i:Nat),i<n->dot a (unit n i)=a.getD i 0
 | [],n,i,_=>by simp
 | x ::a,0,i,h=>by omega
 | x ::a,n+1,0,_=>by
  simp only[unit,zeros,List.replicate_succ,List.set_cons_zero,dot]
  rw[dot_zero_right];simp
 | x ::a,n+1,i+1,h=>by
  have:=dot_unit a n i (by omega)
  simp only[unit,zeros,List.replicate_succ,List.set_cons_succ,dot] at this ⊢
  rw[this];simp
end Go.VC
namespace Go.VC
open Go Go.Proofs
namespace Tree
def unrollT:Tree->Nat->List (Nat × Op)
 | nil,_=>[]
 | op o r,i=>(i,o) ::unrollT r (i+1)
 | rep o b _ r,i=>(List.replicate o.v.toNat (unrollT b (i+1))).flatten++unrollT r (i+2+b.flat.length)
theorem unrollT_snd:∀(t:Tree) (i:Nat),(unrollT t i).map Prod.snd=t.unroll
 | nil,_=>rfl
 | op o r,i=>by simp[unrollT,unroll,unrollT_snd r]
 | rep o b e r,i=>by simp[unrollT,unroll,unrollT_snd b,unrollT_snd r,List.map_flatten,List.map_replicate]
theorem unrollT_lt:∀(t:Tree) (i:Nat) (q:Nat × Op),q∈unrollT t i->i<=q.1/\q.1<i+t.flat.length/\t.flat[q.1-i]?=some q.2
 | nil,_,_,h=>by simp[unrollT] at h
 | op o r,i,q,h=>by
  simp only[unrollT,List.mem_cons] at h
  rcases h with rfl|h
  ·simp[flat]
  ·obtain⟨h1,h2,h3⟩:=unrollT_lt r (i+1) q h
   refine⟨by omega,by simp[flat];omega,?_⟩
   rw[show q.1-i=(q.1-(i+1))+1 from by omega];exact h3
 | rep o b e r,i,q,h=>by
  simp only[unrollT,List.mem_append,List.mem_flatten] at h
  rcases h with ⟨l,hl,h⟩|h
  ·rw[List.mem_replicate] at hl
   rw[hl.2] at h
   obtain⟨h1,h2,h3⟩:=unrollT_lt b (i+1) q h
   refine⟨by omega,by simp[flat];omega,?_⟩
   rw[show q.1-i=(q.1-(i+1))+1 from by omega]
   simp only[flat,List.cons_append,List.getElem?_cons_succ]
   rw[List.getElem?_append_left (by omega)];exact h3
  ·obtain⟨h1,h2,h3⟩:=unrollT_lt r (i+2+b.flat.length) q h
   refine⟨by omega,by simp[flat];omega,?_⟩
   rw[show q.1-i=b.flat.length+(q.1-(i+2+b.flat.length)+1)+1 from by omega]
   simp only[flat,List.cons_append,List.getElem?_cons_succ]
   rw[List.getElem?_append_right (by omega),Nat.add_sub_cancel_left]
   exact h3
def keepT (S:Nat->Bool):Tree->Nat->Tree
 | nil,_=>nil
 | op o r,i=>if S i then op o (keepT S r (i+1)) else keepT S r (i+1)
 | rep o b e r,i=>rep o (keepT S b (i+1)) e (keepT S r (i+2+b.flat.length))
theorem keepT_unroll (S:Nat->Bool):∀(t:Tree) (i:Nat),(keepT S t i).unroll=((unrollT t i).filter fun q=>S q.1).map Prod.snd
 | nil,_=>rfl
 | op o r,i=>by
  simp only[keepT,unrollT]
  split
  ·rename_i h;simp[unroll,h,keepT_unroll S r]
  ·rename_i h;simp[h,keepT_unroll S r]
 | rep o b e r,i=>by
  simp only[keepT,unrollT,unroll,keepT_unroll S b,keepT_unroll S r,List.filter_append,List.map_append]
  congr 1
  simp[List.filter_flatten,List.map_flatten,List.map_replicate]
def brk (o:Op):Bool:=decide (o.kind=7) || decide (o.kind=0)
def sieve (f:Nat->Op->Bool):List Op->Nat->List Op
 | [],_=>[]
 | o ::l,i=>if f i o then o ::sieve f l (i+1) else sieve f l (i+1)
theorem sieve_append (f:Nat->Op->Bool):∀(l m:List Op) (i:Nat),sieve f (l++m) i=sieve f l i++sieve f m (i+l.length)
 | [],m,i=>by simp[sieve]
 | o ::l,m,i=>by
  simp only[List.cons_append,sieve,sieve_append f l m (i+1),List.length_cons]
  rw[show i+1+l.length=i+(l.length+1) from by omega]
  split<;>simp
theorem sieve_mem {f:Nat->Op->Bool}:∀{l:List Op} {i:Nat} {o:Op},o∈sieve f l i->o∈l
 | [],_,_,h=>by simp[sieve] at h
 | x ::l,i,o,h=>by
  simp only[sieve] at h
  split at h
  ·rcases List.mem_cons.1 h with rfl|h
   ·simp
   ·exact List.mem_cons_of_mem _ (sieve_mem h)
  ·exact List.mem_cons_of_mem _ (sieve_mem h)
theorem sieve_len (f:Nat->Op->Bool):∀(l:List Op) (i:Nat),(sieve f l i).length<=l.length
 | [],_=>by simp[sieve]
 | x ::l,i=>by
  have:=sieve_len f l (i+1)
  simp only[sieve]
  split<;>simp<;>omega
theorem keepT_flat (S:Nat->Bool):∀{t:Tree},t.Ok->∀i,(keepT S t i).flat=sieve (fun j o=>S j || brk o) t.flat i
 | nil,_,_=>rfl
 | op o r,h,i=>by
  have hb:brk o=false:=by have:=h.1;have:=h.2.1;simp[brk];omega
  simp only[keepT,flat,sieve,hb,Bool.or_false]
  split
  ·simp[flat,keepT_flat S h.2.2]
  ·exact keepT_flat S h.2.2 _
 | rep o b e r,h,i=>by
  have h1:brk o=true:=by simp[brk,h.1]
  have h2:brk e=true:=by simp[brk,h.2.2.1]
  simp only[keepT,flat,List.cons_append,sieve,h1,Bool.or_true,if_true]
  rw[sieve_append,keepT_flat S h.2.1]
  simp only[sieve,h2,Bool.or_true,if_true]
  rw[keepT_flat S h.2.2.2,show i+1+b.flat.length+1=i+2+b.flat.length from by omega]
theorem keepT_ok (S:Nat->Bool):∀{t:Tree},t.Ok->∀i,(keepT S t i).Ok
 | nil,_,_=>trivial
 | op o r,h,i=>by
  simp only[keepT]
  split
  ·exact⟨h.1,h.2.1,keepT_ok S h.2.2 _⟩
  ·exact keepT_ok S h.2.2 _
 | rep o b e r,h,i=>⟨h.1,keepT_ok S h.2.1 _,h.2.2.1,keepT_ok S h.2.2.2 _⟩
theorem keepT_depth (S:Nat->Bool):∀(t:Tree) (i:Nat),(keepT S t i).depth<=t.depth
 | nil,_=>Nat.le_refl _
 | op o r,i=>by
  simp only[keepT]
  split
  ·exact keepT_depth S r _
  ·exact keepT_depth S r _
 | rep o b e r,i=>by
  have h1:=keepT_depth S b (i+1)
  have h2:=keepT_depth S r (i+2+b.flat.length)
  simp only[keepT,depth];omega
theorem keepT_size (S:Nat->Bool):∀(t:Tree) (i:Nat),(keepT S t i).size<=t.size
 | nil,_=>Nat.le_refl _
 | op o r,i=>by
  have:=keepT_size S r (i+1)
  simp only[keepT]
  split<;>simp only[size]<;>omega
 | rep o b e r,i=>by
  have h1:=keepT_size S b (i+1)
  have h2:=keepT_size S r (i+2+b.flat.length)
  have:=Nat.mul_le_mul_left o.v.toNat h1
  simp only[keepT,size];omega
theorem keepT_sizeOk (S:Nat->Bool):∀{t:Tree},t.SizeOk->∀i,(keepT S t i).SizeOk
 | nil,_,_=>trivial
 | op o r,h,i=>by
  simp only[keepT]
  split
  ·exact keepT_sizeOk S (t:=r) h _
  ·exact keepT_sizeOk S (t:=r) h _
 | rep o b e r,h,i=>by
  refine⟨keepT_sizeOk S h.1 _,?_,keepT_sizeOk S h.2.2 _⟩
  have hs:=keepT_size S b (i+1)
  rcases h.2.1 with h0|⟨h1,h2⟩
  ·left;omega
  ·rcases Nat.eq_zero_or_pos (keepT S b (i+1)).size with h0|h0
   ·exact .inl h0
   ·exact .inr ⟨by omega,Nat.le_trans h2 (Nat.div_le_div_left hs h0)⟩
def openT:Tree->Tree
 | nil=>nil
 | op o r=>op o (openT r)
 | rep o b e r=>if o.v.toNat*b.size=0 then openT r else if o.v=1 then app (openT b) (openT r) else rep o (openT b) e (openT r)
theorem openT_unroll:∀t:Tree,(openT t).unroll=t.unroll
 | nil=>rfl
 | op o r=>by simp[openT,unroll,openT_unroll r]
 | rep o b e r=>by
  simp only[openT]
  split
  ·rename_i h
   rw[openT_unroll r,unroll,unroll_zero h,List.nil_append]
  ·split
   ·rename_i _ h
    rw[unroll_app,openT_unroll b,openT_unroll r,unroll,h]
    simp
   ·rw[unroll,unroll,openT_unroll b,openT_unroll r]
theorem openT_ok:∀{t:Tree},t.Ok->(openT t).Ok
 | nil,_=>trivial
 | op o r,h=>⟨h.1,h.2.1,openT_ok h.2.2⟩
 | rep o b e r,h=>by
  simp only[openT]
  split
  ·exact openT_ok h.2.2.2
  ·split
   ·exact ok_app (openT_ok h.2.1) (openT_ok h.2.2.2)
   ·exact⟨h.1,openT_ok h.2.1,h.2.2.1,openT_ok h.2.2.2⟩
theorem openT_depth:∀t:Tree,(openT t).depth<=t.depth
 | nil=>Nat.le_refl _
 | op o r=>openT_depth r
 | rep o b e r=>by
  have h1:=openT_depth b
  have h2:=openT_depth r
  simp only[openT]
  split
  ·simp only[depth];omega
  ·split
   ·rw[depth_app];simp only[depth];omega
   ·simp only[depth];omega
theorem openT_size (t:Tree):(openT t).size=t.size:=by rw[size_eq,size_eq,openT_unroll]
theorem sizeOk_app:∀{t u:Tree},t.SizeOk->u.SizeOk->(app t u).SizeOk
 | nil,_,_,h=>h
 | op _ r,_,h,k=>sizeOk_app (t:=r) h k
 | rep _ _ _ _,_,h,k=>⟨h.1,h.2.1,sizeOk_app h.2.2 k⟩
theorem openT_sizeOk:∀{t:Tree},t.SizeOk->(openT t).SizeOk
 | nil,_=>trivial
 | op o r,h=>openT_sizeOk (t:=r) h
 | rep o b e r,h=>by
  simp only[openT]
  split
  ·exact openT_sizeOk h.2.2
  ·split
   ·exact sizeOk_app (openT_sizeOk h.1) (openT_sizeOk h.2.2)
   ·refine⟨openT_sizeOk h.1,?_,openT_sizeOk h.2.2⟩
    rw[openT_size];exact h.2.1
end Tree
theorem reads_tell {o:Op}(hk:1<=o.kind/\o.kind<=6){r r' d d':List UInt64}(h:∀x∈readsOp o,rg r x=rg r' x/\rg d x=rg d' x) :
  applyOp o (rg r o.a) (rg r o.b)=applyOp o (rg r' o.a) (rg r' o.b)/\
  (partialsOp o (rg r o.a) (rg r o.b)).1*rg d o.a+(partialsOp o (rg r o.a) (rg r o.b)).2*rg d o.b=(partialsOp o (rg r' o.a) (rg r' o.b)).1*rg d' o.a+(partialsOp o (rg r' o.a) (rg r' o.b)).2*rg d' o.b:=by
 unfold readsOp at h
 have hc:o.kind=1\/o.kind=2\/o.kind=3\/o.kind=4\/o.kind=5\/o.kind=6:=by omega
 rcases hc with e|e|e|e|e|e
 ·rw[if_pos (by simp[askB,e])] at h
  obtain⟨a1,a2⟩:=h o.a (by simp);obtain⟨b1,b2⟩:=h o.b (by simp)
  simp[applyOp,partialsOp,e,a1,a2,b1,b2]
 ·rw[if_pos (by simp[askB,e])] at h
  obtain⟨a1,a2⟩:=h o.a (by simp);obtain⟨b1,b2⟩:=h o.b (by simp)
  simp[applyOp,partialsOp,e,a1,a2,b1,b2]
 ·rw[if_pos (by simp[askB,e])] at h
  obtain⟨a1,a2⟩:=h o.a (by simp);obtain⟨b1,b2⟩:=h o.b (by simp)
  simp[applyOp,partialsOp,e,a1,a2,b1,b2]
 ·rw[if_neg (by simp[askB,e]),if_pos (by simp[askA,e])] at h
  obtain⟨a1,a2⟩:=h o.a (by simp)
  simp[applyOp,partialsOp,e,a1,a2]
 ·simp[applyOp,partialsOp,e]
 ·rw[if_neg (by simp[askB,e]),if_pos (by simp[askA,e])] at h
  obtain⟨a1,a2⟩:=h o.a (by simp)
  simp[applyOp,partialsOp,e,a1,a2]
def markL (w:List Bool)(l:List Int):List Bool:=l.foldl (fun w k=>w.set k.toNat true) w
def lk (q:Nat × Op)(s:List Bool × List Bool):List Bool × List Bool:=
 if s.1.getD q.2.d.toNat false then (markL (s.1.set q.2.d.toNat false) (readsOp q.2),s.2.set q.1 true) else s
def lookL (W:List (Nat × Op))(s:List Bool × List Bool):List Bool × List Bool:=W.foldr lk s
theorem markL_len (l:List Int):∀w:List Bool,(markL w l).length=w.length:=by
 induction l with
 | nil=>intro w;rfl
 | cons x l ih=>intro w;show (markL (w.set x.toNat true) l).length=_;rw[ih];simp
theorem markL_get (l:List Int):∀(w:List Bool) (k:Nat),(markL w l).getD k false=true<->w.getD k false=true\/(k<w.length/\∃x∈l,x.toNat=k):=by
 induction l with
 | nil=>intro w k;simp[markL]
 | cons x l ih=>
  intro w k
  show (markL (w.set x.toNat true) l).getD k false=true<->_
  rw[ih,List.length_set]
  simp only[List.getD_eq_getElem?_getD,List.getElem?_set,List.mem_cons,exists_eq_or_imp]
  by_cases e:x.toNat=k
  ·subst e
   by_cases hl:x.toNat<w.length
   ·simp[hl]
   ·simp[hl]
  ·simp only[e,if_false,false_or]
theorem lookL_len (W:List (Nat × Op))(s:List Bool × List Bool):(lookL W s).1.length=s.1.length/\(lookL W s).2.length=s.2.length:=by
 induction W with
 | nil=>exact⟨rfl,rfl⟩
 | cons q W ih=>
  show (lk q (lookL W s)).1.length=_/\(lk q (lookL W s)).2.length=_
  unfold lk
  split
  ·simp[markL_len,ih]
  ·exact ih
theorem lookL_grow (q:Nat × Op)(s:List Bool × List Bool)(i:Nat)(h:s.2.getD i false=true):(lk q s).2.getD i false=true:=by
 unfold lk
 split
 ·simp only[List.getD_eq_getElem?_getD,List.getElem?_set] at h ⊢
  split
  ·rename_i e
   subst e
   split
   ·rfl
   ·rename_i hl;rw[List.getElem?_eq_none (by omega)] at h;simp at h
  ·exact h
 ·exact h
def AgreeW (w:List Bool)(r r' d d':List UInt64):Prop:=∀k,w.getD k false=true->r.getD k 0=r'.getD k 0/\d.getD k 0=d'.getD k 0
theorem set_getD {α:Type}(l:List α)(i k:Nat)(x z:α):(l.set i x).getD k z=if i=k/\i<l.length then x else l.getD k z:=by
 simp only[List.getD_eq_getElem?_getD,List.getElem?_set]
 by_cases e:i=k
 ·subst e
  by_cases hl:i<l.length
  ·simp[hl]
  ·simp[hl]
 ·simp[e]
theorem live_agree {n m:Nat}(S:Nat->Bool):∀(W:List (Nat × Op)) (w0 nd0:List Bool),w0.length=n->nd0.length=m->(∀q∈W,RegOk n q.2/\(1<=q.2.kind/\q.2.kind<=6)/\q.1<m)->(∀i,(lookL W (w0,nd0)).2.getD i false=true->S i=true)->
  ∀(r r' d d':List UInt64),r.length=n->r'.length=n->d.length=n->d'.length=n->AgreeW (lookL W (w0,nd0)).1 r r' d d'->
  AgreeW w0 (fwd (W.map Prod.snd) r) (fwd ((W.filter fun q=>S q.1).map Prod.snd) r') (dfwd (W.map Prod.snd) r d) (dfwd ((W.filter fun q=>S q.1).map Prod.snd) r' d')
 | [],_,_,_,_,_,_,_,_,_,_,_,_,_,_,h=>h
 | q ::W,w0,nd0,hn,hm,hq,hS,r,r',d,d',h1,h2,h3,h4,h=>by
  have hlen:=lookL_len W (w0,nd0)
  dsimp only at hlen
  obtain⟨⟨a0,a1,b0,b1,c0,c1⟩,hk,hqm⟩:=hq q (by simp)
  have hS':∀i,(lookL W (w0,nd0)).2.getD i false=true->S i=true:=fun i hi=>hS i (lookL_grow q _ i hi)
  have ih:=live_agree S W w0 nd0 hn hm (fun x hx=>hq x (by simp[hx])) hS'
  have hcons:lookL (q ::W) (w0,nd0)=lk q (lookL W (w0,nd0)):=rfl
  rw[hcons] at h hS
  generalize hs:lookL W (w0,nd0)=s at *
  simp only[List.map_cons,fwd,dfwd]
  unfold lk at h hS
  by_cases hd:s.1.getD q.2.d.toNat false=true
  ·rw[if_pos hd] at h hS
   have hSq:S q.1=true:=hS q.1 (by dsimp only;rw[set_getD,if_pos ⟨rfl,by omega⟩])
   rw[List.filter_cons_of_pos (by simpa using hSq)]
   simp only[List.map_cons,fwd,dfwd]
   have hr:∀x∈readsOp q.2,rg r x=rg r' x/\rg d x=rg d' x:=by
    intro x hx
    have hxr:0<=x/\x<n:=by
     unfold readsOp at hx
     split at hx
     ·simp at hx;rcases hx with rfl|rfl<;>omega
     ·split at hx
      ·simp at hx;subst hx;omega
      ·simp at hx
    exact h x.toNat ((markL_get _ _ _).2 (.inr ⟨by simp;omega,x,hx,rfl⟩))
   obtain⟨t1,t2⟩:=reads_tell hk hr
   refine ih _ _ _ _ (by simp[wStep,h1]) (by simp[wStep,h2]) (by simp[dStep,h3]) (by simp[dStep,h4]) fun k hk'=>?_
   unfold wStep dStep
   rw[set_getD,set_getD,set_getD,set_getD,t1,t2]
   by_cases e:q.2.d.toNat=k
   ·rw[if_pos ⟨e,by omega⟩,if_pos ⟨e,by omega⟩,if_pos ⟨e,by omega⟩,if_pos ⟨e,by omega⟩];exact⟨rfl,rfl⟩
   ·rw[if_neg (fun h=>e h.1),if_neg (fun h=>e h.1),if_neg (fun h=>e h.1),if_neg (fun h=>e h.1)]
    exact h k ((markL_get _ _ _).2 (.inl (by rw[set_getD,if_neg (fun h=>e h.1)];exact hk')))
  ·rw[if_neg hd] at h
   have hstep:AgreeW s.1 (wStep q.2 r) r' (dStep q.2 r d) d':=fun k hk'=>by
    have e:¬q.2.d.toNat=k:=fun e=>hd (by rw[e];exact hk')
    unfold wStep dStep
    rw[set_getD,set_getD,if_neg (fun h=>e h.1),if_neg (fun h=>e h.1)]
    exact h k hk'
   by_cases hSq:S q.1=true
   ·rw[List.filter_cons_of_pos (by simpa using hSq)]
    simp only[List.map_cons,fwd,dfwd]
    refine ih _ _ _ _ (by simp[wStep,h1]) (by simp[wStep,h2]) (by simp[dStep,h3]) (by simp[dStep,h4]) fun k hk'=>?_
    have e:¬q.2.d.toNat=k:=fun e=>hd (by rw[e];exact hk')
    have:=hstep k hk'
    rw[this.1,this.2]
    unfold wStep dStep
    rw[set_getD,set_getD,if_neg (fun h=>e h.1),if_neg (fun h=>e h.1)]
    exact⟨rfl,rfl⟩
   ·rw[List.filter_cons_of_neg (by simpa using hSq)]
    exact ih _ _ _ _ (by simp[wStep,h1]) h2 (by simp[dStep,h3]) h4 hstep
end Go.VC
namespace Go.VC
open Go Go.Proofs
namespace Tree
def visit:Tree->List Op
 | nil=>[]
 | op o r=>o ::visit r
 | rep o b e r=>o :: ((List.replicate o.v.toNat (visit b++[e])).flatten++visit r)
theorem visit_unroll:∀{t:Tree},t.Ok->(visit t).filter (fun o=>!brk o)=t.unroll
 | nil,_=>rfl
 | op o r,h=>by
  have hb:brk o=false:=by have:=h.1;have:=h.2.1;simp[brk];omega
  simp[visit,unroll,hb,visit_unroll h.2.2]
 | rep o b e r,h=>by
  have h1:brk o=true:=by simp[brk,h.1]
  have h2:brk e=true:=by simp[brk,h.2.2.1]
  simp[visit,unroll,h1,h2,visit_unroll h.2.1,visit_unroll h.2.2.2,List.filter_flatten,List.map_replicate]
end Tree
def fwVis:List Fw->List Op
 | []=>[]
 | f ::F=>f.e :: ((List.replicate (f.k.toNat-1) (f.b.visit++[f.e])).flatten++(f.r.visit++fwVis F))
def fwSeen (t:Tree)(F:List Fw):List Op:=t.visit++fwVis F
theorem fwSeen_op (o:Op)(r:Tree)(F:List Fw):fwSeen (.op o r) F=o ::fwSeen r F:=rfl
theorem fwSeen_rep {o e:Op}{b r:Tree}{F:List Fw}(h:0<o.v.toNat):fwSeen (.rep o b e r) F=o ::fwSeen b (⟨o.v,o,b,e,r⟩ ::F):=by
 simp[fwSeen,Tree.visit,fwVis,rep_pos h]
theorem fwSeen_again {f:Fw}{F:List Fw}(h:1<f.k.toNat):fwSeen .nil (f ::F)=f.e ::fwSeen f.b ({ f with k:=f.k-1 } ::F):=by
 simp only[fwSeen,Tree.visit,fwVis,List.nil_append]
 rw[rep_pos (by omega),u64_pred (by omega)]
 simp
theorem fwSeen_out {f:Fw}{F:List Fw}(h:¬1<f.k.toNat):fwSeen .nil (f ::F)=f.e ::fwSeen f.r F:=by
 simp only[fwSeen,Tree.visit,fwVis,List.nil_append]
 rw[show f.k.toNat-1=0 from by omega];simp
theorem fwSeen_end:fwSeen .nil []=[]:=rfl
end Go.VC
namespace Go.VC
open Go Go.Proofs
theorem FwAt.last {code:List (Op × Nat)}{at_:Nat}{t:Tree}{F:List Fw}(h:FwAt code at_ t F)(hge:code.length<=at_):t=.nil/\F=[]:=by
 have h1:=h.here
 rw[List.drop_of_length_le (by omega)] at h1
 have h2:=List.append_eq_nil_iff.1 h1.symm
 constructor
 ·cases t with
  | nil=>rfl
  | op _ _=>simp[Tree.link] at h2
  | rep _ _ _ _=>simp[Tree.link] at h2
 ·cases F with
  | nil=>rfl
  | cons f F=>simp[fwCode] at h2
inductive Nxt (code:List (Op × Nat))(at_:Nat)(F:List Fw)(m:Nat)(o:Op)(n:Nat)(rest:List Op):Prop
 | into (t:Tree) (F':List Fw) (k:o.kind=7) (h:FwAt code (at_+1) t F') (hr:rest=fwSeen t F') (hm:fwLeft t F'<m) (hk:F'.map Fw.k=o.v ::F.map Fw.k)
 | again (f:Fw) (G:List Fw) (t:Tree) (F':List Fw) (k:o.kind=0) (hF:F=f ::G) (h1:1<f.k.toNat) (h:FwAt code n t F') (hr:rest=fwSeen t F') (hm:fwLeft t F'<m) (hk:F'.map Fw.k=(f.k-1) ::G.map Fw.k)
 | out (f:Fw) (G:List Fw) (t:Tree) (k:o.kind=0) (hF:F=f ::G) (h0:0<f.k.toNat) (h1:¬1<f.k.toNat) (h:FwAt code (at_+1) t G) (hr:rest=fwSeen t G) (hm:fwLeft t G<m)
 | on (t:Tree) (k7:o.kind≠7) (k0:o.kind≠0) (h:FwAt code (at_+1) t F) (hr:rest=fwSeen t F) (hm:fwLeft t F<m)
theorem FwAt.next {code:List (Op × Nat)}{at_:Nat}{t:Tree}{F:List Fw}(h:FwAt code at_ t F)(hlt:at_<code.length) :
  ∃o n rest,code[at_]?=some (o,n)/\fwSeen t F=o ::rest/\Nxt code at_ F (fwLeft t F) o n rest:=by
 match t,F,h with
 | .nil,[],h=>have:=h.done;omega
 | .op o r,F,h=>
  obtain⟨hx,h2⟩:=h.op
  have hk:=h.ok
  refine⟨o,0,_,hx,fwSeen_op o r F,.on r ?_ ?_ h2 rfl ?_⟩
  ·have:=hk.2.1;omega
  ·have:=hk.1;omega
  ·simp only[fwLeft,Tree.steps];omega
 | .rep o b e r,F,h=>
  obtain⟨hx,h2⟩:=h.rep
  have hf:=h.full.1
  exact⟨o,_,_,hx,fwSeen_rep hf,.into _ _ h.ok.1 h2 rfl (fwLeft_rep hf) rfl⟩
 | .nil,f ::F,h=>
  obtain⟨hx,ha,ho⟩:=h.end_
  have hfr:=h.fr
  obtain⟨_,_,f3,_,f5,_⟩:=hfr
  by_cases h1:1<f.k.toNat
  ·exact⟨_,_,_,hx,fwSeen_again h1,.again f F _ _ f5 rfl h1 (ha h1) rfl (fwLeft_again h1) rfl⟩
  ·exact⟨_,_,_,hx,fwSeen_out h1,.out f F _ f5 rfl f3 h1 ho rfl fwLeft_out⟩
end Go.VC
namespace Go.VC
open Go Go.Proofs
def strideFrom (k s:Nat):Nat->Nat->Nat
 | 0,d=>d
 | f+1,d=>if k<s*d then d else strideFrom k s f (d*2)
def strideD (k s:Nat):Nat:=strideFrom k s 64 1
def bestN (tags:List Int)(is:Int->Bool)(ah:Int->Int->Bool):Nat->Int
 | 0=>-1
 | i+1=>if is (tags.getD i (-1)) && (decide (bestN tags is ah i<0) || ah (tags.getD i (-1)) (tags.getD (bestN tags is ah i).toNat (-1))) then (i:Int) else bestN tags is ah i
def bestF (tags:List Int)(is:Int->Bool)(ah:Int->Int->Bool):Int:=bestN tags is ah tags.length
theorem bestN_range (tags:List Int)(is:Int->Bool)(ah:Int->Int->Bool):∀i,-1<=bestN tags is ah i/\bestN tags is ah i<i
 | 0=>by simp[bestN]
 | i+1=>by
  have:=bestN_range tags is ah i
  unfold bestN
  split<;>omega
theorem bestN_none (tags:List Int)(is:Int->Bool)(ah:Int->Int->Bool):∀i,bestN tags is ah i<0->∀j,j<i->is (tags.getD j (-1))=false
 | 0,_,j,hj=>by omega
 | i+1,h,j,hj=>by
  unfold bestN at h
  split at h
  ·omega
  ·rename_i hn
   by_cases e:j=i
   ·subst e
    simp only[Bool.and_eq_true,Bool.or_eq_true,decide_eq_true_eq,not_and,not_or] at hn
    cases hb:is (tags.getD j (-1)) with
    | false=>rfl
    | true=>exact absurd h (hn hb).1
   ·exact bestN_none tags is ah i h j (by omega)
theorem bestN_is (tags:List Int)(is:Int->Bool)(ah:Int->Int->Bool):∀i,0<=bestN tags is ah i->is (tags.getD (bestN tags is ah i).toNat (-1))=true
 | 0,h=>by simp[bestN] at h
 | i+1,h=>by
  unfold bestN at h ⊢
  split
  ·rename_i hn;simp only[Bool.and_eq_true] at hn;simpa using hn.1
  ·rename_i hn;rw[if_neg hn] at h;exact bestN_is tags is ah i h
theorem bestN_best (tags:List Int)(is:Int->Bool)(ah:Int->Int->Bool)(hirr:∀a,ah a a=false)(htr:∀a b c,ah a b=true->ah b c=true->ah a c=true)(htot:∀a b,ah a b=true\/a=b\/ah b a=true) :
  ∀i,∀j,j<i->is (tags.getD j (-1))=true->ah (tags.getD j (-1)) (tags.getD (bestN tags is ah i).toNat (-1))=false
 | 0,j,hj,_=>by omega
 | i+1,j,hj,hi=>by
  by_cases hc:(is (tags.getD i (-1)) && (decide (bestN tags is ah i<0) || ah (tags.getD i (-1)) (tags.getD (bestN tags is ah i).toNat (-1))))=true
  ·unfold bestN
   rw[if_pos hc,Int.toNat_natCast]
   simp only[Bool.and_eq_true,Bool.or_eq_true,decide_eq_true_eq] at hc
   by_cases e:j=i
   ·subst e;exact hirr _
   ·rcases hc.2 with h0|h1
    ·have:=bestN_none tags is ah i h0 j (by omega)
     rw[hi] at this;cases this
    ·have ih:=bestN_best tags is ah hirr htr htot i j (by omega) hi
     cases hx:ah (tags.getD j (-1)) (tags.getD i (-1)) with
     | false=>rfl
     | true=>rw[htr _ _ _ hx h1] at ih;cases ih
  ·unfold bestN
   rw[if_neg hc]
   by_cases e:j=i
   ·subst e
    simp only[Bool.and_eq_true,Bool.or_eq_true,decide_eq_true_eq,not_and,not_or] at hc
    have:=(hc hi).2
    simpa using this
   ·exact bestN_best tags is ah hirr htr htot i j (by omega) hi
def strideNext (k:Int)(ended:Bool)(at_ pend:Int)(tags:List Int):Option (Int × Int):=
 if pend<0 then
  let d:Int:=strideD k.toNat tags.length
  if at_<k then some (1,k-at_)
  else
   let off:=bestF tags (fun t=>decide (0<=t) && decide (¬t % d=0)) (fun a b=>decide (a<b))
   if 0<=off then some (4,off)
   else
    let held:=bestF tags (fun t=>decide (t=k)) (fun a b=>decide (a<b))
    let vac:=bestF tags (fun t=>decide (t<0)) (fun a b=>decide (a<b))
    if k % d=0/\held<0/\0<=vac then some (2,vac)
    else if ended then some (5,0) else none
 else
  let base:=bestF tags (fun t=>decide (0<=t)) (fun a b=>decide (b<a))
  let bt:=tags.getD base.toNat (-1)
  if 0<=base/\pend<=bt then some (4,base)
  else if pend=0 then none
  else if at_=pend-1 then some (7,0)
  else if 0<=base/\(at_<bt\/pend<=at_) then some (3,base)
  else if at_<pend then some (1,pend-1-at_)
  else none
theorem strideFrom_spec (k s:Nat)(hs:1<=s)(hk:k<65536):∀f i,i<=16->17<=f+i->∃j,i<=j/\j<=16/\strideFrom k s f (2 ^ i)=2 ^ j/\k<s*2 ^ j/\(j=i\/s*2 ^ (j-1)<=k)
 | 0,i,h1,h2=>by omega
 | f+1,i,h1,h2=>by
  unfold strideFrom
  split
  ·rename_i h;exact⟨i,Nat.le_refl _,h1,rfl,h,.inl rfl⟩
  ·rename_i h
   have hi:i<16:=by
    rcases Nat.lt_or_ge i 16 with h'|h'
    ·exact h'
    ·have e:i=16:=by omega
     subst e
     have:2 ^ 16<=s*2 ^ 16:=Nat.le_mul_of_pos_left _ hs
     omega
   rw[<-Nat.pow_succ]
   obtain⟨j,a,b,c,d,e⟩:=strideFrom_spec k s hs hk f (i+1) hi (by omega)
   refine⟨j,by omega,b,c,d,.inr ?_⟩
   rcases e with e|e
   ·rw[e,Nat.add_sub_cancel];omega
   ·exact e
theorem strideD_spec {k s:Nat}(hs:1<=s)(hk:k<65536):∃j,j<=16/\strideD k s=2 ^ j/\k<s*2 ^ j/\(j=0\/s*2 ^ (j-1)<=k):=by
 obtain⟨j,_,b,c,d,e⟩:=strideFrom_spec k s hs hk 64 0 (by omega) (by omega)
 exact⟨j,b,c,d,e⟩
theorem strideD_pos {k s:Nat}(hs:1<=s)(hk:k<65536):0<strideD k s:=by
 obtain⟨j,_,e,_⟩:=strideD_spec hs hk
 rw[e];exact Nat.pow_pos (by omega)
theorem strideD_dvd {k k' s:Nat}(hs:1<=s)(hk:k'<65536)(h:k<=k'):strideD k s ∣ strideD k' s:=by
 obtain⟨j,a,b,c,d⟩:=strideD_spec hs (show k<65536 by omega)
 obtain⟨j',a',b',c',d'⟩:=strideD_spec hs hk
 rw[b,b']
 apply Nat.pow_dvd_pow
 rcases d with d|d
 ·omega
 ·apply Classical.byContradiction
  intro hn
  have h1:2 ^ j'<=2 ^ (j-1):=Nat.pow_le_pow_right (by omega) (by omega)
  have:=Nat.mul_le_mul_left s h1
  omega
end Go.VC
namespace Go.VC
open Go Go.Proofs
variable {H:Heap}{R:Value->Heap->Prop}
theorem c15 (k s:Nat)(hk:k<65536)(hs:1<=s)(hs2:s<=1048576)(K:R (.tuple #[.int .i64 (strideD k s:Int),.int .i64 0]) H):Ru 15 [.int .i64 (k:Int),.int .i64 (s:Int)] H R:=by
 refine v15 _ _ ⟨fun H'=>H'=H,⟨by omega,fun _=>⟨by omega,fun _=>⟨by omega,fun _=>⟨by omega,fun _=>rfl⟩⟩⟩⟩,?_⟩
 rintro H rfl
 let J:Nat->Int->Heap->Prop:=fun f n H'=>H'=H/\∃i,n=((2 ^ i:Nat):Int)/\i<=16/\17<=f+i/\strideFrom k s f (2 ^ i)=strideD k s
 refine⟨fun n H'=>∃f,J f n H',fun n H'=>least fun f=>J f n H',⟨64,rfl,0,rfl,by omega,by omega,rfl⟩,?_⟩
 rintro H1 n ⟨f0,hf0⟩
 have hf:=least_spec (p:=fun f=>J f n H1) hf0
 clear hf0 f0
 generalize hfe:(least fun f=>J f n H1)=f at hf
 obtain⟨rfl,i,rfl,hi,hfi,he⟩:=hf
 have hp:2 ^ i<=2 ^ 16:=Nat.pow_le_pow_right (by omega) hi
 have hm:s*2 ^ i<=1048576*2 ^ 16:=Nat.mul_le_mul hs2 hp
 obtain⟨f',rfl⟩:∃f',f=f'+1:=⟨f-1,by omega⟩
 rw[<-Int.natCast_mul]
 have h64:I64 (((2 ^ i:Nat):Int)*2):=by
  have hp':2 ^ i<=65536:=hp
  generalize 2 ^ i=q at hp' ⊢
  exact⟨by omega,by omega⟩
 refine⟨⟨by omega,by omega⟩,fun hlt=>?_,fun hge=>⟨h64,?_⟩⟩
 ·unfold strideFrom at he
  rw[if_pos (by omega)] at he
  rw[he];exact K
 ·unfold strideFrom at he
  rw[if_neg (by omega),<-Nat.pow_succ] at he
  have hi16:i<16:=by
   rcases Nat.lt_or_ge i 16 with h'|h'
   ·exact h'
   ·have e:i=16:=by omega
    subst e
    have:2 ^ 16<=s*2 ^ 16:=Nat.le_mul_of_pos_left _ hs
    omega
  have hJ:J f' (((2 ^ i:Nat):Int)*2) H1:=⟨rfl,i+1,by rw[Nat.pow_succ];push_cast;rfl,by omega,by omega,he⟩
  exact⟨⟨_,hJ⟩,Nat.lt_of_lt_of_eq (least_lt hJ (by omega)) hfe.symm⟩
theorem c305 {a:Option Addr}{l c:Nat}{tags:List Int}(h:RowI H a l tags)(hl:l<=1048576)(g1 g2:FuncId)(u1 w1 u2 w2:Array Value)(hg1:callable Tryz.prog g1=true)(hg2:callable Tryz.prog g2=true)
  (is:Int->Bool) (ah:Int->Int->Bool) (h1:∀x R,x∈tags->R (.bool (is x)) H->Ru g1 (u1.toList++[.int .i64 x]++w1.toList) H R) (h2:∀x y R,R (.bool (ah x y)) H->Ru g2 (u2.toList++[.int .i64 x,.int .i64 y]++w2.toList) H R)
  (K:R (.int .i64 (bestF tags is ah)) H):Ru 305 [.slice a l c,.func (.func g1) u1 w1,.func (.func g2) u2 w2] H R:=by
 have hlen:=h.len
 refine v305 _ _ _ _ _ ⟨fun n i H'=>∃j:Nat,i=j/\j<=l/\n=bestN tags is ah j/\H'=H,fun _ i _=>(l-i).toNat,⟨0,rfl,by omega,rfl,rfl⟩,?_⟩
 rintro _ _ _ ⟨j,rfl,hj,rfl,rfl⟩
 have hb:=bestN_range tags is ah j
 refine⟨fun hlt=>?_,fun hge=>?_⟩
 ·have hjl:j<l:=by omega
  refine RowI.idx h (by omega) hlt ?_
  simp only[Int.toNat_natCast]
  have hgd:tags[j]'(by omega)=tags.getD j (-1):=by rw[List.getD_eq_getElem?_getD,List.getElem?_eq_getElem (by omega)];rfl
  have hmem:tags[j]'(by omega)∈tags:=List.getElem_mem _
  rw[hgd] at hmem ⊢
  have hstep:bestN tags is ah (j+1)=if is (tags.getD j (-1)) && (decide (bestN tags is ah j<0) || ah (tags.getD j (-1)) (tags.getD (bestN tags is ah j).toNat (-1))) then (j:Int) else bestN tags is ah j:=rfl
  refine⟨g1,u1,w1,rfl,hg1,h1 _ _ hmem ⟨_,rfl,fun hc=>⟨fun h0=>⟨⟨by omega,by omega⟩,⟨j+1,by push_cast;rfl,by omega,?_,rfl⟩,by (try dsimp only);omega⟩,fun h0=>?_⟩,fun hc=>⟨⟨by omega,by omega⟩,⟨j+1,by push_cast;rfl,by omega,?_,rfl⟩,by (try dsimp only);omega⟩⟩⟩
  ·rw[hstep,hc];simp[h0]
  ·refine RowI.idx h (by omega) (by omega) ?_
   have hgd2:tags[(bestN tags is ah j).toNat]'(by omega)=tags.getD (bestN tags is ah j).toNat (-1):=by rw[List.getD_eq_getElem?_getD,List.getElem?_eq_getElem (by omega)];rfl
   rw[hgd2]
   refine⟨g2,u2,w2,rfl,hg2,h2 _ _ _ ⟨_,rfl,fun hc2=>⟨⟨by omega,by omega⟩,⟨j+1,by push_cast;rfl,by omega,?_,rfl⟩,by (try dsimp only);omega⟩,fun hc2=>⟨⟨by omega,by omega⟩,⟨j+1,by push_cast;rfl,by omega,?_,rfl⟩,by (try dsimp only);omega⟩⟩⟩
   ·rw[hstep,hc,hc2];simp
   ·rw[hstep,hc,hc2];simp[h0]
  ·rw[hstep,hc];simp
 ·have:j=l:=by omega
  subst this
  have e:bestN tags is ah j=bestF tags is ah:=by unfold bestF;rw[hlen]
  rw[e];exact K
theorem c304 (k n:Int)(K:∀H',Ext H H'->R (.tuple #[.agg (actC k n).toArray,.bool true]) H'):Ru 304 [.int .i64 k,.int .i64 n] H R:=by
 refine v304 _ _ fun H1 p n1=>⟨rfl,?_,n1.own.w 0 2 rfl,fun H2 h2=>⟨actC k n,rfl,by rw[h2];exact rdL_wrL n1.own.2,K H2 ?_⟩⟩
 ·intro v hv;simp only[List.mem_cons,List.not_mem_nil,or_false] at hv;rcases hv with rfl|rfl<;>trivial
 ·rw[h2];exact n1.mod.trans_new (Mod.refl.wrL (S:=[p]) (.inl (by simp))) (by simpa using n1.ge)
theorem c230 (K:∀H',Ext H H'->R (.tuple #[.agg (actC 0 0).toArray,.bool false]) H'):Ru 230 [] H R:=by
 refine v230 fun H1 p n1=>⟨rfl,?_,n1.own.w 0 2 rfl,fun H2 h2=>⟨actC 0 0,rfl,by rw[h2];exact rdL_wrL n1.own.2,K H2 ?_⟩⟩
 ·intro v hv;simp only[List.mem_cons,List.not_mem_nil,or_false] at hv;rcases hv with rfl|rfl<;>trivial
 ·rw[h2];exact n1.mod.trans_new (Mod.refl.wrL (S:=[p]) (.inl (by simp))) (by simpa using n1.ge)
def actR:Option (Int × Int)->Value
 | some (k,n)=>.tuple #[.agg (actC k n).toArray,.bool true]
 | none=>.tuple #[.agg (actC 0 0).toArray,.bool false]
theorem actEnd {H:Heap}{p:Nat}{R:Value->Heap->Prop}(hp:Own H p [.int .i64 0,.int .i64 0])(o:Option (Int × Int)){H0:Heap}(hpn:H0.size<=p)(e:Ext H0 H)(K:∀H',Ext H0 H'->R (actR o) H'){r:Value}{H1:Heap}(he:Ext H H1)(hr:r=actR o) :
  ∃cs:List Value,List.length cs=2/\∃c,r=.tuple #[.agg (List.toArray cs),.bool c]/\List.length cs=2/\(∀v:Value,v∈cs->One v)/\WOk H1 p 0 2/\∀H',H'=wrL H1 p 0 cs->∃cs:List Value,List.length cs=2/\RdL H' p 0 cs/\R (.tuple #[.agg (List.toArray cs),.bool c]) H':=by
 have key:∀(k n:Int) (c:Bool),actR o=.tuple #[.agg (actC k n).toArray,.bool c]->∃cs:List Value,List.length cs=2/\∃c,r=.tuple #[.agg (List.toArray cs),.bool c]/\List.length cs=2/\(∀v:Value,v∈cs->One v)/\WOk H1 p 0 2/\∀H',H'=wrL H1 p 0 cs->∃cs:List Value,List.length cs=2/\RdL H' p 0 cs/\R (.tuple #[.agg (List.toArray cs),.bool c]) H':=by
  intro k n c ho
  have hp1:=hp.mod he (by simp)
  refine⟨actC k n,rfl,c,by rw[hr,ho],rfl,?_,hp1.w 0 2 rfl,fun H' h'=>⟨actC k n,rfl,by rw[h'];exact rdL_wrL hp1.2,?_⟩⟩
  ·intro v hv;simp only[actC,List.mem_cons,List.not_mem_nil,or_false] at hv;rcases hv with rfl|rfl<;>trivial
  ·rw[<-ho];refine K H' ?_
   rw[h'];exact (e.thenExt he).trans_new (Mod.refl.wrL (S:=[p]) (.inl (by simp))) (by simpa using hpn)
 cases o with
 | none=>exact key 0 0 false rfl
 | some q=>obtain⟨k,n⟩:=q;exact key k n true rfl
theorem c231 (k:Nat)(ended:Bool)(at_ pend:Int){a:Option Addr}{l c:Nat}{tags:List Int}(h:RowI H a l tags)(hk:k<65536)(hl:1<=l)(hl2:l<=1048576)(ha:0<=at_/\at_<=k)(hp:pend<0)
  (K:∀H',Ext H H'->R (actR (strideNext k ended at_ pend tags)) H'):Ru 231 [.int .i64 (k:Int),.bool ended,.agg (spotC at_ pend a l c).toArray] H R:=by
 have hlen:=h.len
 have hd:=strideD_pos hl hk
 have hdb:strideD k l<=65536:=by
  obtain⟨j,hj,e,_⟩:=strideD_spec hl hk
  rw[e];exact Nat.le_trans (Nat.pow_le_pow_right (by omega) hj) (by decide)
 have K':=K
 unfold strideNext at K'
 rw[if_pos hp] at K'
 simp only[Int.toNat_natCast,hlen] at K'
 refine v231 _ _ (spotC at_ pend a l c) fun H1 p n1 H2 p1 n2 H3 p2 n3=>?_
 have e3:=(n1.mod.new n2).new n3
 have rk:=(n2.mod.new n3).rd (by simp) (n1.rd 0)
 have rs:∀j v,(spotC at_ pend a l c)[j]?=some v->rd H3 p1 j=some v:=fun j v hj=>n3.mod.rd (by simp) ((n2.rd j).trans hj)
 refine⟨_,rk,_,_,_,rs 2 _ rfl,c15 k l hk hl hl2 ⟨_,_,rfl,fun H4 p3 n4=>⟨n4.own.w 0 1 rfl,fun H5 h5=>?_⟩⟩⟩
 have o5:Own H5 p3 [.int .i64 (strideD k l:Int)]:=by rw[h5];exact n4.own.wr 0 _
 have e35:Ext H3 H5:=by rw[h5];exact n4.mod.trans_new (Mod.refl.wr (S:=[p3]) (.inl (by simp))) (by simpa using n4.ge)
 clear h5
 have e5:=e3.thenExt e35
 have rk5:=e35.rd (by simp) rk
 have rs5:∀j v,(spotC at_ pend a l c)[j]?=some v->rd H5 p1 j=some v:=fun j v hj=>e35.rd (by simp) (rs j v hj)
 have row5:=Ext.row e5 h
 have op2:Own H5 p2 [.int .i64 0,.int .i64 0]:=n3.own.mod e35 (by simp)
 have hp2:H.size<=p2:=Nat.le_trans (n1.mod.new n2).1 n3.ge
 refine⟨_,rs5 0 _ rfl,_,rk5,fun hlt=>⟨_,rk5,_,rs5 0 _ rfl,⟨by omega,by omega⟩,?_⟩,fun hge=>⟨_,_,_,rs5 2 _ rfl,?_⟩⟩
 ·rw[if_pos hlt] at K'
  exact c304 _ _ fun H6 e6=>actEnd op2 (some (1,(k:Int)-at_)) hp2 e5 K' e6 rfl
 rw[if_neg hge] at K'
 refine c305 row5 hl2 306 307 _ _ _ _ (by kernel_rfl) (by kernel_rfl) (fun t=>decide (0<=t) && decide (¬t % (strideD k l:Int)=0)) (fun a b=>decide (a<b)) (fun x R' _ hR=>?_) (fun x y R' hR=>v307 _ _ hR) ⟨_,rfl,fun hoff=>?_,fun hoff=>⟨_,_,_,rs5 2 _ rfl,?_⟩⟩
 ·refine v306 _ _ _ ⟨fun h0=>⟨_,o5.rd 0 rfl,⟨h0,by omega⟩,?_⟩,fun h0=>?_⟩
  ·simpa [h0] using hR
  ·simpa [h0] using hR
 ·rw[if_pos hoff] at K'
  exact c304 _ _ fun H6 e6=>actEnd op2 (some (4,_)) hp2 e5 K' e6 rfl
 rw[if_neg hoff] at K'
 refine c305 row5 hl2 308 307 _ _ _ _ (by kernel_rfl) (by kernel_rfl) (fun t=>decide (t=k)) (fun a b=>decide (a<b)) (fun x R' _ hR=>v308 _ _ _ ⟨_,rk5,hR⟩) (fun x y R' hR=>v307 _ _ hR) ⟨_,rfl,_,_,_,rs5 2 _ rfl,?_⟩
 refine c305 row5 hl2 309 307 _ _ _ _ (by kernel_rfl) (by kernel_rfl) (fun t=>decide (t<0)) (fun a b=>decide (a<b)) (fun x R' _ hR=>v309 _ hR) (fun x y R' hR=>v307 _ _ hR) ⟨_,rfl,?_⟩
 generalize bestF tags (fun t=>decide (t=(k:Int))) (fun a b=>decide (a<b))=held at K' ⊢
 generalize bestF tags (fun t=>decide (t<0)) (fun a b=>decide (a<b))=vac at K' ⊢
 refine⟨fun b H'=>H'=H5/\(b=true<->((k:Int) % (strideD k l:Int)=0/\held<0/\0<=vac)),⟨_,rk5,_,o5.rd 0 rfl,⟨by omega,by omega⟩,fun h0=>⟨fun h1=>⟨rfl,by simp[decP,h0,h1]⟩,fun h1=>⟨rfl,by simp[h1]⟩⟩,fun h0=>⟨rfl,by simp[h0]⟩⟩,?_⟩
 rintro H5 b ⟨rfl,hb⟩
 refine⟨fun hbt=>?_,fun hbf=>⟨fun he=>?_,fun he=>?_⟩⟩
 ·rw[if_pos (hb.1 hbt)] at K'
  exact c304 _ _ fun H6 e6=>actEnd op2 (some (2,vac)) hp2 e5 K' e6 rfl
 ·rw[if_neg (fun h'=>by rw[hb.2 h'] at hbf;cases hbf),he,if_pos rfl] at K'
  exact c304 _ _ fun H6 e6=>actEnd op2 (some (5,0)) hp2 e5 K' e6 rfl
 ·rw[if_neg (fun h'=>by rw[hb.2 h'] at hbf;cases hbf),he] at K'
  exact c230 fun H6 e6=>actEnd op2 none hp2 e5 K' e6 rfl
theorem c232 (k:Int)(ended:Bool)(at_ pend:Int){a:Option Addr}{l c:Nat}{tags:List Int}(h:RowI H a l tags)(hl2:l<=1048576)(ha:0<=at_/\at_<=65536)(hp:0<=pend/\pend<=65536)
  (K:∀H',Ext H H'->R (actR (strideNext k ended at_ pend tags)) H'):Ru 232 [.agg (spotC at_ pend a l c).toArray] H R:=by
 have hlen:=h.len
 have K':=K
 unfold strideNext at K'
 rw[if_neg (by omega)] at K'
 dsimp only at K'
 refine v232 (spotC at_ pend a l c) fun H1 p n1 H2 p1 n2=>?_
 have e2:=n1.mod.new n2
 have rs:∀j v,(spotC at_ pend a l c)[j]?=some v->rd H2 p j=some v:=fun j v hj=>n2.mod.rd (by simp) ((n1.rd j).trans hj)
 have row2:=Ext.row e2 h
 have hp1:H.size<=p1:=Nat.le_trans n1.mod.1 n2.ge
 refine⟨_,rs 1 _ rfl,_,_,_,rs 2 _ rfl,?_⟩
 have hbr:=bestN_range tags (fun t=>decide (0<=t)) (fun a b=>decide (b<a)) tags.length
 refine c305 row2 hl2 310 311 _ _ _ _ (by kernel_rfl) (by kernel_rfl) (fun t=>decide (0<=t)) (fun a b=>decide (b<a)) (fun x R' _ hR=>v310 _ hR) (fun x y R' hR=>v311 _ _ hR) ⟨_,rfl,?_⟩
 have hbF:bestN tags (fun t=>decide (0<=t)) (fun a b=>decide (b<a)) tags.length=bestF tags (fun t=>decide (0<=t)) (fun a b=>decide (b<a)):=rfl
 rw[hbF] at hbr
 generalize bestF tags (fun t=>decide (0<=t)) (fun a b=>decide (b<a))=base at K' hbr ⊢
 clear hbF
 have idx:∀(K2:Int->Prop),0<=base->K2 (tags.getD base.toNat (-1))->∃b o,At a b o/\(0<=base/\base<l)/\∃n,rd H2 b (o+base.toNat)=some (.int .i64 n)/\K2 n:=by
  intro K2 h0 hk
  refine RowI.idx row2 h0 (by omega) ?_
  have hgd:tags[base.toNat]'(by omega)=tags.getD base.toNat (-1):=by rw[List.getD_eq_getElem?_getD,List.getElem?_eq_getElem (by omega)];rfl
  rw[hgd];exact hk
 generalize tags.getD base.toNat (-1)=bt at K' idx ⊢
 refine⟨fun b H'=>H'=H2/\(b=true<->(0<=base/\pend<=bt)),⟨fun h0=>⟨_,_,_,rs 2 _ rfl,idx _ h0 ⟨rfl,by simp[decP,h0]⟩⟩,fun h0=>⟨rfl,by simp[h0]⟩⟩,?_⟩
 rintro H2 b ⟨rfl,hb⟩
 refine⟨fun hbt=>?_,fun hbf=>?_⟩
 ·rw[if_pos (hb.1 hbt)] at K'
  exact c304 _ _ fun H6 e6=>actEnd n2.own (some (4,base)) hp1 e2 K' e6 rfl
 rw[if_neg (fun h'=>by rw[hb.2 h'] at hbf;cases hbf)] at K'
 refine⟨fun h0=>?_,fun h0=>⟨_,rs 0 _ rfl,⟨by omega,by omega⟩,fun h1=>?_,fun h1=>?_⟩⟩
 ·rw[if_pos h0] at K'
  exact c230 fun H6 e6=>actEnd n2.own none hp1 e2 K' e6 rfl
 ·rw[if_neg h0,if_pos h1] at K'
  exact c304 _ _ fun H6 e6=>actEnd n2.own (some (7,0)) hp1 e2 K' e6 rfl
 rw[if_neg h0,if_neg h1] at K'
 refine⟨fun b H'=>H'=H2/\(b=true<->(0<=base/\(at_<bt\/pend<=at_))),⟨fun h2=>⟨_,rs 0 _ rfl,_,_,_,rs 2 _ rfl,idx _ h2 ⟨fun h3=>⟨rfl,by simp[h2,h3]⟩,fun h3=>⟨_,rs 0 _ rfl,rfl,by simp[decP,h2,h3]⟩⟩⟩,fun h2=>⟨rfl,by simp[h2]⟩⟩,?_⟩
 rintro H2 b ⟨rfl,hb2⟩
 refine⟨fun hbt=>?_,fun hbf=>⟨_,rs 0 _ rfl,fun h3=>⟨⟨by omega,by omega⟩,_,rs 0 _ rfl,⟨by omega,by omega⟩,?_⟩,fun h3=>?_⟩⟩
 ·rw[if_pos (hb2.1 hbt)] at K'
  exact c304 _ _ fun H6 e6=>actEnd n2.own (some (3,base)) hp1 e2 K' e6 rfl
 ·rw[if_neg (fun h'=>by rw[hb2.2 h'] at hbf;cases hbf),if_pos h3] at K'
  exact c304 _ _ fun H6 e6=>actEnd n2.own (some (1,pend-1-at_)) hp1 e2 K' e6 rfl
 ·rw[if_neg (fun h'=>by rw[hb2.2 h'] at hbf;cases hbf),if_neg h3] at K'
  exact c230 fun H6 e6=>actEnd n2.own none hp1 e2 K' e6 rfl
theorem c179 (k:Nat)(ended:Bool)(at_ pend:Int){a:Option Addr}{l c:Nat}{tags:List Int}(h:RowI H a l tags)(ok:MOk ⟨at_,pend,k,0,tags⟩)(hl:1<=l)
  (K:∀H',Ext H H'->R (actR (strideNext k ended at_ pend tags)) H'):Ru 179 [.int .i64 (k:Int),.bool ended,.agg (spotC at_ pend a l c).toArray] H R:=by
 have hlen:=h.len
 have ok':=ok
 obtain⟨l0,l1,at0,at1,p0,p1,tg,few⟩:=ok'
 dsimp only at l0 l1 at0 at1 p0 p1 tg few
 refine v179 _ _ (spotC at_ pend a l c) fun H1 p n1 H2 p1 n2=>⟨spotC at_ pend a l c,rfl,n2.mod.rdL (by simp) n1.rdL,?_⟩
 have e2:=n1.mod.new n2
 refine c117 _ _ _ (Ext.row e2 h) ok fun H3 bm a' c' _ e3=>⟨_,_,rfl,by simp,fun _=>?_⟩
 have rs:∀j v,(spotC at_ pend a l c)[j]?=some v->rd H3 p j=some v:=fun j v hj=>e3.rd (by simp) (n2.mod.rd (by simp) ((n1.rd j).trans hj))
 have op:=n2.own.mod e3 (by simp)
 have e13:=e2.thenExt e3
 have hp1:H.size<=p1:=Nat.le_trans n1.mod.1 n2.ge
 have rl:RdL H3 p 0 (spotC at_ pend a l c):=(n2.mod.thenExt e3).rdL (by simp) n1.rdL
 refine⟨_,_,_,rs 2 _ rfl,fun h'=>by omega,fun _=>⟨_,rs 1 _ rfl,fun hneg=>⟨_,rfl,rl,?_⟩,fun hpos=>⟨_,rfl,rl,?_⟩⟩⟩
 ·exact c231 k ended at_ pend (Ext.row e13 h) (by omega) hl (by omega) ⟨by omega,by omega⟩ hneg fun H4 e4=>actEnd op _ hp1 e13 K e4 rfl
 ·exact c232 k ended at_ pend (Ext.row e13 h) (by omega) ⟨by omega,by omega⟩ ⟨by omega,by omega⟩ fun H4 e4=>actEnd op _ hp1 e13 K e4 rfl
end Go.VC
namespace Go.VC
open Go Go.Proofs
def ch:Nat->Nat->Nat
 | _,0=>1
 | 0,_+1=>0
 | n+1,k+1=>ch n k+ch n (k+1)
@[simp] theorem ch_zero (n:Nat):ch n 0=1:=by cases n<;>rfl
theorem ch_lt:∀{n k:Nat},n<k->ch n k=0
 | 0,k+1,_=>rfl
 | n+1,k+1,h=>by rw[ch,ch_lt (show n<k by omega),ch_lt (show n<k+1 by omega)]
@[simp] theorem ch_self:∀n:Nat,ch n n=1
 | 0=>rfl
 | n+1=>by rw[ch,ch_self n,ch_lt (show n<n+1 by omega)]
theorem ch_one:∀n:Nat,ch n 1=n
 | 0=>rfl
 | n+1=>by rw[ch,ch_one n,ch_zero];omega
theorem ch_absorb:∀n k:Nat,ch (n+1) (k+1)*(k+1)=(n+1)*ch n k
 | n,0=>by rw[ch_one];simp
 | 0,k+1=>by simp[ch]
 | n+1,k+1=>by
  have h1:=ch_absorb n k
  have h2:=ch_absorb n (k+1)
  have e1:ch (n+1+1) (k+1+1)=ch (n+1) (k+1)+ch (n+1) (k+1+1):=rfl
  have e2:ch (n+1) (k+1)=ch n k+ch n (k+1):=rfl
  rw[e1,Nat.add_mul,h2,Nat.mul_succ,h1]
  rw[e2]
  simp only[Nat.mul_add,Nat.add_mul]
  omega
theorem ch_symm:∀a b:Nat,ch (a+b) a=ch (a+b) b
 | 0,b=>by simp
 | a+1,0=>by simp
 | a+1,b+1=>by
  have h1:=ch_symm a (b+1)
  have h2:=ch_symm (a+1) b
  have e:a+1+(b+1)=(a+(b+1))+1:=by omega
  rw[e,ch,ch,h1,show a+(b+1)=a+1+b from by omega,h2]
  omega
theorem ch_symm' {n k:Nat}(h:k<=n):ch n k=ch n (n-k):=by
 have:=ch_symm k (n-k)
 rwa [show k+(n-k)=n from by omega] at this
theorem ch_up (n k:Nat):ch n k<=ch (n+1) k:=by
 cases k with
 | zero=>simp
 | succ k=>rw[ch];omega
theorem ch_mono {n m:Nat}(h:n<=m)(k:Nat):ch n k<=ch m k:=by
 induction h with
 | refl=>exact Nat.le_refl _
 | step h ih=>exact Nat.le_trans ih (ch_up _ _)
theorem ch_diag (m:Nat):∀{i j:Nat},i<=j->ch (m+i) i<=ch (m+j) j:=by
 intro i j h
 induction h with
 | refl=>exact Nat.le_refl _
 | @step j h ih=>
  refine Nat.le_trans ih ?_
  show _<=ch (m+j+1) (j+1)
  rw[ch];omega
theorem ch_pos {n k:Nat}(h:k<=n):1<=ch n k:=by
 have:=ch_mono h k
 rw[ch_self] at this;exact this
theorem ch_ge {s r:Nat}(h:1<=s):r+1<=ch (s+r) s:=by
 induction r with
 | zero=>simp
 | succ r ih=>
  obtain⟨s',rfl⟩:∃s',s=s'+1:=⟨s-1,by omega⟩
  rw[show s'+1+(r+1)=(s'+1+r)+1 from by omega,ch]
  have:=ch_pos (n:=s'+1+r) (k:=s') (by omega)
  omega
def most:Nat:=1099511627776
def chCap (n k:Nat):Nat:=min (ch n k) most
structure RepsIs (l s r:Nat):Prop where
 enough:l<=ch (s+r) s
 least:r=0\/ch (s+(r-1)) s<l
 le:r<=l
theorem reps_exists (l s:Nat)(hs:1<=s):∃r,RepsIs l s r:=by
 have key:∀n,(∃r,r<=n/\l<=ch (s+r) s)->∃r,r<=n/\l<=ch (s+r) s/\(r=0\/ch (s+(r-1)) s<l):=by
  intro n
  induction n with
  | zero=>
   rintro⟨r,h1,h2⟩
   exact⟨r,h1,h2,.inl (by omega)⟩
  | succ n ih=>
   rintro⟨r,h1,h2⟩
   by_cases h:∃r,r<=n/\l<=ch (s+r) s
   ·obtain⟨r,a,b,c⟩:=ih h
    exact⟨r,by omega,b,c⟩
   ·have e:r=n+1:=by
     rcases Nat.lt_or_ge n r with h'|h'
     ·omega
     ·exact (h ⟨r,h',h2⟩).elim
    refine⟨r,h1,h2,.inr ?_⟩
    subst e
    apply Nat.lt_of_not_le
    intro hn
    exact h ⟨n,Nat.le_refl _,hn⟩
 obtain⟨r,a,b,c⟩:=key l ⟨l,Nat.le_refl _,by have:=ch_ge (r:=l) hs;omega⟩
 exact⟨r,b,c,a⟩
noncomputable def repsOf (l s:Nat):Nat:=if h:1<=s then Classical.choose (reps_exists l s h) else 0
theorem repsOf_spec {l s:Nat}(hs:1<=s):RepsIs l s (repsOf l s):=by
 unfold repsOf;rw[dif_pos hs];exact Classical.choose_spec (reps_exists l s hs)
noncomputable def splitOf (n c:Nat):Nat:=max 1 (max (ch (c+repsOf n c-2) c) (n-ch (c+repsOf n c-1) (c-1)))
end Go.VC
set_option linter.unusedVariables false
namespace Go.VC
open Go Go.Proofs
set_option maxRecDepth 100000
variable {H:Heap}{R:Value->Heap->Prop}
theorem v25 (x0:List Value)(x1:Option Addr)(l1 c1:Nat)(h:∀H' p,New H x0 25 H' p->∀H'_1 p_1,New H' [.i 0,.slice none 0 0] 25 H'_1 p_1->∃cs:List Value,cs.length=2/\RdL H'_1 p 0 cs/\Ru 63 [.agg cs.toArray,.slice x1 l1 c1] H'_1 fun r H'=>∃(cs:List Value),cs.length=2/\∃n,r=.tuple #[.agg cs.toArray,.i n]/\∀H'_2 p,New H' [.i 0,.slice none 0 0] 25 H'_2 p->cs.length=2/\(∀v∈cs,One v)/\WOk H'_2 p 0 2/\∀H',H'=wrL H'_2 p 0 cs->(¬n=0->2=2/\(∀v∈[.i 0,.slice none 0 0],One v)/\WOk H' p_1 0 2/\∀H'_3,H'_3=wrL H' p_1 0 [.i 0,.slice none 0 0]->∃(cs:List Value),cs.length=2/\RdL H'_3 p_1 0 cs/\R (.tuple #[.agg cs.toArray,.i n]) H'_3)/\(¬¬n=0->∃cs:List Value,cs.length=2/\RdL H' p 0 cs/\Ru 64 [.agg cs.toArray] H' fun r H'=>∃cs:List Value,cs.length=2/\∃n,r=.tuple #[.agg cs.toArray,.i n]/\cs.length=2/\(∀v∈cs,One v)/\WOk H' p_1 0 2/\∀H'_3,H'_3=wrL H' p_1 0 cs->∃(cs:List Value),cs.length=2/\RdL H'_3 p_1 0 cs/\R (.tuple #[.agg cs.toArray,.i n]) H'_3)):Ru 25 [.agg x0.toArray,.slice x1 l1 c1] H R:=vcr nn [.agg x0,.slc x1 l1 c1] h
theorem v26 (x0:Option Addr)(l0 c0:Nat)(h:∃(I:UInt64->Int->Heap->Prop),∃(μ:UInt64->Int->Heap->Nat),I (UInt64.ofNat (nat_lit 1)) (0:Int) H/\∀H x n,I x n H->(n<(↑l0:Int)->∃b o,At x0 b o/\((0:Int)<=n/\n<(↑l0:Int))/\∃x_1,rd H b (o+n.toNat)=some (.u x_1)/\I64 (n+(1:Int))/\I (x*x_1) (n+(1:Int)) H/\μ (x*x_1) (n+(1:Int)) H<μ x n H)/\(¬n<(↑l0:Int)->R (.int .u64 (↑(UInt64.toNat x):Int)) H)):Ru 26 [.slice x0 l0 c0] H R:=vcr ⟨fun|3=>some [(3,.u64),(8,.int .i64)]|_=>none,fun _=>none⟩ [.slc x0 l0 c0] h
theorem v63 (x0:List Value)(x1:Option Addr)(l1 c1:Nat)(h:∀H' p,New H x0 25 H' p->∀H'_1 p_1,New H' [.i 0,.slice none 0 0] 25 H'_1 p_1->∃cs:List Value,cs.length=2/\RdL H'_1 p 0 cs/\Ru 125 [.agg cs.toArray,.slice x1 l1 c1] H'_1 fun r H'=>∃a l c n,r=.tuple #[.slice a l c,.i n]/\∀H'_2 p_2,New H' [.slice none 0 0] 207 H'_2 p_2->WOk H'_2 p_2 0 1/\∀H',H'=wr H'_2 p_2 0 (.slice a l c)->(¬n=0->2=2/\(∀v∈[.i 0,.slice none 0 0],One v)/\WOk H' p_1 0 2/\∀H'_3,H'_3=wrL H' p_1 0 [.i 0,.slice none 0 0]->∃cs:List Value,cs.length=2/\RdL H'_3 p_1 0 cs/\R (.tuple #[.agg cs.toArray,.i n]) H'_3)/\(¬¬n=0->∃n,rd H' p 0=some (.i n)/\∃a l c,rd H' p 1=some (.slice a l c)/\Ru 126 [.slice a l c,.func (.func 127) #[] #[.p p_2 0,.p p 0]] H' fun r H'=>∃a l c,r=.slice a l c/\rd H' p 0=some (.i n)/\List.length (α:=Value) [.i n,.slice a l c]=2/\(∀v∈[.i n,.slice a l c],One v)/\WOk H' p_1 0 2/\∀H'_3,H'_3=wrL H' p_1 0 [.i n,.slice a l c]->∃cs:List Value,cs.length=2/\RdL H'_3 p_1 0 cs/\R (.tuple #[.agg cs.toArray,.i 0]) H'_3)):Ru 63 [.agg x0.toArray,.slice x1 l1 c1] H R:=vcr nn [.agg x0,.slc x1 l1 c1] h
theorem v64 (x0:List Value)(h:∀H' p,New H x0 25 H' p->∀H'_1 p_1,New H' [.i 0,.slice none 0 0] 25 H'_1 p_1->∃cs:List Value,cs.length=2/\RdL H'_1 p 0 cs/\Ru 129 [.agg cs.toArray] H'_1 fun r H'=>∃n,r=.i n/\(¬n=0->2=2/\(∀v∈[.i 0,.slice none 0 0],One v)/\WOk H' p_1 0 2/\∀H'_2,H'_2=wrL H' p_1 0 [.i 0,.slice none 0 0]->∃cs:List Value,cs.length=2/\RdL H'_2 p_1 0 cs/\R (.tuple #[.agg cs.toArray,.i n]) H'_2)/\(¬¬n=0->∃a l c,rd H' p 1=some (.slice a l c)/\Ru 130 [.slice a l c] H' fun r H'=>∃a l c n,r=.tuple #[.slice a l c,.i n]/\∃a_1 l_1 c,rd H' p 1=some (.slice a_1 l_1 c)/\Ru 131 [.slice a_1 l_1 c] H' fun r H'=>∃a_2 l_2 c n,r=.tuple #[.slice a_2 l_2 c,.i n]/\∃a_3 l_3 c,rd H' p 1=some (.slice a_3 l_3 c)/\((0:Int)<=(↑l_3:Int)/\(↑l_3:Int)<=(↑l_3:Int)/\(1:Int)*(↑l_3:Int)<=(281474976710656:Int)/\I64 (↑l_3:Int))/\∀H'_2 q,New H' (rep (Int.toNat (↑l_3:Int)) [.bool false]) 4 H'_2 q->∀H' p_2,New H'_2 [.slice none 0 0] 207 H' p_2->WOk H' p_2 0 1/\∀H'_3,H'_3=wr H' p_2 0 (.slice (some ⟨q,0,none⟩) (Int.toNat (↑l_3:Int)) (Int.toNat (↑l_3:Int)))->∃a_7 l_4 c,rd H'_3 p 1=some (.slice a_7 l_4 c)/\∃(I:Int->Heap->Prop),∃(μ:Int->Heap->Nat),I (0:Int) H'_3/\∀H n,I n H->(n<(↑l_4:Int)->∃b o,At a_7 b o/\((0:Int)<=n/\n<(↑l_4:Int))/\∃cs:List Value,cs.length=5/\RdL H b (o+n.toNat*5) cs/\∀H' p,New H [.i 0,.i 0,.i 0,.i 0,.int .u64 0] 74 H' p->cs.length=5/\(∀v∈cs,One v)/\WOk H' p 0 5/\∀H'_4,H'_4=wrL H' p 0 cs->∃n_1,rd H'_4 p 0=some (.i n_1)/\(¬n_1=7->I64 (n+(1:Int))/\I (n+(1:Int)) H'_4/\μ (n+(1:Int)) H'_4<μ n H)/\(¬¬n_1=7->∃b o,At a_2 b o/\((0:Int)<=n/\n<(↑l_2:Int))/\∃n_2,rd H'_4 b (o+n.toNat)=some (.i n_2)/\(n_2=0->∃(I_1:Int->Heap->Prop),∃(μ_1:Int->Heap->Nat),I_1 n H'_4/\∀H_1 n_3,I_1 n_3 H_1->∃b o,At a b o/\((0:Int)<=n/\n<(↑l:Int))/\∃n_4,rd H_1 b (o+n.toNat)=some (.i n_4)/\(n_3<=n_4->∃a l c,rd H_1 p_2 0=some (.slice a l c)/\∃b o,At a b o/\((0:Int)<=n_3/\n_3<(↑l:Int))/\WOk H_1 b (o+n_3.toNat) 1/\∀H',H'=wr H_1 b (o+n_3.toNat) (.bool true)->I64 (n_3+(1:Int))/\I_1 (n_3+(1:Int)) H'/\μ_1 (n_3+(1:Int)) H'<μ_1 n_3 H_1)/\(¬n_3<=n_4->I64 (n+(1:Int))/\I (n+(1:Int)) H_1/\μ (n+(1:Int)) H_1<μ n H))/\(¬n_2=0->∃x,rd H'_4 p 4=some (.u x)/\(x=UInt64.ofNat (nat_lit 1)->∃a_15 l_5 c,rd H'_4 p_2 0=some (.slice a_15 l_5 c)/\∃a_16 l_6 c,rd H'_4 p_2 0=some (.slice a_16 l_6 c)/\∃b o,At a b o/\((0:Int)<=n/\n<(↑l:Int))/\∃n_3,rd H'_4 b (o+n.toNat)=some (.i n_3)/\∃b o,At a_15 b o/\((0:Int)<=n/\n<(↑l_5:Int))/\WOk H'_4 b (o+n.toNat) 1/\∀H',H'=wr H'_4 b (o+n.toNat) (.bool true)->rd H' p_2 0=some (.slice a_16 l_6 c)/\∃b o,At a_16 b o/\((0:Int)<=n_3/\n_3<(↑l_6:Int))/\WOk H' b (o+n_3.toNat) 1/\∀H'_5,H'_5=wr H' b (o+Int.toNat n_3) (.bool true)->I64 (n+(1:Int))/\I (n+(1:Int)) H'_5/\μ (n+(1:Int)) H'_5<μ n H)/\(¬x=UInt64.ofNat (nat_lit 1)->I64 (n+(1:Int))/\I (n+(1:Int)) H'_4/\μ (n+(1:Int)) H'_4<μ n H))))/\(¬n<(↑l_4:Int)->∃n,rd H p 0=some (.i n)/\∃a l c,rd H p 1=some (.slice a l c)/\Ru 126 [.slice a l c,.func (.func 132) #[] #[.p p_2 0]] H fun r H'=>∃a l c,r=.slice a l c/\rd H' p 0=some (.i n)/\List.length (α:=Value) [.i n,.slice a l c]=2/\(∀v∈[.i n,.slice a l c],One v)/\WOk H' p_1 0 2/\∀H'_4,H'_4=wrL H' p_1 0 [.i n,.slice a l c]->∃cs:List Value,cs.length=2/\RdL H'_4 p_1 0 cs/\R (.tuple #[.agg cs.toArray,.i 0]) H'_4))):Ru 64 [.agg x0.toArray] H R:=vcr ⟨fun|8=>some [(38,.int .i64)]|13=>some [(12,.int .i64)]|_=>none,fun _=>none⟩ [.agg x0] h
theorem v125 (x0:List Value)(x1:Option Addr)(l1 c1:Nat)(h:∀H' p,New H x0 25 H' p->∃cs:List Value,cs.length=2/\RdL H' p 0 cs/\Ru 200 [.agg cs.toArray,.slice x1 l1 c1] H' fun r H'=>∃cs:List Value,cs.length=3/\∃n,r=.tuple #[.agg cs.toArray,.i n]/\∀H'_1 p,New H' [.slice none 0 0,.slice none 0 0,.i 0] 267 H'_1 p->cs.length=3/\(∀v∈cs,One v)/\WOk H'_1 p 0 3/\∀H',H'=wrL H'_1 p 0 cs->∃a l c,rd H' p 0=some (.slice a l c)/\R (.tuple #[.slice a l c,.i n]) H'):Ru 125 [.agg x0.toArray,.slice x1 l1 c1] H R:=vcr nn [.agg x0,.slc x1 l1 c1] h
theorem v126 (x0:Option Addr)(l0 c0:Nat)(x1:Value)(h:∃(I:Option Addr->Nat->Nat->Int->Heap->Prop),∃(μ:Option Addr->Nat->Nat->Int->Heap->Nat),I none 0 0 (0:Int) H/\∀H a l c n,I a l c n H->(n<(↑l0:Int)->∃b o,At x0 b o/\((0:Int)<=n/\n<(↑l0:Int))/\∃cs:List Value,cs.length=5/\RdL H b (o+n.toNat*5) cs/\∀H' p,New H [.i 0,.i 0,.i 0,.i 0,.int .u64 0] 74 H' p->cs.length=5/\(∀v∈cs
 ,One v)/\WOk H' p 0 5/\∀H'_1,H'_1=wrL H' p 0 cs->∃g u v,x1=.func (.func g) u v/\callable Tryz.prog g=true/\Ru g (Array.toList u++[.i n]++Array.toList v) H'_1 fun r H'=>∃c_1,r=.bool c_1/\(c_1=true->∃cs:List Value,cs.length=5/\RdL H' p 0 cs/\cs.length=5/\∀H'_2 q,New H' (cs++[]) 74 H'_2 q->∃new,new.length=5/\SlL H'_2 (some ⟨q,0,none⟩) new/\App 5 40 74 [.int .i64 0,.i 0,.i 0,.i 0,.int .u64 0] H'_2 a l c 1 new fun a' l' c' H'=>I64 (n+(1:Int))/\I a' l' c' (n+(1:Int)) H'/\μ a' l' c' (n+(1:Int)) H'<μ a l c n H)/\(c_1=false->I64 (n+(1:Int))/\I a l c (n+(1:Int)) H'/\μ a l c (n+(1:Int)) H'<μ a l c n H))/\(¬n<(↑l0:Int)->R (.slice a l c) H)):Ru 126 [.slice x0 l0 c0,x1] H R:=vcr ⟨fun|3=>some [(5,.slc),(10,.int .i64)]|_=>none,fun _=>none⟩ [.slc x0 l0 c0,.op x1] h
theorem v127 (x0:Int)(x1 o1:Nat)(x2 o2:Nat)(h:∃a l c,rd H x1 o1=some (.slice a l c)/\∃b o,At a b o/\((0:Int)<=x0/\x0<(↑l:Int))/\∃c,rd H b (o+x0.toNat)=some (.bool c)/\(c=true->R (.bool true) H)/\(c=false->∃a l c,rd H x2 (o2+1)=some (.slice a l c)/\∃b o,At a b o/\((0:Int)<=x0/\x0<(↑l:Int))/\∃cs:List Value,cs.length=5/\RdL H b (o+x0.toNat*5) cs/\Ru 128 [.agg cs.toArray] H fun r H'=>∃c,r=.bool c/\R (.bool c) H')):Ru 127 [.i x0,.p x1 o1,.p x2 o2] H R:=vcr nn [.int .i64 x0,.ptr x1 o1,.ptr x2 o2] h
theorem v128 (x0:List Value)(h:∀H' p,New H x0 74 H' p->∃n,rd H' p 0=some (.i n)/\(n=7->R (.bool true) H')/\(¬n=7->∃n,rd H' p 0=some (.i n)/\R (.bool (decide (n=0))) H')):Ru 128 [.agg x0.toArray] H R:=vcr nn [.agg x0] h
theorem v132 (x0:Int)(x1 o1:Nat)(h:∃a l c,rd H x1 o1=some (.slice a l c)/\∃b o,At a b o/\((0:Int)<=x0/\x0<(↑l:Int))/\∃c,rd H b (o+x0.toNat)=some (.bool c)/\R (.bool !c) H):Ru 132 [.i x0,.p x1 o1] H R:=vcr nn [.int .i64 x0,.ptr x1 o1] h
theorem v208 (x0:UInt64)(x1:UInt64)(h:((0:Int)<=(32:Int)/\(32:Int)<(64:Int))/\((0:Int)<=(32:Int)/\(32:Int)<(64:Int))/\((0:Int)<=(32:Int)/\(32:Int)<(64:Int))/\((0:Int)<=(32:Int)/\(32:Int)<(64:Int))/\((0:Int)<=(32:Int)/\(32:Int)<(64:Int))/\R (.tuple #[.int .u64 (↑(UInt64.toNat (UInt64.ofNat (UInt64.toNat x0 / 4294967296)*UInt64.ofNat (UInt64.toNat x1 / 4294967296)+UInt64.ofNat (UInt64.toNat (UInt64.ofNat (UInt64.toNat x0 / 4294967296)*(x1 &&& UInt64.ofNat (nat_lit 4294967295))+UInt64.ofNat (UInt64.toNat ((x0 &&& UInt64.ofNat (nat_lit 4294967295))*(x1 &&& UInt64.ofNat (nat_lit 4294967295))) / 4294967296)) / 4294967296)+UInt64.ofNat (UInt64.toNat ((UInt64.ofNat (UInt64.toNat x0 / 4294967296)*(x1 &&& UInt64.ofNat (nat_lit 4294967295))+UInt64.ofNat (UInt64.toNat ((x0 &&& UInt64.ofNat (nat_lit 4294967295))*(x1 &&& UInt64.ofNat (nat_lit 4294967295))) / 4294967296) &&& UInt64.ofNat (nat_lit 4294967295))+(x0 &&& UInt64.ofNat (nat_lit 4294967295))*UInt64.ofNat (UInt64.toNat x1 / 4294967296)) / 4294967296))):Int),.int .u64 (↑(UInt64.toNat (x0*x1)):Int)]) H):Ru 208 [.u x0,.u x1] H R:=vcr nn [.u64 x0,.u64 x1] h
theorem v255 (x0:Option Addr)(l0 c0:Nat)(x1 o1:Nat)(h:∃(I:Int->Heap->Prop),∃(μ:Int->Heap->Nat),I (0:Int) H/\∀H n,I n H->(n<(↑l0:Int)->∃b o,At x0 b o/\((0:Int)<=n/\n<(↑l0:Int))/\∃n_1,rd H b (o+n.toNat)=some (.i n_1)/\∃a l c,rd H x1 o1=some (.slice a l c)/\∃b o,At a b o/\((0:Int)<=n_1/\n_1<(↑l:Int))/\WOk H b (o+n_1.toNat) 1/\∀H',H'=wr H b (o+n_1.toNat) (.bool true)->I64 (n+(1:Int))/\I (n+(1:Int)) H'/\μ (n+(1:Int)) H'<μ n H)/\(¬n<(↑l0:Int)->R (.tuple #[]) H)):Ru 255 [.slice x0 l0 c0,.p x1 o1] H R:=vcr ⟨fun|1=>some [(7,.int .i64)]|_=>none,fun _=>none⟩ [.slc x0 l0 c0,.ptr x1 o1] h
theorem v256 (x0:Int)(x1 o1:Nat)(h:(x0<(0:Int)->R (.bool true) H)/\(¬x0<(0:Int)->∃n,rd H x1 o1=some (.i n)/\R (.bool (decide (n<=x0))) H)):Ru 256 [.i x0,.p x1 o1] H R:=vcr nn [.int .i64 x0,.ptr x1 o1] h
theorem v258 (x0:Option Addr)(l0 c0:Nat)(h:∀H' p,New H [.slice x0 l0 c0] 23 H' p->∃a l c,rd H' p 0=some (.slice a l c)/\Ru 130 [.slice a l c] H' fun r H'=>∃a l c n,r=.tuple #[.slice a l c,.i n]/\∀H'_1 p_1,New H' [.slice none 0 0] 46 H'_1 p_1->WOk H'_1 p_1 0 1/\∀H',H'=wr H'_1 p_1 0 (.slice a l c)->∀H'_2 p_2,New H' [Value.nilFunc] 389 H'_2 p_2->WOk H'_2 p_2 0 1/\∀H',H'=wr H'_2 p_2 0 (.func (.func 329) #[] #[.p p 0,.p p_2 0,.p p_1 0])->∃v,rd H' p_2 0=some v/\∃a l c,rd H' p 0=some (.slice a l c)/\∃g u v_1,v=.func (.func g) u v_1/\callable Tryz.prog g=true/\Ru g (Array.toList u++[.i 0,.i (↑l:Int)]++Array.toList v_1) H' fun r H'=>∃a l c,r=.slice a l c/\R (.slice a l c) H'):Ru 258 [.slice x0 l0 c0] H R:=vcr nn [.slc x0 l0 c0] h
theorem v275 (x0:UInt64)(x1:UInt64)(x2:UInt64)(h:(x2=UInt64.ofNat (nat_lit 0)->False)/\(¬x2=UInt64.ofNat (nat_lit 0)->(x2<=x0->False)/\(¬x2<=x0->(x0=UInt64.ofNat (nat_lit 0)->x2≠0/\x2≠0/\R (.tuple #[.int .u64 (↑(UInt64.toNat (x1 / x2)):Int),.int .u64 (↑(UInt64.toNat (x1 % x2)):Int)]) H)/\(¬x0=UInt64.ofNat (nat_lit 0)->Ru 341 [.u x2] H fun r H'=>∃n,r=.i n/\((0:Int)<=(↑(UInt64.toNat (UInt64.ofInt n)):Int)/\(↑(UInt64.toNat (UInt64.ofInt n)):Int)<(64:Int))/\((0:Int)<=(32:Int)/\(32:Int)<(64:Int))/\((0:Int)<=(↑(UInt64.toNat (UInt64.ofInt n)):Int)/\(↑(UInt64.toNat (UInt64.ofInt n)):Int)<(64:Int))/\((0:Int)<=(↑(UInt64.toNat (UInt64.ofNat (nat_lit 64)-UInt64.ofInt n)):Int)/\(↑(UInt64.toNat (UInt64.ofNat (nat_lit 64)-UInt64.ofInt n)):Int)<(64:Int))/\((0:Int)<=(↑(UInt64.toNat (UInt64.ofInt n)):Int)/\(↑(UInt64.toNat (UInt64.ofInt n)):Int)<(64:Int))/\((0:Int)<=(32:Int)/\(32:Int)<(64:Int))/\UInt64.ofNat (UInt64.toNat (UInt64.ofNat (UInt64.toNat x2*2 ^ Int.toNat (↑(UInt64.toNat (UInt64.ofInt n)):Int))) / 4294967296)≠0/\∃(J:UInt64->Heap->Prop),(∃(I:UInt64->UInt64->Heap->Prop),∃(μ:UInt64->UInt64->Heap->Nat),I ((UInt64.ofNat (UInt64.toNat x0*2 ^ Int.toNat (↑(UInt64.toNat (UInt64.ofInt n)):Int)) ||| UInt64.ofNat (UInt64.toNat x1 / 2 ^ Int.toNat (↑(UInt64.toNat (UInt64.ofNat (nat_lit 64)-UInt64.ofInt n)):Int))) / UInt64.ofNat (UInt64.toNat (UInt64.ofNat (UInt64.toNat x2*2 ^ Int.toNat (↑(UInt64.toNat (UInt64.ofInt n)):Int))) / 4294967296)) ((UInt64.ofNat (UInt64.toNat x0*2 ^ Int.toNat (↑(UInt64.toNat (UInt64.ofInt n)):Int)) ||| UInt64.ofNat (UInt64.toNat x1 / 2 ^ Int.toNat (↑(UInt64.toNat (UInt64.ofNat (nat_lit 64)-UInt64.ofInt n)):Int)))-(UInt64.ofNat (UInt64.toNat x0*2 ^ Int.toNat (↑(UInt64.toNat (UInt64.ofInt n)):Int)) ||| UInt64.ofNat (UInt64.toNat x1 / 2 ^ Int.toNat (↑(UInt64.toNat (UInt64.ofNat (nat_lit 64)-UInt64.ofInt n)):Int))) / UInt64.ofNat (UInt64.toNat (UInt64.ofNat (UInt64.toNat x2*2 ^ Int.toNat (↑(UInt64.toNat (UInt64.ofInt n)):Int))) / 4294967296)*UInt64.ofNat (UInt64.toNat (UInt64.ofNat (UInt64.toNat x2*2 ^ Int.toNat (↑(UInt64.toNat (UInt64.ofInt n)):Int))) / 4294967296)) H'/\∀H x x_1,I x x_1 H->(UInt64.ofNat (nat_lit 4294967296)<=x->(UInt64.ofNat (nat_lit 4294967296)<=x_1+UInt64.ofNat (UInt64.toNat (UInt64.ofNat (UInt64.toNat x2*2 ^ Int.toNat (↑(UInt64.toNat (UInt64.ofInt n)):Int))) / 4294967296)->J (x-UInt64.ofNat (nat_lit 1)) H)/\(¬UInt64.ofNat (nat_lit 4294967296)<=x_1+UInt64.ofNat (UInt64.toNat (UInt64.ofNat (UInt64.toNat x2*2 ^ Int.toNat (↑(UInt64.toNat (UInt64.ofInt n)):Int))) / 2 ^ Int.toNat (↑(UInt64.toNat (UInt64.ofNat (nat_lit 32))):Int))->I (x-UInt64.ofNat (nat_lit 1)) (x_1+UInt64.ofNat (UInt64.toNat (UInt64.ofNat (UInt64.toNat x2*2 ^ Int.toNat (↑(UInt64.toNat (UInt64.ofInt n)):Int))) / 4294967296)) H/\μ (x-UInt64.ofNat (nat_lit 1)) (x_1+UInt64.ofNat (UInt64.toNat (UInt64.ofNat (UInt64.toNat x2*2 ^ Int.toNat (↑(UInt64.toNat (UInt64.ofInt n)):Int))) / 4294967296)) H<μ x x_1 H))/\(¬UInt64.ofNat (nat_lit 4294967296)<=x->(UInt64.ofNat (nat_lit 4294967296)*x_1+UInt64.ofNat (UInt64.toNat (UInt64.ofNat (UInt64.toNat x1*2 ^ Int.toNat (↑(UInt64.toNat (UInt64.ofInt n)):Int))) / 4294967296)<x*(UInt64.ofNat (UInt64.toNat x2*2 ^ Int.toNat (↑(UInt64.toNat (UInt64.ofInt n)):Int)) &&& UInt64.ofNat (nat_lit 4294967295))->(UInt64.ofNat (nat_lit 4294967296)<=x_1+UInt64.ofNat (UInt64.toNat (UInt64.ofNat (UInt64.toNat x2*2 ^ Int.toNat (↑(UInt64.toNat (UInt64.ofInt n)):Int))) / 4294967296)->J (x-UInt64.ofNat (nat_lit 1)) H)/\(¬UInt64.ofNat (nat_lit 4294967296)<=x_1+UInt64.ofNat (UInt64.toNat (UInt64.ofNat (UInt64.toNat x2*2 ^ Int.toNat (↑(UInt64.toNat (UInt64.ofInt n)):Int))) / 2 ^ Int.toNat (↑(UInt64.toNat (UInt64.ofNat (nat_lit 32))):Int))->I (x-UInt64.ofNat (nat_lit 1)) (x_1+UInt64.ofNat (UInt64.toNat (UInt64.ofNat (UInt64.toNat x2*2 ^ Int.toNat (↑(UInt64.toNat (UInt64.ofInt n)):Int))) / 4294967296)) H/\μ (x-UInt64.ofNat (nat_lit 1)) (x_1+UInt64.ofNat (UInt64.toNat (UInt64.ofNat (UInt64.toNat x2*2 ^ Int.toNat (↑(UInt64.toNat (UInt64.ofInt n)):Int))) / 4294967296)) H<μ x x_1 H))/\(¬UInt64.ofNat (nat_lit 4294967296)*x_1+UInt64.ofNat (UInt64.toNat (UInt64.ofNat (UInt64.toNat x1*2 ^ Int.toNat (↑(UInt64.toNat (UInt64.ofInt n)):Int))) / 2 ^ Int.toNat (↑(UInt64.toNat (UInt64.ofNat (nat_lit 32))):Int))<x*(UInt64.ofNat (UInt64.toNat x2*2 ^ Int.toNat (↑(UInt64.toNat (UInt64.ofInt n)):Int)) &&& UInt64.ofNat (nat_lit 4294967295))->J x H)))/\∀H x,J x H->UInt64.ofNat (UInt64.toNat (UInt64.ofNat (UInt64.toNat x2*2 ^ Int.toNat (↑(UInt64.toNat (UInt64.ofInt n)):Int))) / 4294967296)≠0/\∃(J:UInt64->Heap->Prop),(∃(I:UInt64->UInt64->Heap->Prop),∃(μ:UInt64->UInt64->Heap->Nat),I ((UInt64.ofNat (UInt64.toNat x0*2 ^ Int.toNat (↑(UInt64.toNat (UInt64.ofInt n)):Int)) ||| UInt64.ofNat (UInt64.toNat x1 / 2 ^ Int.toNat (↑(UInt64.toNat (UInt64.ofNat (nat_lit 64)-UInt64.ofInt n)):Int)))*UInt64.ofNat (nat_lit 4294967296)+UInt64.ofNat (UInt64.toNat (UInt64.ofNat (UInt64.toNat x1*2 ^ Int.toNat (↑(UInt64.toNat (UInt64.ofInt n)):Int))) / 4294967296)-x*UInt64.ofNat (UInt64.toNat x2*2 ^ Int.toNat (↑(UInt64.toNat (UInt64.ofInt n)):Int))-((UInt64.ofNat (UInt64.toNat x0*2 ^ Int.toNat (↑(UInt64.toNat (UInt64.ofInt n)):Int)) ||| UInt64.ofNat (UInt64.toNat x1 / 2 ^ Int.toNat (↑(UInt64.toNat (UInt64.ofNat (nat_lit 64)-UInt64.ofInt n)):Int)))*UInt64.ofNat (nat_lit 4294967296)+UInt64.ofNat (UInt64.toNat (UInt64.ofNat (UInt64.toNat x1*2 ^ Int.toNat (↑(UInt64.toNat (UInt64.ofInt n)):Int))) / 4294967296)-x*UInt64.ofNat (UInt64.toNat x2*2 ^ Int.toNat (↑(UInt64.toNat (UInt64.ofInt n)):Int))) / UInt64.ofNat (UInt64.toNat (UInt64.ofNat (UInt64.toNat x2*2 ^ Int.toNat (↑(UInt64.toNat (UInt64.ofInt n)):Int))) / 4294967296)*UInt64.ofNat (UInt64.toNat (UInt64.ofNat (UInt64.toNat x2*2 ^ Int.toNat (↑(UInt64.toNat (UInt64.ofInt n)):Int))) / 4294967296)) (((UInt64.ofNat (UInt64.toNat x0*2 ^ Int.toNat (↑(UInt64.toNat (UInt64.ofInt n)):Int)) ||| UInt64.ofNat (UInt64.toNat x1 / 2 ^ Int.toNat (↑(UInt64.toNat (UInt64.ofNat (nat_lit 64)-UInt64.ofInt n)):Int)))*UInt64.ofNat (nat_lit 4294967296)+UInt64.ofNat (UInt64.toNat (UInt64.ofNat (UInt64.toNat x1*2 ^ Int.toNat (↑(UInt64.toNat (UInt64.ofInt n)):Int))) / 4294967296)-x*UInt64.ofNat (UInt64.toNat x2*2 ^ Int.toNat (↑(UInt64.toNat (UInt64.ofInt n)):Int))) / UInt64.ofNat (UInt64.toNat (UInt64.ofNat (UInt64.toNat x2*2 ^ Int.toNat (↑(UInt64.toNat (UInt64.ofInt n)):Int))) / 4294967296)) H/\∀H x x_1,I x x_1 H->(UInt64.ofNat (nat_lit 4294967296)<=x_1->(UInt64.ofNat (nat_lit 4294967296)<=x+UInt64.ofNat (UInt64.toNat (UInt64.ofNat (UInt64.toNat x2*2 ^ Int.toNat (↑(UInt64.toNat (UInt64.ofInt n)):Int))) / 4294967296)->J (x_1-UInt64.ofNat (nat_lit 1)) H)/\(¬UInt64.ofNat (nat_lit 4294967296)<=x+UInt64.ofNat (UInt64.toNat (UInt64.ofNat (UInt64.toNat x2*2 ^ Int.toNat (↑(UInt64.toNat (UInt64.ofInt n)):Int))) / 2 ^ Int.toNat (↑(UInt64.toNat (UInt64.ofNat (nat_lit 32))):Int))->I (x+UInt64.ofNat (UInt64.toNat (UInt64.ofNat (UInt64.toNat x2*2 ^ Int.toNat (↑(UInt64.toNat (UInt64.ofInt n)):Int))) / 4294967296)) (x_1-UInt64.ofNat (nat_lit 1)) H/\μ (x+UInt64.ofNat (UInt64.toNat (UInt64.ofNat (UInt64.toNat x2*2 ^ Int.toNat (↑(UInt64.toNat (UInt64.ofInt n)):Int))) / 4294967296)) (x_1-UInt64.ofNat (nat_lit 1)) H<μ x x_1 H))/\(¬UInt64.ofNat (nat_lit 4294967296)<=x_1->(UInt64.ofNat (nat_lit 4294967296)*x+(UInt64.ofNat (UInt64.toNat x1*2 ^ Int.toNat (↑(UInt64.toNat (UInt64.ofInt n)):Int)) &&& UInt64.ofNat (nat_lit 4294967295))<x_1*(UInt64.ofNat (UInt64.toNat x2*2 ^ Int.toNat (↑(UInt64.toNat (UInt64.ofInt n)):Int)) &&& UInt64.ofNat (nat_lit 4294967295))->(UInt64.ofNat (nat_lit 4294967296)<=x+UInt64.ofNat (UInt64.toNat (UInt64.ofNat (UInt64.toNat x2*2 ^ Int.toNat (↑(UInt64.toNat (UInt64.ofInt n)):Int))) / 4294967296)->J (x_1-UInt64.ofNat (nat_lit 1)) H)/\(¬UInt64.ofNat (nat_lit 4294967296)<=x+UInt64.ofNat (UInt64.toNat (UInt64.ofNat (UInt64.toNat x2*2 ^ Int.toNat (↑(UInt64.toNat (UInt64.ofInt n)):Int))) / 2 ^ Int.toNat (↑(UInt64.toNat (UInt64.ofNat (nat_lit 32))):Int))->I (x+UInt64.ofNat (UInt64.toNat (UInt64.ofNat (UInt64.toNat x2*2 ^ Int.toNat (↑(UInt64.toNat (UInt64.ofInt n)):Int))) / 4294967296)) (x_1-UInt64.ofNat (nat_lit 1)) H/\μ (x+UInt64.ofNat (UInt64.toNat (UInt64.ofNat (UInt64.toNat x2*2 ^ Int.toNat (↑(UInt64.toNat (UInt64.ofInt n)):Int))) / 4294967296)) (x_1-UInt64.ofNat (nat_lit 1)) H<μ x x_1 H))/\(¬UInt64.ofNat (nat_lit 4294967296)*x+(UInt64.ofNat (UInt64.toNat x1*2 ^ Int.toNat (↑(UInt64.toNat (UInt64.ofInt n)):Int)) &&& UInt64.ofNat (nat_lit 4294967295))<x_1*(UInt64.ofNat (UInt64.toNat x2*2 ^ Int.toNat (↑(UInt64.toNat (UInt64.ofInt n)):Int)) &&& UInt64.ofNat (nat_lit 4294967295))->J x_1 H)))/\∀H x_1,J x_1 H->((0:Int)<=(↑(UInt64.toNat (UInt64.ofInt n)):Int)/\(↑(UInt64.toNat (UInt64.ofInt n)):Int)<(64:Int))/\R (.tuple #[.int .u64 (↑(UInt64.toNat (x*UInt64.ofNat (nat_lit 4294967296)+x_1)):Int),.int .u64 (↑(UInt64.toNat (UInt64.ofNat (UInt64.toNat (((UInt64.ofNat (UInt64.toNat x0*2 ^ Int.toNat (↑(UInt64.toNat (UInt64.ofInt n)):Int)) ||| UInt64.ofNat (UInt64.toNat x1 / 2 ^ Int.toNat (↑(UInt64.toNat (UInt64.ofNat (nat_lit 64)-UInt64.ofInt n)):Int)))*UInt64.ofNat (nat_lit 4294967296)+UInt64.ofNat (UInt64.toNat (UInt64.ofNat (UInt64.toNat x1*2 ^ Int.toNat (↑(UInt64.toNat (UInt64.ofInt n)):Int))) / 4294967296)-x*UInt64.ofNat (UInt64.toNat x2*2 ^ Int.toNat (↑(UInt64.toNat (UInt64.ofInt n)):Int)))*UInt64.ofNat (nat_lit 4294967296)+(UInt64.ofNat (UInt64.toNat x1*2 ^ Int.toNat (↑(UInt64.toNat (UInt64.ofInt n)):Int)) &&& UInt64.ofNat (nat_lit 4294967295))-x_1*UInt64.ofNat (UInt64.toNat x2*2 ^ Int.toNat (↑(UInt64.toNat (UInt64.ofInt n)):Int))) / 2 ^ Int.toNat (↑(UInt64.toNat (UInt64.ofInt n)):Int)))):Int)]) H)))):Ru 275 [.u x0,.u x1,.u x2] H R:=vcr ⟨fun|17=>some [(15,.u64),(16,.u64)]|24=>some [(16,.u64),(18,.u64)]|_=>none,fun|21=>some [(15,.u64)]|28=>some [(18,.u64)]|_=>none⟩ [.u64 x0,.u64 x1,.u64 x2] h
theorem v329 (x0:Int)(x1:Int)(x2 o2:Nat)(x3 o3:Nat)(x4 o4:Nat)(h:∃(I:Option Addr->Nat->Nat->Int->Heap->Prop),∃(μ:Option Addr->Nat->Nat->Int->Heap->Nat),I none 0 0 x0 H/\∀H a l c n,I a l c n H->(n<x1->∃a_3 l_1 c_1,rd H x2 o2=some (.slice a_3 l_1 c_1)/\∃b o,At a_3 b o/\((0:Int)<=n/\n<(↑l_1:Int))/\∃n_1,rd H b (o+n.toNat*5)=some (.i n_1)/\(¬n_1=7->∀H' q,New H [.i n] 3 H' q->∃new,new.length=1/\SlL H' (some ⟨q,0,none⟩) new/\App 1 8 3 [.i 0] H' a l c 1 new fun a' l' c' H'=>I64 (n+(1:Int))/\I a' l' c' (n+(1:Int)) H'/\μ a' l' c' (n+(1:Int)) H'<μ a l c n H)/\(¬¬n_1=7->∃v,rd H x3 o3=some v/\I64 (n+(1:Int))/\∃a_5 l_2 c_2,rd H x4 o4=some (.slice a_5 l_2 c_2)/\∃b o,At a_5 b o/\((0:Int)<=n/\n<(↑l_2:Int))/\∃n_2,rd H b (o+n.toNat)=some (.i n_2)/\∃g u v_1,v=.func (.func g) u v_1/\callable Tryz.prog g=true/\Ru g (Array.toList u++[.i (n+(1:Int)),.i n_2]++Array.toList v_1) H fun r H'=>∃a_6 l_3 c_3,r=.slice a_6 l_3 c_3/\((0:Int)<(↑l_3:Int)->∃a_8 l_4 c_4,rd H' x2 o2=some (.slice a_8 l_4 c_4)/\∃b o,At a_8 b o/\((0:Int)<=n/\n<(↑l_4:Int))/\∃x,rd H' b (o+n.toNat*5+4)=some (.u x)/\∃(I_1:Option Addr->Nat->Nat->UInt64->Heap->Prop),∃(μ_1:Option Addr->Nat->Nat->UInt64->Heap->Nat),I_1 a l c (UInt64.ofNat (nat_lit 0)) H'/\∀H_1 a_9 l_5 c_5 x_1,I_1 a_9 l_5 c_5 x_1 H_1->(x_1<x->∃new,new.length=l_3/\SlL H_1 a_6 new/\App 1 8 3 [.i 0] H_1 a_9 l_5 c_5 l_3 new fun a' l' c' H'=>I_1 a' l' c' (x_1+UInt64.ofNat (nat_lit 1)) H'/\μ_1 a' l' c' (x_1+UInt64.ofNat (nat_lit 1)) H'<μ_1 a_9 l_5 c_5 x_1 H_1)/\(¬x_1<x->∃a_12 l_6 c_6,rd H_1 x4 o4=some (.slice a_12 l_6 c_6)/\∃b o,At a_12 b o/\((0:Int)<=n/\n<(↑l_6:Int))/\∃n_3,rd H_1 b (o+n.toNat)=some (.i n_3)/\I64 (n_3+(1:Int))/\I a_9 l_5 c_5 (n_3+(1:Int)) H_1/\μ a_9 l_5 c_5 (n_3+(1:Int)) H_1<μ a l c n H))/\(¬(0:Int)<(↑l_3:Int)->∃a_8 l_4 c_4,rd H' x4 o4=some (.slice a_8 l_4 c_4)/\∃b o,At a_8 b o/\((0:Int)<=n/\n<(↑l_4:Int))/\∃n_3,rd H' b (o+n.toNat)=some (.i n_3)/\I64 (n_3+(1:Int))/\I a l c (n_3+(1:Int)) H'/\μ a l c (n_3+(1:Int)) H'<μ a l c n H)))/\(¬n<x1->R (.slice a l c) H)):Ru 329 [.i x0,.i x1,.p x2 o2,.p x3 o3,.p x4 o4] H R:=vcr ⟨fun|3=>some [(8,.slc),(9,.int .i64)]|10=>some [(8,.slc),(43,.u64)]|_=>none,fun _=>none⟩ [.int .i64 x0,.int .i64 x1,.ptr x2 o2,.ptr x3 o3,.ptr x4 o4] h
end Go.VC
namespace Go.VC
open Go Go.Proofs
variable {H:Heap}{R:Value->Heap->Prop}
abbrev Held:=Option (Nat × List UInt64)
def slotW (x:Nat):Held->List UInt64
 | none=>List.replicate (x+1) 0
 | some (t,xs)=>UInt64.ofNat (t+1) ::xs
def tagOf:Held->Int
 | none=>-1
 | some (t,_)=>t
def HeldOk (x:Nat):Held->Prop
 | none=>True
 | some (t,xs)=>t<65536/\xs.length=x
theorem slotW_length {x:Nat}{s:Held}(h:HeldOk x s):(slotW x s).length=x+1:=by
 cases s with
 | none=>simp[slotW]
 | some p=>have:=h.2;simp[slotW,this]
def slotsW (x:Nat)(l:List Held):List UInt64:=l.flatMap (slotW x)
theorem slotsW_length {x:Nat}:∀{l:List Held},(∀s∈l,HeldOk x s)->(slotsW x l).length=l.length*(x+1)
 | [],_=>by simp[slotsW]
 | s ::l,h=>by
  have ih:=slotsW_length (x:=x) (l:=l) fun t ht=>h t (List.mem_cons_of_mem _ ht)
  have h1:=slotW_length (h s (List.mem_cons_self ..))
  simp only[slotsW] at ih
  rw[slotsW,List.flatMap_cons,List.length_append,ih,h1,List.length_cons,Nat.add_mul,Nat.one_mul];omega
theorem slotsW_split {x k:Nat}{l:List Held}(hk:k<l.length):slotsW x l=slotsW x (l.take k)++slotW x l[k]++slotsW x (l.drop (k+1)):=by
 have h:l=l.take k++l[k] ::l.drop (k+1):=by rw[<-List.drop_eq_getElem_cons hk,List.take_append_drop]
 exact (congrArg (slotsW x) h).trans (by simp only[slotsW,List.flatMap_append,List.flatMap_cons,List.append_assoc])
theorem slotsW_set {x k:Nat}{l:List Held}(hk:k<l.length)(s:Held):slotsW x (l.set k s)=slotsW x (l.take k)++slotW x s++slotsW x (l.drop (k+1)):=by
 rw[List.set_eq_take_append_cons_drop,if_pos hk]
 simp[slotsW]
theorem over_mid {α:Type}(a b c b':List α)(n:Nat)(hn:n=a.length)(hb:b'.length=b.length):over (a++b++c) n b'=a++b'++c:=by
 subst hn
 unfold over
 have h1:(a++b++c).take a.length=a:=by rw[List.append_assoc,List.take_left]
 have h2:(a++b++c).drop (a.length+b'.length)=c:=by rw[hb,<-List.length_append,List.drop_left]
 rw[h1,h2]
theorem part_mid {α:Type}(a b c:List α)(n m:Nat)(hn:n=a.length)(hm:m=b.length):((a++b++c).drop n).take m=b:=by
 subst hn hm;rw[List.append_assoc,List.drop_left,List.take_left]
def slotsC (from_ n x:Nat)(ba:Nat):List Value:=[.int .i64 (from_:Int),.int .i64 (n:Int),.int .i64 (x:Int),.pointer (some ⟨ba,0,none⟩)]
structure Shelf (H:Heap)(bs ba bw:Nat)(pre:List UInt64)(l:List Held)(post:List UInt64)(x given:Nat):Prop where
 top:RdL H bs 0 (slotsC pre.length l.length x ba)
 ar:Arena H ba bw (pre++slotsW x l++post) given
 le:pre.length+l.length*(x+1)<=given
 x1:1<=x
 x2:x<=64
 ok:∀s∈l,HeldOk x s
 off:bs≠ba/\bs≠bw
theorem Shelf.mod {S:List Nat}{H H':Heap}{bs ba bw:Nat}{pre post:List UInt64}{l:List Held}{x given:Nat}(h:Shelf H bs ba bw pre l post x given)(k:Mod S H H')(h1:ba∉S)(h2:bw∉S)(h3:bs∉S) :
  Shelf H' bs ba bw pre l post x given:=⟨k.rdL h3 h.top,h.ar.mod k h1 h2,h.le,h.x1,h.x2,h.ok,h.off⟩
theorem Shelf.rd {H:Heap}{bs ba bw:Nat}{pre post:List UInt64}{l:List Held}{x given:Nat}(h:Shelf H bs ba bw pre l post x given)(j:Nat){v:Value}(hj:(slotsC pre.length l.length x ba)[j]?=some v):rd H bs j=some v:=by
 have:=rdL_get' h.top hj;rwa [Nat.zero_add] at this
theorem Shelf.cs {H:Heap}{bs ba bw:Nat}{pre post:List UInt64}{l:List Held}{x given:Nat}(h:Shelf H bs ba bw pre l post x given):RdL H bs 0 [.int .i64 (pre.length:Int),.int .i64 (l.length:Int),.int .i64 (x:Int)]:=⟨h.top.1,h.top.2.1,h.top.2.2.1,trivial⟩
theorem Shelf.bound {H:Heap}{bs ba bw:Nat}{pre post:List UInt64}{l:List Held}{x given:Nat}(h:Shelf H bs ba bw pre l post x given):given<=1048576/\(pre++slotsW x l++post).length=pre.length+l.length*(x+1)+post.length:=by
 refine⟨Nat.le_trans h.ar.le h.ar.few,?_⟩
 rw[List.length_append,List.length_append,slotsW_length h.ok]
theorem mul_lt_of {k n w m:Nat}(hk:k<n)(h:n*w<=m):k*w+w<=m:=by
 have:=Nat.mul_le_mul_right w (show k+1<=n from hk)
 rw[Nat.add_mul,Nat.one_mul] at this;omega
theorem c175 (f n x:Int)(h0:0<=n)(h1:n<=1048576)(h2:1<=x)(h3:x<=64)(k:∀H',Ext H H'->R (.bool true) H'):Ru 175 [.agg #[.int .i64 f,.int .i64 n,.int .i64 x]] H R:=
 v175 [.int .i64 f,.int .i64 n,.int .i64 x] fun H' p m=>⟨_,m.rd 1,fun _=>⟨_,m.rd 1,fun _=>⟨_,m.rd 2,fun _=>⟨_,m.rd 2,by rw[decide_eq_true h3];exact k _ m.mod⟩,by omega⟩,by omega⟩,by omega⟩
theorem c176 (f n x:Int)(h2:0<=x)(h3:x<=64)(k:∀H',Ext H H'->R (.int .i64 (x+1)) H'):Ru 176 [.agg #[.int .i64 f,.int .i64 n,.int .i64 x]] H R:=
 v176 [.int .i64 f,.int .i64 n,.int .i64 x] fun H' p m=>⟨_,m.rd 2,⟨by omega,by omega⟩,k _ m.mod⟩
theorem c195 (f n x k':Nat)(h3:x<=64)(hb:f+k'*(x+1)<=1048576)(k:∀H',Ext H H'->R (.int .i64 ((f+k'*(x+1):Nat):Int)) H') :
  Ru 195 [.agg #[.int .i64 (f:Int),.int .i64 (n:Int),.int .i64 (x:Int)],.int .i64 (k':Int)] H R:=by
 refine v195 [.int .i64 (f:Int),.int .i64 (n:Int),.int .i64 (x:Int)] _ fun H' p m=>⟨_,m.rd 0,_,rfl,m.rdL,c176 _ _ _ (by omega) (by omega) fun H'' e=>⟨_,rfl,e.rd (by simp) (m.rd 0),?_⟩⟩
 have hz:(k':Int)*((x:Int)+1)=((k'*(x+1):Nat):Int):=by push_cast;rfl
 rw[hz]
 refine⟨⟨by omega,by omega⟩,⟨by omega,by omega⟩,?_⟩
 have:=k _ (m.mod.thenExt e)
 push_cast at this ⊢;exact this
theorem c354 (f n x k':Int)(h0:0<=k')(h1:k'<n)(k:∀H',Ext H H'->R (.bool true) H'):Ru 354 [.agg #[.int .i64 f,.int .i64 n,.int .i64 x],.int .i64 k'] H R:=
 v354 [.int .i64 f,.int .i64 n,.int .i64 x] _ fun H' p m=>⟨fun _=>⟨_,m.rd 1,by rw[decide_eq_true h1];exact k _ m.mod⟩,by omega⟩
def firstW:Held->UInt64
 | none=>0
 | some (t,_)=>UInt64.ofNat (t+1)
theorem slotW_cons (x:Nat)(s:Held):∃r,slotW x s=firstW s ::r:=by
 cases s with
 | none=>exact⟨_,by simp only[slotW,List.replicate_succ];rfl⟩
 | some p=>exact⟨p.2,rfl⟩
theorem shelf_split {x k:Nat}{pre post:List UInt64}{l:List Held}(hk:k<l.length)(ok:∀s∈l,HeldOk x s) :
  ∃a c,pre++slotsW x l++post=a++slotW x l[k]++c/\a.length=pre.length+k*(x+1)/\∀s,pre++slotsW x (l.set k s)++post=a++slotW x s++c:=by
 refine⟨pre++slotsW x (l.take k),slotsW x (l.drop (k+1))++post,?_,?_,fun s=>?_⟩
 ·rw[slotsW_split hk];simp only[List.append_assoc]
 ·rw[List.length_append,slotsW_length fun s hs=>ok s (List.mem_of_mem_take hs),List.length_take,Nat.min_eq_left (by omega)]
 ·rw[slotsW_set hk];simp only[List.append_assoc]
theorem c315 {bs ba bw:Nat}{pre post:List UInt64}{l:List Held}{x given:Nat}(h:Shelf H bs ba bw pre l post x given)(k:Nat)(hk:k<l.length)(g:FuncId)(u v:Array Value)(hg:callable Tryz.prog g=true)
  (K:∀H',Ext H H'->Ru g (u.toList++[.int .u64 ((firstW l[k]).toNat:Int),.int .i64 ((pre.length+k*(x+1):Nat):Int)]++v.toList) H' fun r H'=>∃n,r=.int .i64 n/\R (.int .i64 n) H') :
  Ru 315 [.pointer (some ⟨bs,0,none⟩),.int .i64 (k:Int),.func (.func g) u v] H R:=by
 have hb:=h.bound
 have hle:=h.le
 have hx2:=h.x2
 have hal:=h.ar.le
 have hm:=mul_lt_of hk (Nat.le_refl (l.length*(x+1)))
 refine v315 _ _ _ _ ⟨_,rfl,h.cs,c354 _ _ _ _ (by omega) (by omega) fun H1 e1=>⟨_,rfl,(by simp),fun _=>⟨_,e1.rd (by simp) (h.rd 3 rfl),_,rfl,e1.rdL (by simp) h.cs,?_⟩⟩⟩
 refine c195 _ _ _ _ hx2 (by omega) fun H2 e2=>⟨_,rfl,(e1.thenExt e2).rd (by simp) (h.rd 3 rfl),?_⟩
 refine c194 (h.ar.mod (e1.thenExt e2) (by simp) (by simp)) _ (by omega) fun H3 e3=>⟨_,_,rfl,_,rfl,((e1.thenExt e2).thenExt e3).rdL (by simp) h.cs,?_⟩
 refine c195 _ _ _ _ hx2 (by omega) fun H4 e4=>⟨_,rfl,g,u,v,rfl,hg,?_⟩
 have:=K H4 (((e1.thenExt e2).thenExt e3).thenExt e4)
 obtain⟨a,c,e,ha,_⟩:=shelf_split (pre:=pre) (post:=post) hk h.ok
 obtain⟨r,hr⟩:=slotW_cons x l[k]
 have hf:(pre++slotsW x l++post)[pre.length+k*(x+1)]'(by omega)=firstW l[k]:=by
  rw[List.getElem_of_eq e (by omega)]
  simp only[hr,<-ha]
  simp
 rw[hf];exact this
theorem c120 {bs ba bw:Nat}{pre post:List UInt64}{l:List Held}{x given:Nat}(h:Shelf H bs ba bw pre l post x given)
  (K:∀a' c' H',Buf 1 H' H.size a' l.length c' (i64s (l.map tagOf))->Ext H H'->R (.slice a' l.length c') H'):Ru 120 [.pointer (some ⟨bs,0,none⟩)] H R:=by
 have hb:=h.bound
 have hle:=h.le
 have hx2:=h.x2
 have hal:=h.ar.le
 have hml:=Nat.le_mul_of_pos_right l.length (show 0<x+1 by omega)
 refine v120 _ _ ⟨_,h.rd 1 rfl,fun a m c i H'=>∃k:Nat,i=k/\k<=l.length/\m=k/\Buf 1 H' H.size a k c (i64s ((l.map tagOf).take k))/\Ext H H',fun _ _ _ i _=>(l.length-i).toNat,⟨0,rfl,by omega,rfl,Buf.nil,Mod.refl⟩,?_⟩
 rintro H1 a k c _ ⟨_,rfl,hkl,rfl,hB,e1⟩
 refine⟨fun hlt=>?_,fun hge=>?_⟩
 ·have hk:k<l.length:=by omega
  have hm:=mul_lt_of hk (Nat.le_refl (l.length*(x+1)))
  refine⟨_,e1.rd (by simp) (h.rd 3 rfl),_,rfl,e1.rdL (by simp) h.cs,?_⟩
  refine c195 _ _ _ _ hx2 (by omega) fun H2 e2=>⟨_,rfl,(e1.thenExt e2).rd (by simp) (h.rd 3 rfl),?_⟩
  refine c194 (h.ar.mod (e1.thenExt e2) (by simp) (by simp)) _ (by omega) fun H3 e3=>?_
  obtain⟨a',c',e,ha,_⟩:=shelf_split (pre:=pre) (post:=post) hk h.ok
  obtain⟨r,hr⟩:=slotW_cons x l[k]
  have hf:(pre++slotsW x l++post)[pre.length+k*(x+1)]'(by omega)=firstW l[k]:=by
   rw[List.getElem_of_eq e (by omega)]
   simp only[hr,<-ha]
   simp
  rw[hf]
  have hF:((firstW l[k]).toNat:Int)-1=tagOf l[k]/\(firstW l[k]).toNat<=65536:=by
   have hok:=h.ok _ (List.getElem_mem hk)
   cases he:l[k] with
   | none=>simp[firstW,tagOf]
   | some p=>
    rw[he] at hok
    have h1:=hok.1
    have:(UInt64.ofNat (p.1+1)).toNat=p.1+1:=by rw[UInt64.toNat_ofNat'];omega
    simp only[firstW,tagOf,this]
    omega
  refine⟨_,_,rfl,by omega,⟨by omega,by omega⟩,fun H4 q n4=>⟨i64s [tagOf l[k]],rfl,.inr ⟨q,0,rfl,by rw[hF.1] at n4;exact n4.rdL⟩,?_⟩⟩
  have e4:Ext H H4:=((e1.thenExt e2).thenExt e3).new n4
  have hB4:=hB.ext (((Mod.refl (S:=[])).thenExt e2).thenExt e3 |>.new n4)
  refine hB4.app e4.1 rfl rfl i64s_one (by omega) (by omega) fun a5 c5 H5 S hB5 hm5 hs5=>⟨⟨by omega,by omega⟩,⟨k+1,by push_cast;rfl,by omega,rfl,?_,e4.trans_new hm5 fun b hb=>.inr (hs5 b hb)⟩,by dsimp only;omega⟩
  rw[List.take_succ_eq_append_getElem (by simpa using hk)]
  simpa using hB5
 ·have hk:k=l.length:=by omega
  subst hk
  rw[List.take_of_length_le (by simp)] at hB
  exact K _ _ _ hB e1
end Go.VC
namespace Go.VC
open Go Go.Proofs
variable {H:Heap}{R:Value->Heap->Prop}
theorem Shelf.set {H H':Heap}{bs ba bw:Nat}{pre post:List UInt64}{l:List Held}{x given:Nat}(h:Shelf H bs ba bw pre l post x given){k:Nat}(hk:k<l.length){s:Held}(hs:HeldOk x s)
  (ha:Arena H' ba bw (over (pre++slotsW x l++post) (pre.length+k*(x+1)) (slotW x s)) given) (hm:Mod [bw] H H'):Shelf H' bs ba bw pre (l.set k s) post x given:=by
 obtain⟨a,c,e,hal,e2⟩:=shelf_split (pre:=pre) (post:=post) hk h.ok
 refine⟨?_,?_,by rw[List.length_set];exact h.le,h.x1,h.x2,?_,h.off⟩
 ·rw[List.length_set];exact hm.rdL (by simp[h.off.2]) h.top
 ·rw[e2 s,<-over_mid a (slotW x l[k]) c (slotW x s) _ hal.symm (by rw[slotW_length hs,slotW_length (h.ok _ (List.getElem_mem hk))]),<-e];exact ha
 ·intro t ht
  rcases List.mem_or_eq_of_mem_set ht with h1|rfl
  ·exact h.ok t h1
  ·exact hs
theorem firstW_none {s:Held}{x:Nat}(h:HeldOk x s):firstW s=0<->s=none:=by
 cases s with
 | none=>simp[firstW]
 | some p=>
  simp only[firstW,reduceCtorEq,iff_false]
  intro e
  have:=congrArg UInt64.toNat e
  have h1:=h.1
  rw[UInt64.toNat_ofNat'] at this
  simp at this;omega
theorem ofInt_nat (n:Nat):UInt64.ofInt (n:Int)=UInt64.ofNat n:=by
 apply UInt64.toNat_inj.1
 rw[UInt64.ofInt,UInt64.toNat_ofNat',UInt64.toNat_ofNat']
 omega
theorem c242 {bs ba bw:Nat}{pre post:List UInt64}{l:List Held}{x given:Nat}(h:Shelf H bs ba bw pre l post x given)(k:Nat)(hk:k<l.length)(hn:l[k]=none)(t:Nat)(ht:t<65536)
  {a:Option Addr} {c:Nat} {xs:List UInt64} (hx:RowU H a x xs)
  (K:∀(r:Int) (H':Heap),Shelf H' bs ba bw pre (l.set k (some (t,xs))) post x given->Mod [bw] H H'->R (.int .i64 r) H'):Ru 242 [.pointer (some ⟨bs,0,none⟩),.int .i64 (k:Int),.int .i64 (t:Int),.slice a x c] H R:=by
 have hb:=h.bound
 have hle:=h.le
 have hx2:=h.x2
 have hal:=h.ar.le
 have hm:=mul_lt_of hk (Nat.le_refl (l.length*(x+1)))
 refine v242 _ _ _ _ _ _ _ fun H1 p n1 H2 p1 n2 H3 p2 n3=>⟨_,(n2.mod.new n3).rd (by simp) (n1.rd 0),?_⟩
 have e3:Ext H H3:=(n1.mod.new n2).new n3
 refine c315 (h.mod e3 (by simp) (by simp) (by simp)) k hk 316 _ _ (by kernel_rfl) fun H4 e4=>?_
 have e34:=e3.thenExt e4
 have rp:rd H4 p 0=some (.pointer (some ⟨bs,0,none⟩)):=e4.rd (by simp) ((n2.mod.new n3).rd (by simp) (n1.rd 0))
 have rp1:rd H4 p1 0=some (.int .i64 (t:Int)):=e4.rd (by simp) (n3.mod.rd (by simp) (n2.rd 0))
 have rp2:rd H4 p2 0=some (.slice a x c):=e4.rd (by simp) (n3.rd 0)
 have rb:=fun j v (hj:(slotsC pre.length l.length x ba)[j]?=some v)=>e34.rd (by simp) (h.rd j hj)
 have h0:firstW l[k]=0:=by rw[hn];rfl
 refine v316 _ _ _ _ _ _ _ _ ⟨_,rp1,by omega,fun _=>⟨_,rp1,by omega,fun _=>⟨_,_,_,rp2,_,rp,_,_,rfl,_,by rw[Nat.zero_add];exact rb 2 _ rfl,by omega,fun _=>⟨fun h1=>(h1 h0).elim,fun _=>?_⟩⟩⟩⟩
 refine⟨_,rp,_,_,rfl,_,by rw[Nat.zero_add];exact rb 3 _ rfl,_,rp1,⟨by omega,by omega⟩,_,_,_,rp2,fun H5 q n5=>⟨n5.mod.rd (by simp) rp2,?_,n5.mod.rd (by simp) rp,u64s xs,by simp[hx.len],((e34.new n5).row Off.nil hx).2,?_⟩⟩
 ·rw[Nat.zero_add];exact n5.mod.rd (by simp) (rb 3 _ rfl)
 ·have hone:[Value.int .u64 ((UInt64.ofInt ((t:Int)+1)).toNat:Int)]=u64s [UInt64.ofNat (t+1)]:=by
   simp only[u64s,List.map_cons,List.map_nil]
   rw[show ((t:Int)+1)=((t+1:Nat):Int) from by push_cast;rfl,ofInt_nat]
  rw[hone] at n5
  refine (n5.buf (sz:=1) (l:=1) rfl).app n5.mod.1 (by simp[hx.len]) rfl u64s_one (by omega) (by omega) fun a6 c6 H6 S hB hm6 hs6=>?_
  have m6:Mod [] H4 H6:=n5.mod.trans_new hm6 fun b hb=>.inr (hs6 b hb)
  rw[<-u64s_append] at hB
  refine⟨by rw[Nat.zero_add];exact m6.rd (by simp) (rb 3 _ rfl),m6.rd (by simp) rp,?_⟩
  refine c177 (xs:=UInt64.ofNat (t+1) ::xs) (h.ar.mod (e34.thenExt m6) (by simp) (by simp)) _ hB.row (by omega) fun H7 hA hm7=>⟨_,rfl,_,rfl,_,rfl,?_⟩
  have m7:Mod [bw] H H7:=(Mod.ext (e34.thenExt m6)).trans hm7
  exact K _ _ (h.set hk ⟨ht,hx.len⟩ hA m7) m7
theorem c243 {bs ba bw:Nat}{pre post:List UInt64}{l:List Held}{x given:Nat}(h:Shelf H bs ba bw pre l post x given)(k:Nat)(hk:k<l.length){t:Nat}{xs:List UInt64}(hn:l[k]=some (t,xs))
  (K:∀a c H',Buf 1 H' H.size a x c (u64s xs)->Ext H H'->R (.tuple #[.int .i64 (t:Int),.slice a x c,.int .i64 0]) H'):Ru 243 [.pointer (some ⟨bs,0,none⟩),.int .i64 (k:Int)] H R:=by
 have hb:=h.bound
 have hle:=h.le
 have hx2:=h.x2
 have hal:=h.ar.le
 have hm:=mul_lt_of hk (Nat.le_refl (l.length*(x+1)))
 have hok:=h.ok _ (List.getElem_mem hk)
 refine v243 _ _ _ fun H1 p n1 H2 p1 n2 H3 p2 n3=>⟨_,(n2.mod.new n3).rd (by simp) (n1.rd 0),?_⟩
 have e3:Ext H H3:=(n1.mod.new n2).new n3
 refine c315 (h.mod e3 (by simp) (by simp) (by simp)) k hk 317 _ _ (by kernel_rfl) fun H4 e4=>?_
 have e34:=e3.thenExt e4
 have rp:rd H4 p 0=some (.pointer (some ⟨bs,0,none⟩)):=e4.rd (by simp) ((n2.mod.new n3).rd (by simp) (n1.rd 0))
 have o1:Own H4 p1 [.int .i64 0]:=(n2.own.mod n3.mod (by simp)).mod e4 (by simp)
 have o2:Own H4 p2 [.slice none 0 0]:=n3.own.mod e4 (by simp)
 have rb:=fun j v (hj:(slotsC pre.length l.length x ba)[j]?=some v)=>e34.rd (by simp) (h.rd j hj)
 have g0:=n1.ge;have g1:=n2.ge;have g2:=n3.ge;have l0:=n1.lt;have l1:=n2.lt;have l2:=n3.lt;have z4:=e4.1
 have hbs:=rd_lt (h.rd 0 rfl)
 have h0:¬firstW l[k]=0:=by rw[firstW_none hok,hn];simp
 have hF:(firstW l[k]).toNat=t+1:=by rw[hn] at hok ⊢;have:=hok.1;simp only[firstW];rw[UInt64.toNat_ofNat'];omega
 have ht:t<65536:=by rw[hn] at hok;exact hok.1
 refine v317 _ _ _ _ _ _ _ _ ⟨fun h1=>(h0 h1).elim,fun _=>⟨by omega,⟨by omega,by omega⟩,o1.w 0 1 rfl,?_⟩⟩
 rintro _ rfl
 have hv:((firstW l[k]).toNat:Int)-1=(t:Int):=by omega
 rw[hv]
 have m5:Mod [p1] H4 (wr H4 p1 0 (.int .i64 (t:Int))):=Mod.refl.wr (.inl (by simp))
 have hp:p∉[p1]:=by simp;omega
 have hbs':bs∉[p1]:=by simp;omega
 refine⟨_,m5.rd hp rp,_,_,rfl,_,by rw[Nat.zero_add];exact m5.rd hbs' (rb 3 _ rfl),⟨by omega,by omega⟩,_,m5.rd hp rp,_,_,rfl,_,by rw[Nat.zero_add];exact m5.rd hbs' (rb 2 _ rfl),?_⟩
 have ha5:Arena (wr H4 p1 0 (.int .i64 (t:Int))) ba bw (pre++slotsW x l++post) given:=by
  have hA:=h.ar.mod e34 (by simp) (by simp)
  have h1:=h.ar.lt;have h2:=h.ar.row.lt (by intro e;have:=congrArg List.length e;rw[u64s_length,hb.2,List.length_nil] at this;omega)
  exact hA.mod m5 (by simp;omega) (by simp;omega)
 have hat:((pre.length+k*(x+1):Nat):Int)+1=((pre.length+k*(x+1)+1:Nat):Int):=by push_cast;rfl
 rw[hat]
 refine c183 ha5 _ _ (by omega) fun a6 c6 H6 hB e6=>⟨_,_,_,_,rfl,(o2.mod (m5.thenExt e6) (by simp;omega)).w 0 1 rfl,?_⟩
 rintro _ rfl
 have o1':Own H6 p1 [.int .i64 (t:Int)]:=(o1.wr 0 _).mod e6 (by simp)
 have o2':Own H6 p2 [.slice none 0 0]:=o2.mod (m5.thenExt e6) (by simp;omega)
 have m7:Mod [p2] H6 (wr H6 p2 0 (.slice a6 x c6)):=Mod.refl.wr (.inl (by simp))
 have o1'':=o1'.mod m7 (by simp;omega)
 have o2'':=o2'.wr 0 (.slice a6 x c6)
 refine⟨_,rfl,_,rfl,_,o1''.rd 0 rfl,_,_,_,o2''.rd 0 rfl,o1''.w 0 1 rfl,?_⟩
 rintro _ rfl
 have m8:Mod [p1] _ _:=(Mod.refl (S:=[p1]) (H:=wr H6 p2 0 (.slice a6 x c6))).wr (b:=p1) (o:=0) (v:=.int .i64 (t:Int)) (.inl (by simp))
 have o1x:=o1''.wr 0 (.int .i64 (t:Int))
 have o2x:=o2''.mod m8 (by simp;omega)
 refine⟨o2x.rd 0 rfl,o2x.w 0 1 rfl,?_⟩
 rintro _ rfl
 have m9:Mod [p2] _ _:=(Mod.refl (S:=[p2]) (H:=wr (wr H6 p2 0 (.slice a6 x c6)) p1 0 (.int .i64 (t:Int)))).wr (b:=p2) (o:=0) (v:=.slice a6 x c6) (.inl (by simp))
 refine⟨_,(o1x.mod m9 (by simp;omega)).rd 0 rfl,_,_,_,(o2x.wr 0 _).rd 0 rfl,?_⟩
 have hpart:((pre++slotsW x l++post).drop (pre.length+k*(x+1)+1)).take x=xs:=by
  obtain⟨a,c,e,hal,_⟩:=shelf_split (pre:=pre) (post:=post) hk h.ok
  rw[e,hn,<-hal]
  have hxl:xs.length=x:=by rw[hn] at hok;exact hok.2
  have:a++slotW x (some (t,xs))++c=(a++[UInt64.ofNat (t+1)])++xs++c:=by simp[slotW]
  rw[this];exact part_mid _ _ _ _ _ (by simp) hxl.symm
 rw[hpart] at hB
 have z6:=e6.1
 rw[wr_size] at z6
 have mAll:Mod [p2,p1] H6 (wr (wr (wr H6 p2 0 (.slice a6 x c6)) p1 0 (.int .i64 (t:Int))) p2 0 (.slice a6 x c6)):=((Mod.refl.wr (.inl (by simp))).wr (.inl (by simp))).wr (.inl (by simp))
 refine K _ _ _ ((hB.mod mAll ?_).down (by rw[wr_size];have:=e34.1;omega)) ?_
 ·intro b hb';rw[wr_size];simp at hb';omega
 ·have hA:Mod [] H H6:=(e34.trans_new m5 (by simp;omega)).thenExt e6
  exact hA.trans_new mAll (by simp;omega)
theorem c244 {bs ba bw:Nat}{pre post:List UInt64}{l:List Held}{x given:Nat}(h:Shelf H bs ba bw pre l post x given)(k:Nat)(hk:k<l.length)(hn:l[k]≠none)
  (K:∀H',Shelf H' bs ba bw pre (l.set k none) post x given->Mod [bw] H H'->R (.int .i64 0) H'):Ru 244 [.pointer (some ⟨bs,0,none⟩),.int .i64 (k:Int)] H R:=by
 have hb:=h.bound
 have hle:=h.le
 have hx2:=h.x2
 have hal:=h.ar.le
 have hm:=mul_lt_of hk (Nat.le_refl (l.length*(x+1)))
 have hok:=h.ok _ (List.getElem_mem hk)
 refine v244 _ _ _ fun H1 p n1=>⟨_,n1.rd 0,?_⟩
 refine c315 (h.mod n1.mod (by simp) (by simp) (by simp)) k hk 318 _ _ (by kernel_rfl) fun H4 e4=>?_
 have e34:=n1.mod.thenExt e4
 have rp:rd H4 p 0=some (.pointer (some ⟨bs,0,none⟩)):=e4.rd (by simp) (n1.rd 0)
 have rb:=fun j v (hj:(slotsC pre.length l.length x ba)[j]?=some v)=>e34.rd (by simp) (h.rd j hj)
 refine v318 _ _ _ _ ⟨fun h1=>(hn ((firstW_none hok).1 h1)).elim,fun _=>⟨_,rp,_,_,rfl,_,by rw[Nat.zero_add];exact rb 3 _ rfl,_,rp,_,_,rfl,_,rfl,e34.rdL (by simp) h.cs,?_⟩⟩
 refine c176 _ _ _ (by omega) (by omega) fun H5 e5=>⟨_,rfl,by rw[Nat.zero_add];exact e5.rd (by simp) (rb 3 _ rfl),e5.rd (by simp) rp,⟨by omega,by omega,by omega,by omega,by omega⟩,fun H6 q n6=>?_⟩
 have e56:=e5.new n6
 rw[show ((x:Int)+1).toNat=x+1 from by omega,rep_u64] at n6
 refine⟨by rw[Nat.zero_add];exact e56.rd (by simp) (rb 3 _ rfl),e56.rd (by simp) rp,?_⟩
 rw[show ((x:Int)+1).toNat=x+1 from by omega]
 refine c177 (xs:=List.replicate (x+1) 0) (h.ar.mod (e34.thenExt e56) (by simp) (by simp)) _ ⟨by simp,.inr ⟨q,0,rfl,n6.rdL⟩⟩ (by omega) fun H7 hA hm7=>⟨_,rfl,_,rfl,_,rfl,?_⟩
 have m7:Mod [bw] H H7:=(Mod.ext (e34.thenExt e56)).trans hm7
 exact K _ (h.set hk (s:=none) trivial hA m7) m7
end Go.VC
namespace Go.VC
open Go Go.Proofs
variable {H:Heap}{R:Value->Heap->Prop}
theorem mask32 (x:UInt64):(x &&& UInt64.ofNat 4294967295).toNat=x.toNat % 4294967296:=by
 rw[UInt64.toNat_and]
 have:(UInt64.ofNat 4294967295).toNat=2 ^ 32-1:=rfl
 rw[this,Nat.and_two_pow_sub_one_eq_mod]
theorem ofNat_toNat {n:Nat}(h:n<18446744073709551616):(UInt64.ofNat n).toNat=n:=by rw[UInt64.toNat_ofNat'];omega
theorem c208 (x y:UInt64)(k:R (.tuple #[.int .u64 ((UInt64.ofNat (x.toNat*y.toNat / 18446744073709551616)).toNat:Int),.int .u64 ((x*y).toNat:Int)]) H) :
  Ru 208 [.int .u64 (x.toNat:Int),.int .u64 (y.toNat:Int)] H R:=by
 refine v208 _ _ ⟨by omega,by omega,by omega,by omega,by omega,?_⟩
 have hx:=x.toNat_lt;have hy:=y.toNat_lt
 have hxl:=mask32 x;have hyl:=mask32 y
 have d1:(UInt64.ofNat (x.toNat / 4294967296)).toNat=x.toNat / 4294967296:=ofNat_toNat (by omega)
 have d2:(UInt64.ofNat (y.toNat / 4294967296)).toNat=y.toNat / 4294967296:=ofNat_toNat (by omega)
 have bnd:∀a b:Nat,a<4294967296->b<4294967296->a*b<=18446744065119617025:=fun a b ha hb=>Nat.mul_le_mul (show a<=4294967295 by omega) (show b<=4294967295 by omega)
 have e:UInt64.ofNat (x.toNat*y.toNat / 18446744073709551616)=UInt64.ofNat (UInt64.toNat x / 4294967296)*UInt64.ofNat (UInt64.toNat y / 4294967296)+UInt64.ofNat (UInt64.toNat (UInt64.ofNat
   (UInt64.toNat x / 4294967296)*(y &&& UInt64.ofNat (nat_lit 4294967295))+UInt64.ofNat (UInt64.toNat ((x &&& UInt64.ofNat (nat_lit 4294967295))*(y &&& UInt64.ofNat (nat_lit 4294967295))) / 4294967296)) /
   4294967296)+UInt64.ofNat (UInt64.toNat ((UInt64.ofNat (UInt64.toNat x / 4294967296)*(y &&& UInt64.ofNat (nat_lit 4294967295))+UInt64.ofNat (UInt64.toNat ((x &&& UInt64.ofNat (nat_lit 4294967295))*(y &&&
   UInt64.ofNat (nat_lit 4294967295))) / 4294967296) &&& UInt64.ofNat (nat_lit 4294967295))+(x &&& UInt64.ofNat (nat_lit 4294967295))*UInt64.ofNat (UInt64.toNat y / 4294967296)) / 4294967296):=by
  generalize hA:UInt64.ofNat (x.toNat / 4294967296)=A at *
  generalize hB:UInt64.ofNat (y.toNat / 4294967296)=B at *
  generalize ha:x &&& UInt64.ofNat (nat_lit 4294967295)=a at *
  generalize hb:y &&& UInt64.ofNat (nat_lit 4294967295)=b at *
  have p1:=bnd A.toNat B.toNat (by omega) (by omega)
  have p2:=bnd A.toNat b.toNat (by omega) (by omega)
  have p3:=bnd a.toNat B.toNat (by omega) (by omega)
  have p4:=bnd a.toNat b.toNat (by omega) (by omega)
  have hxy:x.toNat*y.toNat=A.toNat*B.toNat*18446744073709551616+(A.toNat*b.toNat+a.toNat*B.toNat)*4294967296+a.toNat*b.toNat:=by
   have ex:x.toNat=A.toNat*4294967296+a.toNat:=by omega
   have ey:y.toNat=B.toNat*4294967296+b.toNat:=by omega
   rw[ex,ey]
   grind
  have m1:(A*B).toNat=A.toNat*B.toNat:=by rw[UInt64.toNat_mul];omega
  have m2:(A*b).toNat=A.toNat*b.toNat:=by rw[UInt64.toNat_mul];omega
  have m3:(a*B).toNat=a.toNat*B.toNat:=by rw[UInt64.toNat_mul];omega
  have m4:(a*b).toNat=a.toNat*b.toNat:=by rw[UInt64.toNat_mul];omega
  rw[hxy]
  generalize A.toNat*B.toNat=q1 at *
  generalize A.toNat*b.toNat=q2 at *
  generalize a.toNat*B.toNat=q3 at *
  generalize a.toNat*b.toNat=q4 at *
  apply UInt64.toNat_inj.1
  rw[ofNat_toNat (by omega)]
  have t1:(A*b+UInt64.ofNat ((a*b).toNat / 4294967296)).toNat=q2+q4 / 4294967296:=by
   rw[UInt64.toNat_add,m2,m4,ofNat_toNat (by omega)];omega
  have t2:((A*b+UInt64.ofNat ((a*b).toNat / 4294967296)) &&& UInt64.ofNat (nat_lit 4294967295)).toNat=(q2+q4 / 4294967296) % 4294967296:=by rw[<-t1];exact mask32 _
  have t3:(((A*b+UInt64.ofNat ((a*b).toNat / 4294967296)) &&& UInt64.ofNat (nat_lit 4294967295))+a*B).toNat=(q2+q4 / 4294967296) % 4294967296+q3:=by
   rw[UInt64.toNat_add,t2,m3];omega
  rw[UInt64.toNat_add,UInt64.toNat_add,m1,t1,t3,ofNat_toNat (by omega),ofNat_toNat (by omega)]
  omega
 rw[e] at k
 exact k
theorem c215 (a b by_:Nat)(hb:0<by_)(hb2:by_<18446744073709551616)(h:a*b<18446744073709551616)(ha:a<18446744073709551616)(hbb:b<18446744073709551616)
  (k:R (.int .i64 ((min (a*b / by_) most:Nat):Int)) H):Ru 215 [.int .i64 (a:Int),.int .i64 (b:Int),.int .i64 (by_:Int)] H R:=by
 refine v215 _ _ _ ?_
 rw[ofInt_nat,ofInt_nat,ofInt_nat]
 refine c208 _ _ ⟨_,_,rfl,fun hle=>?_,fun hle=>?_⟩
 ·exfalso
  rw[ofNat_toNat ha,ofNat_toNat hbb,UInt64.le_iff_toNat_le,ofNat_toNat hb2,ofNat_toNat (by omega)] at hle
  omega
 ·have hz:UInt64.ofNat ((UInt64.ofNat a).toNat*(UInt64.ofNat b).toNat / 18446744073709551616)=UInt64.ofNat 0:=by
   rw[ofNat_toNat ha,ofNat_toNat hbb];congr 1;omega
  have hq:(UInt64.ofNat a*UInt64.ofNat b / UInt64.ofNat by_).toNat=a*b / by_:=by
   rw[UInt64.toNat_div,UInt64.toNat_mul,ofNat_toNat ha,ofNat_toNat hbb,ofNat_toNat hb2,Nat.mod_eq_of_lt (by simpa using h)]
  have hne:UInt64.ofNat by_≠0:=by
   intro e
   have:=congrArg UInt64.toNat e
   rw[ofNat_toNat hb2] at this;simp at this;omega
  rw[hz] at hle ⊢
  refine v275 _ _ _ ⟨fun e=>hne e,fun _=>⟨fun h'=>hle h',fun _=>⟨fun _=>⟨hne,hne,_,_,rfl,fun hm=>?_,fun hm=>?_⟩,fun e=>(e rfl).elim⟩⟩⟩
  ·rw[UInt64.lt_iff_toNat_lt,hq] at hm
   have:(UInt64.ofNat (nat_lit 1099511627776)).toNat=1099511627776:=rfl
   rw[this] at hm
   rw[show min (a*b / by_) most=1099511627776 from by unfold most;omega] at k
   exact k
  ·rw[UInt64.lt_iff_toNat_lt,hq] at hm
   have:(UInt64.ofNat (nat_lit 1099511627776)).toNat=1099511627776:=rfl
   rw[this] at hm
   refine⟨by rw[hq];omega,?_⟩
   rw[hq]
   rwa [show min (a*b / by_) most=a*b / by_ from by unfold most;omega] at k
theorem c153 (n j:Nat)(hn:n<=4194304)(k:R (.int .i64 ((chCap n j:Nat):Int)) H):Ru 153 [.int .i64 (n:Int),.int .i64 (j:Int)] H R:=by
 refine v153 _ _ ⟨fun H'=>H'=H/\j<=n,⟨by omega,fun _=>⟨by omega,fun _=>⟨fun hlt=>?_,fun hge=>⟨rfl,by omega⟩⟩⟩⟩,?_⟩
 ·have:chCap n j=0:=by unfold chCap;rw[ch_lt (by omega)];simp
  rwa [this] at k
 rintro H ⟨rfl,hjn⟩
 rw[maxI_f]
 obtain⟨q,hq,hqn,hch⟩:∃q:Nat,min (j:Int) ((n:Int)-j)=q/\q<=n-q/\q<=n/\ch n j=ch n q:=by
  rcases Nat.le_total j (n-j) with h|h
  ·exact⟨j,by omega,h,by omega,rfl⟩
  ·exact⟨n-j,by omega,by omega,by omega,ch_symm' hjn⟩
 obtain⟨hqn,hch⟩:=hch
 have key:∀hh:q<=n,True:=fun _=>trivial
 rw[hq]
 refine⟨⟨by omega,by omega⟩,fun c i H'=>H'=H/\∃m:Nat,i=(m:Int)+1/\m<=q/\c=((chCap (n-q+m) m:Nat):Int),fun _ i _=>(q+1-i).toNat,⟨rfl,0,rfl,by omega,by simp[chCap,most]⟩,?_⟩
 rintro _ _ _ ⟨rfl,m,rfl,hm,rfl⟩
 have hfin:chCap n j=chCap (n-q+q) q:=by unfold chCap;rw[hch,show n-q+q=n from by omega]
 refine⟨fun hle=>⟨fun hlt=>⟨⟨by omega,by omega⟩,⟨by omega,by omega⟩,?_⟩,fun hge=>?_⟩,fun hgt=>?_⟩
 ·have hcl:ch (n-q+m) m<most:=by unfold chCap at hlt;unfold most at *;omega
  have hcc:chCap (n-q+m) m=ch (n-q+m) m:=by unfold chCap;omega
  have e1:(n:Int)-q+((m:Int)+1)=((n-q+m+1:Nat):Int):=by omega
  have e2:(m:Int)+1=((m+1:Nat):Int):=by push_cast;rfl
  rw[hcc,e1,e2]
  have hab:=ch_absorb (n-q+m) m
  have hbd:ch (n-q+m) m*(n-q+m+1)<18446744073709551616:=by
   have:=Nat.mul_le_mul (Nat.le_of_lt hcl) (show n-q+m+1<=4194305 by omega)
   unfold most at this;omega
  refine c215 _ _ _ (by omega) (by omega) hbd (by unfold most at hcl;omega) (by omega) ⟨_,rfl,⟨by omega,by omega⟩,⟨rfl,m+1,by push_cast;rfl,by omega,?_⟩,by (try dsimp only);omega⟩
  have:ch (n-q+m) m*(n-q+m+1) / (m+1)=ch (n-q+(m+1)) (m+1):=by
   rw[Nat.mul_comm,<-hab,Nat.mul_div_cancel _ (by omega)];rfl
  rw[this];rfl
 ·have h1:most<=ch (n-q+m) m:=by unfold chCap at hge;unfold most at *;omega
  have h2:=ch_diag (n-q) hm
  have:chCap n j=chCap (n-q+m) m:=by rw[hfin];unfold chCap;omega
  rwa [this] at k
 ·have:m=q:=by omega
  subst this
  rwa [hfin] at k
theorem c211 (x:Int)(k:R (.bool (decide (1<=x/\x<=1048576))) H):Ru 211 [.int .i64 x] H R:=by
 refine v211 _ ⟨fun h=>?_,fun h=>?_⟩
 ·have:decide (1<=x/\x<=1048576)=decide (x<=1048576):=by simp[h]
  rwa [this] at k
 ·have:decide (1<=x/\x<=1048576)=false:=by simp[h]
  rwa [this] at k
theorem c214 (r s:Nat)(hr:r<65536)(hs:s<=1048576)(k:R (.int .i64 ((chCap (s+r) s:Nat):Int)) H):Ru 214 [.int .i64 (r:Int),.int .i64 (s:Int)] H R:=by
 refine v214 _ _ ⟨by omega,fun _=>⟨⟨by omega,by omega⟩,?_⟩⟩
 rw[<-Int.natCast_add]
 exact c153 _ _ (by omega) ⟨_,rfl,k⟩
theorem c152 (l s:Nat)(hl:l<65536)(hs:1<=s)(hs2:s<=1048576)(k:∀H',Ext H H'->R (.tuple #[.int .i64 (repsOf l s:Int),.int .i64 0]) H'):Ru 152 [.int .i64 (l:Int),.int .i64 (s:Int)] H R:=by
 refine v152 _ _ fun H1 p n1 H2 q n2=>?_
 have e2:=n1.mod.new n2
 have rl:=n2.mod.rd (by simp) (n1.rd 0)
 refine⟨_,rl,by omega,fun _=>⟨_,rl,by omega,fun _=>⟨_,n2.rd 0,c211 _ ⟨_,rfl,fun h'=>by simp at h';omega,fun _=>⟨_,rl,?_⟩⟩⟩⟩⟩
 have hsp:=repsOf_spec (l:=l) hs
 refine v212 _ _ ⟨fun lo hi H'=>H'=H2/\∃a b:Nat,lo=a/\hi=b/\a<=repsOf l s/\repsOf l s<=b/\b<=l,fun lo hi _=>(hi-lo).toNat,⟨rfl,0,l,rfl,rfl,by omega,hsp.le,by omega⟩,?_⟩
 rintro _ _ _ ⟨rfl,a,b,rfl,rfl,h1,h2,h3⟩
 refine⟨fun hlt=>⟨⟨by omega,by omega⟩,⟨by omega,by omega,by omega,by omega⟩,213,#[],_,rfl,by kernel_rfl,?_⟩,fun hge=>⟨_,rfl,?_⟩⟩
 ·have em:((a:Int)+b) / 2=(((a+b) / 2:Nat):Int):=by omega
  rw[em]
  refine v213 _ _ _ _ _ ⟨_,rl,_,n2.rd 0,c214 _ _ (by omega) hs2 ⟨_,rfl,rl,_,rfl,fun hc=>?_,fun hc=>?_⟩⟩
  ·simp only[decide_eq_true_eq] at hc
   have hle:l<=ch (s+(a+b) / 2) s:=by unfold chCap at hc;omega
   have:repsOf l s<=(a+b) / 2:=by
    apply Nat.le_of_not_lt
    intro hgt
    rcases hsp.least with e|e
    ·omega
    ·have:=ch_mono (show s+(a+b) / 2<=s+(repsOf l s-1) by omega) s
     omega
   exact⟨⟨rfl,a,(a+b) / 2,rfl,rfl,h1,this,by omega⟩,by (try dsimp only);omega⟩
  ·simp only[decide_eq_false_iff_not] at hc
   have hgt:ch (s+(a+b) / 2) s<l:=by unfold chCap most at hc;omega
   have:(a+b) / 2<repsOf l s:=by
    apply Nat.lt_of_not_le
    intro hle
    have h4:=ch_mono (show s+repsOf l s<=s+(a+b) / 2 by omega) s
    have:=hsp.enough;omega
   exact⟨⟨by omega,by omega⟩,⟨rfl,(a+b) / 2+1,b,by push_cast;rfl,rfl,by omega,h2,h3⟩,by (try dsimp only);omega⟩
 ·have:a=repsOf l s:=by omega
  rw[this];exact k _ e2
theorem c369 {q:Nat}(x y z:Int)(h:RowI H (some ⟨q,0,none⟩) 3 [x,y,z])(k:R (.int .i64 (max (max x y) z)) H):Ru 369 [.slice (some ⟨q,0,none⟩) 3 3] H R:=by
 obtain⟨b,o,e,hr⟩:=h.at (by omega)
 refine v369 _ _ _ ⟨b,o,e,⟨by omega,by omega⟩,x,hr.1,fun n i H'=>H'=H/\((i=0/\n=x)\/(i=1/\n=x)\/(i=2/\n=max x y)\/(i=3/\n=max (max x y) z)),fun _ i _=>(3-i).toNat,⟨rfl,.inl ⟨rfl,rfl⟩⟩,?_⟩
 rintro _ n i ⟨rfl,hi⟩
 refine⟨fun hlt=>RowI.idx h (by omega) hlt ?_,fun hge=>?_⟩
 ·rw[maxI_t]
  rcases hi with ⟨rfl,rfl⟩|⟨rfl,rfl⟩|⟨rfl,rfl⟩|⟨rfl,rfl⟩
  ·exact⟨⟨by omega,by omega⟩,⟨rfl,.inr (.inl ⟨rfl,by simp⟩)⟩,by (try dsimp only);omega⟩
  ·exact⟨⟨by omega,by omega⟩,⟨rfl,.inr (.inr (.inl ⟨rfl,by simp⟩))⟩,by (try dsimp only);omega⟩
  ·exact⟨⟨by omega,by omega⟩,⟨rfl,.inr (.inr (.inr ⟨rfl,by simp⟩))⟩,by (try dsimp only);omega⟩
  ·omega
 ·rcases hi with ⟨rfl,rfl⟩|⟨rfl,rfl⟩|⟨rfl,rfl⟩|⟨rfl,rfl⟩
  ·omega
  ·omega
  ·omega
  ·exact k
theorem c352 (n c:Nat)(hn:2<=n)(hn2:n<65536)(hc:1<=c)(hc2:c<=1048576)(k:∀H',Ext H H'->R (.tuple #[.int .i64 (splitOf n c:Int),.int .i64 0]) H'):Ru 352 [.int .i64 (n:Int),.int .i64 (c:Int)] H R:=by
 have hsp:=repsOf_spec (l:=n) hc
 have hr1:1<=repsOf n c:=by
  apply Nat.pos_of_ne_zero
  intro e
  have:=hsp.enough
  rw[e] at this;simp at this;omega
 have hrl:=hsp.le
 refine v352 _ _ ⟨by omega,fun _=>c152 n c hn2 hc hc2 fun H1 e1=>⟨_,_,rfl,by simp,fun _=>⟨⟨by omega,by omega⟩,⟨by omega,by omega⟩,?_⟩⟩⟩
 have q1:(c:Int)+(repsOf n c:Int)-2=((c+repsOf n c-2:Nat):Int):=by omega
 have q2:(c:Int)+(repsOf n c:Int)-1=((c+repsOf n c-1:Nat):Int):=by omega
 have q3:(c:Int)-1=((c-1:Nat):Int):=by omega
 rw[q1]
 refine c153 _ _ (by omega) ⟨_,rfl,⟨by omega,by omega⟩,⟨by omega,by omega⟩,⟨by omega,by omega⟩,?_⟩
 rw[q2,q3]
 have hcap:∀a b:Nat,chCap a b<=most:=fun a b=>Nat.min_le_right _ _
 have hm:most=1099511627776:=rfl
 refine c153 _ _ (by omega) ⟨_,rfl,?_,fun H2 q n2=>?_⟩
 ·have:=hcap (c+repsOf n c-1) (c-1);exact⟨by omega,by omega⟩
 refine c369 1 _ _ ⟨rfl,.inr ⟨q,0,rfl,n2.rdL⟩⟩ ⟨_,rfl,?_⟩
 have hlow:ch (c+repsOf n c-2) c<n:=by
  rcases hsp.least with e|e
  ·omega
  ·exact Nat.lt_of_le_of_lt (ch_mono (by omega) c) e
 have:max (max (1:Int) (chCap (c+repsOf n c-2) c:Int)) ((n:Int)-(chCap (c+repsOf n c-1) (c-1):Int))=(splitOf n c:Int):=by
  unfold splitOf chCap
  rw[hm];omega
 rw[this]
 exact k _ (e1.new n2)
end Go.VC
namespace Go.VC
open Go Go.Proofs
structure View where
 base:Int
 slot:Int
 free:Int
 vac:Int
def lookN (tags:List Int):Nat->View
 | 0=>⟨-1,0,0,-1⟩
 | i+1=>
  let v:=lookN tags i
  let t:=tags.getD i (-1)
  if v.base<t then { v with base:=t,slot:=i }
  else if t<0 then { v with free:=v.free+1,vac:=if v.vac<0 then (i:Int) else v.vac }
  else v
def lookF (tags:List Int):View:=lookN tags tags.length
def endOf (l pend:Int):Int:=if pend<0 then l else pend
def ruleIs (l at_ pend:Int)(v:View):Nat->Bool
 | 0=>decide (0<=pend) && decide (endOf l pend<=v.base)
 | 1=>decide (pend=0)
 | 2=>decide (pend<0) && decide (at_=l)
 | 3=>decide (at_=endOf l pend-1)
 | 4=>decide (v.base<0)
 | 5=>decide (at_<v.base) || decide (endOf l pend<=at_)
 | 6=>decide (v.base<at_) && decide (0<v.free)
 | 7=>decide (v.base<at_)
 | _=>true
noncomputable def ruleDo (l at_ pend:Int)(v:View):Nat->Option (Int × Int)
 | 0=>some (4,v.slot)
 | 1=>none
 | 2=>some (5,0)
 | 3=>if 0<=pend then some (7,0) else some (6,0)
 | 4=>if endOf l pend<=at_ then none else some (2,0)
 | 5=>some (3,v.slot)
 | 6=>some (2,v.vac)
 | 7=>some (1,endOf l pend-1-at_)
 | _=>some (1,(splitOf (endOf l pend-v.base).toNat (v.free+1).toNat:Nat))
noncomputable def ruleFrom (l at_ pend:Int)(v:View):Nat->Nat->Option (Int × Int)
 | 0,i=>ruleDo l at_ pend v i
 | f+1,i=>if ruleIs l at_ pend v i then ruleDo l at_ pend v i else ruleFrom l at_ pend v f (i+1)
noncomputable def revNext (l at_ pend:Int)(tags:List Int):Option (Int × Int):=ruleFrom l at_ pend (lookF tags) 8 0
structure Seen (tags:List Int)(i:Nat)(v:View):Prop where
 b0 : -1<=v.base
 none_:v.base = -1->∀j,j<i->tags.getD j (-1)<0
 slot0:0<=v.slot
 at_:0<=v.base->v.slot<i/\tags.getD v.slot.toNat (-1)=v.base
 top:∀j,j<i->tags.getD j (-1)<=v.base
 f0:0<=v.free
 fr:v.free=((tags.take i).countP (fun t=>decide (t<0)):Nat)
 v0 : -1<=v.vac
 vac:0<=v.vac->v.vac<i/\tags.getD v.vac.toNat (-1)<0
 vf:v.vac<0->v.free=0
theorem lookN_seen (tags:List Int)(ht:∀t∈tags,-1<=t):∀i,i<=tags.length->Seen tags i (lookN tags i)
 | 0,_=>⟨by simp[lookN],by omega,by simp[lookN],by simp[lookN],by omega,by simp[lookN],by simp[lookN],by simp[lookN],by simp[lookN],by simp[lookN]⟩
 | i+1,hi=>by
  have ih:=lookN_seen tags ht i (by omega)
  obtain⟨b0,nn,s0,at_,top,f0,fr,v0,vac,vf⟩:=ih
  have htk:tags.take (i+1)=tags.take i++[tags.getD i (-1)]:=by
   rw[List.take_succ_eq_append_getElem (by omega),List.getD_eq_getElem?_getD,List.getElem?_eq_getElem (by omega)];rfl
  have hm : -1<=tags.getD i (-1):=by
   rw[List.getD_eq_getElem?_getD,List.getElem?_eq_getElem (by omega)];exact ht _ (List.getElem_mem _)
  unfold lookN
  generalize lookN tags i=v at *
  generalize hx:tags.getD i (-1)=t at *
  dsimp only
  split
  ·rename_i hlt
   refine⟨by dsimp only;omega,by dsimp only;omega,by dsimp only;omega,fun _=>⟨by dsimp only;omega,by dsimp only;rw[Int.toNat_natCast];exact hx⟩,?_,f0,?_,v0,fun h=>⟨by have:=(vac h).1;dsimp only;omega,(vac h).2⟩,vf⟩
   ·intro j hj
    dsimp only
    rcases Nat.lt_or_ge j i with h|h
    ·have:=top j h;omega
    ·have:j=i:=by omega
     subst this;omega
   ·rw[htk,List.countP_append]
    simp only[List.countP_singleton]
    rw[if_neg (by simp;omega)]
    simpa using fr
  ·rename_i hge
   split
   ·rename_i hneg
    refine⟨b0,?_,s0,fun h=>⟨by have:=(at_ h).1;dsimp only;omega,(at_ h).2⟩,?_,by dsimp only;omega,?_,by dsimp only;split<;>omega,?_,?_⟩
    ·intro h j hj
     rcases Nat.lt_or_ge j i with h'|h'
     ·exact nn h j h'
     ·have:j=i:=by omega
      subst this;omega
    ·intro j hj
     rcases Nat.lt_or_ge j i with h'|h'
     ·exact top j h'
     ·have:j=i:=by omega
      subst this;dsimp only;omega
    ·rw[htk,List.countP_append]
     simp only[List.countP_singleton]
     rw[if_pos (by simpa using hneg)]
     omega
    ·dsimp only
     split
     ·intro _;exact⟨by omega,by rw[Int.toNat_natCast,hx];exact hneg⟩
     ·intro h;exact⟨by have:=(vac h).1;omega,(vac h).2⟩
    ·dsimp only
     split<;>omega
   ·rename_i hneg
    refine⟨b0,?_,s0,fun h=>⟨by have:=(at_ h).1;omega,(at_ h).2⟩,?_,f0,?_,v0,fun h=>⟨by have:=(vac h).1;omega,(vac h).2⟩,vf⟩
    ·intro h j hj
     rcases Nat.lt_or_ge j i with h'|h'
     ·exact nn h j h'
     ·have:j=i:=by omega
      subst this;omega
    ·intro j hj
     rcases Nat.lt_or_ge j i with h'|h'
     ·exact top j h'
     ·have:j=i:=by omega
      subst this;omega
    ·rw[htk,List.countP_append]
     simp only[List.countP_singleton]
     rw[if_neg (by simp;omega)]
     simpa using fr
theorem lookF_seen {tags:List Int}(ht:∀t∈tags,-1<=t):Seen tags tags.length (lookF tags):=lookN_seen tags ht _ (Nat.le_refl _)
theorem countP_lt {α:Type}{p:α->Bool}{l:List α}{x:α}(hx:x∈l)(h:p x=false):l.countP p<l.length:=by
 apply Nat.lt_of_le_of_ne List.countP_le_length
 intro e
 have:=List.countP_eq_length.1 e x hx
 rw[h] at this;cases this
end Go.VC
namespace Go.VC
open Go Go.Proofs
variable {H:Heap}{R:Value->Heap->Prop}
def viewC (at_ pend:Int)(a:Option Addr)(l c:Nat)(e:Int)(v:View):List Value:=
 [.int .i64 at_,.int .i64 pend,.slice a l c,.int .i64 e,.int .i64 v.base,.int .i64 v.slot,.int .i64 v.free,.int .i64 v.vac]
theorem viewC_one {at_ pend:Int}{a:Option Addr}{l c:Nat}{e:Int}{v:View}:∀x∈viewC at_ pend a l c e v,One x:=by
 intro x hx;simp only[viewC,List.mem_cons,List.not_mem_nil,or_false] at hx;rcases hx with rfl|rfl|rfl|rfl|rfl|rfl|rfl|rfl<;>trivial
theorem Own.swrL {H:Heap}{b:Nat}{cs vs:List Value}(h:Own H b cs)(hl:vs.length=cs.length):Own (VC.wrL H b 0 vs) b vs:=by
 have:=h.wrL 0 vs (by omega)
 rwa [List.take_zero,List.nil_append,Nat.zero_add,hl,List.drop_length,List.append_nil] at this
theorem c228 (l at_ pend:Int){a:Option Addr}{n c:Nat}{tags:List Int}(h:RowI H a n tags)(hn:n<=1048576)(ht:∀t∈tags,-1<=t)
  (k:∀H',Ext H H'->R (.agg (viewC at_ pend a n c (endOf l pend) (lookF tags)).toArray) H'):Ru 228 [.int .i64 l,.agg (spotC at_ pend a n c).toArray] H R:=by
 have hlen:=h.len
 refine v228 _ (spotC at_ pend a n c) fun H1 p n1 H2 q n2=>⟨spotC at_ pend a n c,rfl,n2.mod.rdL (by simp) n1.rdL,_,n2.mod.rd (by simp) (n1.rd 1),rfl,fun H3 p2 n3=>?_⟩
 have e2:=n1.mod.new n2
 have e3:=e2.new n3
 have hset:(((spotC at_ pend a n c++[Value.int .i64 0,.int .i64 0,.int .i64 0,.int .i64 0,.int .i64 0]).set 3 (.int .i64 pend)).set 4 (.int .i64 (-1))).set 7 (.int .i64 (-1))=viewC at_ pend a n c pend ⟨-1,0,0,-1⟩:=rfl
 rw[hset]
 refine⟨rfl,viewC_one,n3.own.w 0 8 rfl,fun H4 h4=>?_⟩
 have o4:Own H4 p2 (viewC at_ pend a n c pend ⟨-1,0,0,-1⟩):=by rw[h4];exact n3.own.swrL rfl
 have m4:Mod [p2] H3 H4:=by rw[h4];exact Mod.refl.wrL (.inl (by simp))
 clear h4
 have hp2:=n3.ge;have hp2l:=n3.lt;have hql:=n2.lt;have hq:=n2.ge;have hpl:=n1.lt;have hz1:=n1.mod.1
 have rp4:∀j v,(spotC at_ pend a n c)[j]?=some v->rd H4 p j=some v:=fun j v hj=>m4.rd (by simp;omega) ((n2.mod.new n3).rd (by simp) ((n1.rd j).trans hj))
 have oq4:=(n2.own.mod n3.mod (by simp)).mod m4 (by simp;omega)
 have e4:Ext H H4:=e3.trans_new m4 (by simp;omega)
 refine⟨fun H'=>Mod [p2] H4 H'/\Own H' p2 (viewC at_ pend a n c (endOf l pend) ⟨-1,0,0,-1⟩),⟨_,rp4 1 _ rfl,fun hneg=>⟨o4.w 3 1 rfl,fun H5 h5=>⟨by rw[h5];exact Mod.refl.wr (.inl (by simp)),?_⟩⟩,fun hpos=>⟨Mod.refl,?_⟩⟩,?_⟩
 ·have:=o4.wr 3 (.int .i64 l)
  rw[<-h5] at this
  unfold endOf;rw[if_pos hneg];exact this
 ·unfold endOf;rw[if_neg hpos];exact o4
 rintro H5 ⟨m5,o5⟩
 have e5:Ext H H5:=e4.trans_new m5 (by simp;omega)
 have row5:=Ext.row e5 h
 have hz4:=m4.1;have hz5:=m5.1
 have rp5:∀j v,(spotC at_ pend a n c)[j]?=some v->rd H5 p j=some v:=fun j v hj=>m5.rd (by simp;omega) (rp4 j v hj)
 refine⟨_,_,_,rp5 2 _ rfl,fun i H'=>∃j:Nat,i=j/\j<=n/\Mod [p2] H5 H'/\Own H' p2 (viewC at_ pend a n c (endOf l pend) (lookN tags j)),fun i _=>(n-i).toNat,⟨0,rfl,by omega,Mod.refl,o5⟩,?_⟩
 rintro H6 _ ⟨j,rfl,hj,m6,o6⟩
 have e6:Ext H H6:=e5.trans_new m6 (by simp;omega)
 have hsn:=lookN_seen tags ht j (by omega)
 refine⟨fun hlt=>RowI.idx (Ext.row e6 h) (by omega) hlt ?_,fun hge=>?_⟩
 ·simp only[Int.toNat_natCast]
  have hgd:tags[j]'(by omega)=tags.getD j (-1):=by rw[List.getD_eq_getElem?_getD,List.getElem?_eq_getElem (by omega)];rfl
  rw[hgd]
  have hstep:lookN tags (j+1)=(let v:=lookN tags j
    let t:=tags.getD j (-1)
    if v.base<t then { v with base:=t,slot:=j }
    else if t<0 then { v with free:=v.free+1,vac:=if v.vac<0 then (j:Int) else v.vac }
    else v):=rfl
  dsimp only at hstep
  have hcle:((tags.take j).countP (fun t=>decide (t<0)))<=j:=Nat.le_trans List.countP_le_length (by simp;omega)
  have hfr:=hsn.fr
  generalize hv:lookN tags j=v at *
  generalize tags.getD j (-1)=t at *
  refine⟨_,o6.rd 4 rfl,fun hlt2=>⟨o6.w 4 1 rfl,?_⟩,fun hge2=>⟨fun hneg=>⟨_,o6.rd 6 rfl,⟨by omega,by omega⟩,o6.w 6 1 rfl,?_⟩,fun hneg=>⟨⟨by omega,by omega⟩,⟨j+1,by push_cast;rfl,by omega,m6,?_⟩,by (try dsimp only);omega⟩⟩⟩
  ·rintro _ rfl
   have o7:=o6.wr 4 (.int .i64 t)
   refine⟨o7.w 5 1 rfl,?_⟩
   rintro _ rfl
   have o8:=o7.wr 5 (.int .i64 (j:Int))
   refine⟨⟨by omega,by omega⟩,⟨j+1,by push_cast;rfl,by omega,(m6.wr (.inl (by simp))).wr (.inl (by simp)),?_⟩,by (try dsimp only);omega⟩
   rw[hstep,if_pos hlt2]
   exact o8
  ·rintro _ rfl
   have o7:=o6.wr 6 (.int .i64 (v.free+1))
   refine⟨_,o7.rd 7 rfl,fun hvn=>⟨o7.w 7 1 rfl,?_⟩,fun hvn=>⟨⟨by omega,by omega⟩,⟨j+1,by push_cast;rfl,by omega,m6.wr (.inl (by simp)),?_⟩,by (try dsimp only);omega⟩⟩
   ·rintro _ rfl
    have o8:=o7.wr 7 (.int .i64 (j:Int))
    refine⟨⟨by omega,by omega⟩,⟨j+1,by push_cast;rfl,by omega,(m6.wr (.inl (by simp))).wr (.inl (by simp)),?_⟩,by (try dsimp only);omega⟩
    rw[hstep,if_neg hge2,if_pos hneg,if_pos hvn]
    exact o8
   ·rw[hstep,if_neg hge2,if_pos hneg,if_neg hvn]
    exact o7
  ·rw[hstep,if_neg hge2,if_neg hneg];exact o6
 ·have:j=n:=by omega
  subst this
  have hF:lookN tags j=lookF tags:=by unfold lookF;rw[hlen]
  rw[hF] at o6
  have oq6:=(oq4.mod m5 (by simp;omega)).mod m6 (by simp;omega)
  refine⟨_,rfl,o6.1,rfl,viewC_one,oq6.w 0 8 rfl,fun H7 h7=>⟨_,rfl,by rw[h7];exact rdL_wrL oq6.2,k H7 ?_⟩⟩
  rw[h7];exact e6.trans_new (Mod.refl.wrL (S:=[q]) (.inl (by simp))) (by simp;omega)
theorem c292 (x y:Int)(k:∀H' p q,rd H' p 0=some (.int .i64 x)->rd H' q 0=some (.int .i64 y)->Ext H H'->R (.func (.func 351) #[] #[.pointer (some ⟨p,0,none⟩),.pointer (some ⟨q,0,none⟩)]) H'):Ru 292 [.int .i64 x,.int .i64 y] H R:=
 v292 _ _ fun _ _ n1 _ _ n2=>k _ _ _ (n2.mod.rd (by simp) (n1.rd 0)) (n2.rd 0) (n1.mod.new n2)
theorem c351 {p q:Nat}(x y:Int)(hp:rd H p 0=some (.int .i64 x))(hq:rd H q 0=some (.int .i64 y))(k:∀H',Ext H H'->R (actR (some (x,y))) H'):Ru 351 [.pointer (some ⟨p,0,none⟩),.pointer (some ⟨q,0,none⟩)] H R:=by
 refine v351 _ _ _ _ fun H1 r n1=>⟨_,n1.mod.rd (by simp) hp,_,n1.mod.rd (by simp) hq,rfl,?_,n1.own.w 0 2 rfl,fun H2 h2=>⟨actC x y,rfl,by rw[h2];exact rdL_wrL n1.own.2,k H2 ?_⟩⟩
 ·intro v hv;simp only[List.mem_cons,List.not_mem_nil,or_false] at hv;rcases hv with rfl|rfl<;>trivial
 ·rw[h2];exact n1.mod.trans_new (Mod.refl.wrL (S:=[r]) (.inl (by simp))) (by simpa using n1.ge)
theorem c227 (K:∀H',Ext H H'->R (actR none) H'):Ru 227 [] H R:=by
 refine v227 fun H1 p n1=>⟨rfl,?_,n1.own.w 0 2 rfl,fun H2 h2=>⟨actC 0 0,rfl,by rw[h2];exact rdL_wrL n1.own.2,K H2 ?_⟩⟩
 ·intro v hv;simp only[List.mem_cons,List.not_mem_nil,or_false] at hv;rcases hv with rfl|rfl<;>trivial
 ·rw[h2];exact n1.mod.trans_new (Mod.refl.wrL (S:=[p]) (.inl (by simp))) (by simpa using n1.ge)
theorem c291 {at_ pend:Int}{a:Option Addr}{l c:Nat}{e:Int}{v:View}(k:∀H',Ext H H'->R (.bool (decide (0<=pend))) H'):Ru 291 [.agg (viewC at_ pend a l c e v).toArray] H R:=
 v291 (viewC at_ pend a l c e v) fun _ _ n1=>⟨_,n1.rd 1,k _ n1.mod⟩
structure RulesAt (H:Heap)(p p1:Nat)(l at_ pend:Int)(a:Option Addr)(n c:Nat)(v:View)(q:Nat->Nat × Nat):Prop where
 view:RdL H p 0 (viewC at_ pend a n c (endOf l pend) v)
 len:rd H p1 0=some (.int .i64 l)
 q0:rd H (q 0).1 0=some (.int .i64 4)/\rd H (q 0).2 0=some (.int .i64 v.slot)
 q1:rd H (q 1).1 0=some (.int .i64 5)/\rd H (q 1).2 0=some (.int .i64 0)
 q2:rd H (q 2).1 0=some (.int .i64 3)/\rd H (q 2).2 0=some (.int .i64 v.slot)
 q3:rd H (q 3).1 0=some (.int .i64 2)/\rd H (q 3).2 0=some (.int .i64 v.vac)
 q4:rd H (q 4).1 0=some (.int .i64 1)/\rd H (q 4).2 0=some (.int .i64 (endOf l pend-1-at_))
theorem RulesAt.ext {H H':Heap}{p p1:Nat}{l at_ pend:Int}{a:Option Addr}{n c:Nat}{v:View}{q:Nat->Nat × Nat}(h:RulesAt H p p1 l at_ pend a n c v q)(e:Ext H H'):RulesAt H' p p1 l at_ pend a n c v q:=
 ⟨e.rdL (by simp) h.view,e.rd (by simp) h.len,⟨e.rd (by simp) h.q0.1,e.rd (by simp) h.q0.2⟩,⟨e.rd (by simp) h.q1.1,e.rd (by simp) h.q1.2⟩,⟨e.rd (by simp) h.q2.1,e.rd (by simp) h.q2.2⟩,⟨e.rd (by simp) h.q3.1,e.rd (by simp) h.q3.2⟩,⟨e.rd (by simp) h.q4.1,e.rd (by simp) h.q4.2⟩⟩
def actF (q:Nat × Nat):Value:=.func (.func 351) #[] #[.pointer (some ⟨q.1,0,none⟩),.pointer (some ⟨q.2,0,none⟩)]
def rulesC (p p1:Nat)(vc:List Value)(q:Nat->Nat × Nat):List Value:=
 [.func (.func 290) #[] #[.pointer (some ⟨p,0,none⟩)],actF (q 0),.func (.func 293) #[] #[.pointer (some ⟨p,0,none⟩)],.func (.func 227) #[] #[],
  .func (.func 294) #[] #[.pointer (some ⟨p,0,none⟩),.pointer (some ⟨p1,0,none⟩)],actF (q 1),.func (.func 295) #[] #[.pointer (some ⟨p,0,none⟩)],.func (.func 296) #[.agg vc.toArray] #[],
  .func (.func 297) #[] #[.pointer (some ⟨p,0,none⟩)],.func (.func 298) #[.agg vc.toArray] #[],.func (.func 299) #[] #[.pointer (some ⟨p,0,none⟩)],actF (q 2),
  .func (.func 300) #[] #[.pointer (some ⟨p,0,none⟩)],actF (q 3),.func (.func 301) #[] #[.pointer (some ⟨p,0,none⟩)],actF (q 4),.func (.func 302) #[] #[],.func (.func 303) #[.agg vc.toArray] #[]]
theorem c229 (l at_ pend:Int)(a:Option Addr)(n c:Nat)(v:View)(he:0<=endOf l pend/\endOf l pend<=65536)(ha:0<=at_/\at_<=65536)
  (k:∀H' p p1 q r,RulesAt H' p p1 l at_ pend a n c v q->RdL H' r 0 (rulesC p p1 (viewC at_ pend a n c (endOf l pend) v) q)->Ext H H'->R (.slice (some ⟨r,0,none⟩) 9 9) H') :
  Ru 229 [.agg (viewC at_ pend a n c (endOf l pend) v).toArray,.int .i64 l] H R:=by
 refine v229 (viewC at_ pend a n c (endOf l pend) v) _ fun H1 p n1 H2 p1 n2=>?_
 have e2:=n1.mod.new n2
 have rv:=n2.mod.rdL (S:=[]) (by simp) n1.rdL
 have rp:∀j x,(viewC at_ pend a n c (endOf l pend) v)[j]?=some x->rd H2 p j=some x:=fun j x hj=>n2.mod.rd (by simp) ((n1.rd j).trans hj)
 refine⟨_,rp 5 _ rfl,_,rfl,rv,_,rfl,rv,_,rp 5 _ rfl,_,rp 7 _ rfl,_,rp 3 _ rfl,⟨by omega,by omega⟩,_,rp 0 _ rfl,⟨by omega,by omega⟩,_,rfl,rv,?_⟩
 refine c292 _ _ fun H3 a0 b0 g1 g2 e3=>?_
 have rp3:∀j x,(viewC at_ pend a n c (endOf l pend) v)[j]?=some x->rd H3 p j=some x:=fun j x hj=>e3.rd (by simp) (rp j x hj)
 have rv3:=e3.rdL (S:=[]) (by simp) rv
 refine⟨rv3,rp3 0 _ rfl,rp3 3 _ rfl,rp3 7 _ rfl,rp3 5 _ rfl,rv3,rv3,trivial,c292 _ _ fun H4 a1 b1 g3 g4 e4=>?_⟩
 have rp4:∀j x,(viewC at_ pend a n c (endOf l pend) v)[j]?=some x->rd H4 p j=some x:=fun j x hj=>e4.rd (by simp) (rp3 j x hj)
 have rv4:=e4.rdL (S:=[]) (by simp) rv3
 refine⟨rv4,rp4 0 _ rfl,rp4 3 _ rfl,rp4 7 _ rfl,rp4 5 _ rfl,rv4,rv4,trivial,c292 _ _ fun H5 a2 b2 g5 g6 e5=>?_⟩
 have rp5:∀j x,(viewC at_ pend a n c (endOf l pend) v)[j]?=some x->rd H5 p j=some x:=fun j x hj=>e5.rd (by simp) (rp4 j x hj)
 have rv5:=e5.rdL (S:=[]) (by simp) rv4
 refine⟨rv5,rp5 0 _ rfl,rp5 3 _ rfl,rp5 7 _ rfl,rv5,rv5,trivial,c292 _ _ fun H6 a3 b3 g7 g8 e6=>?_⟩
 have rp6:∀j x,(viewC at_ pend a n c (endOf l pend) v)[j]?=some x->rd H6 p j=some x:=fun j x hj=>e6.rd (by simp) (rp5 j x hj)
 have rv6:=e6.rdL (S:=[]) (by simp) rv5
 refine⟨rv6,rp6 0 _ rfl,rp6 3 _ rfl,rv6,rv6,trivial,c292 _ _ fun H7 a4 b4 g9 g10 e7=>?_⟩
 have rv7:=e7.rdL (S:=[]) (by simp) rv6
 refine⟨rv7,rv7,rv7,trivial,⟨rfl,rfl,rfl,rfl,rfl,rfl,rfl,rfl,rfl⟩,fun H8 r n8=>?_⟩
 have e37:=((e4.thenExt e5).thenExt e6).thenExt e7
 refine k H8 p p1 (fun i=>match i with|0=>(a0,b0)|1=>(a1,b1)|2=>(a2,b2)|3=>(a3,b3)|_=>(a4,b4)) r (RulesAt.ext ⟨rv7,(e3.thenExt e37).rd (by simp) (n2.rd 0),⟨e37.rd (by simp) g1,e37.rd (by simp) g2⟩,
  ⟨((e5.thenExt e6).thenExt e7).rd (by simp) g3,((e5.thenExt e6).thenExt e7).rd (by simp) g4⟩,⟨(e6.thenExt e7).rd (by simp) g5,(e6.thenExt e7).rd (by simp) g6⟩,⟨e7.rd (by simp) g7,e7.rd (by simp) g8⟩,⟨g9,g10⟩⟩ n8.mod) n8.rdL ((e2.thenExt (e3.thenExt e37)).new n8)
theorem ruleAsk {H:Heap}{p p1:Nat}{l at_ pend:Int}{a:Option Addr}{n c:Nat}{v:View}{q:Nat->Nat × Nat}(h:RulesAt H p p1 l at_ pend a n c v q)(he:0<=endOf l pend/\endOf l pend<=65536)(i:Nat)(hi:i<9) :
  ∃g u w,(rulesC p p1 (viewC at_ pend a n c (endOf l pend) v) q)[i*2]?=some (.func (.func g) u w)/\callable Tryz.prog g=true/\∀K:Value->Heap->Prop,(∀H',Ext H H'->K (.bool (ruleIs l at_ pend v i)) H')->Ru g (u.toList++[]++w.toList) H K:=by
 have rp:∀j x,(viewC at_ pend a n c (endOf l pend) v)[j]?=some x->rd H p j=some x:=fun j x hj=>by have:=rdL_get' h.view hj;rwa [Nat.zero_add] at this
 have rp':∀{H'},Ext H H'->∀j x,(viewC at_ pend a n c (endOf l pend) v)[j]?=some x->rd H' p j=some x:=fun e j x hj=>e.rd (by simp) (rp j x hj)
 match i,hi with
 | 0,_=>
  refine⟨290,_,_,rfl,by kernel_rfl,fun K k=>v290 _ _ ⟨_,rfl,h.view,c291 fun H1 e1=>⟨_,rfl,fun h0=>⟨_,by rw[Nat.zero_add];exact rp' e1 4 _ rfl,_,by rw[Nat.zero_add];exact rp' e1 3 _ rfl,?_⟩,fun h0=>?_⟩⟩⟩
  ·have:=k H1 e1;simp only[ruleIs,h0,Bool.true_and] at this;exact this
  ·have:=k H1 e1;simp only[ruleIs,h0,Bool.false_and] at this;exact this
 | 1,_=>exact⟨293,_,_,rfl,by kernel_rfl,fun K k=>v293 _ _ ⟨_,by rw[Nat.zero_add];exact rp 1 _ rfl,k H Mod.refl⟩⟩
 | 2,_=>
  refine⟨294,_,_,rfl,by kernel_rfl,fun K k=>v294 _ _ _ _ ⟨_,rfl,h.view,c291 fun H1 e1=>⟨_,rfl,fun h0=>⟨_,rp' e1 0 _ rfl,_,e1.rd (by simp) h.len,?_⟩,fun h0=>?_⟩⟩⟩
  ·have:=k H1 e1
   simp at h0
   simp only[ruleIs,h0,decide_true,Bool.true_and] at this;exact this
  ·have:=k H1 e1
   simp at h0
   simp only[ruleIs,show ¬pend<0 from by omega,decide_false,Bool.false_and] at this;exact this
 | 3,_=>exact⟨295,_,_,rfl,by kernel_rfl,fun K k=>v295 _ _ ⟨_,rp 0 _ rfl,_,by rw[Nat.zero_add];exact rp 3 _ rfl,⟨by omega,by omega⟩,k H Mod.refl⟩⟩
 | 4,_=>exact⟨297,_,_,rfl,by kernel_rfl,fun K k=>v297 _ _ ⟨_,by rw[Nat.zero_add];exact rp 4 _ rfl,k H Mod.refl⟩⟩
 | 5,_=>
  refine⟨299,_,_,rfl,by kernel_rfl,fun K k=>v299 _ _ ⟨_,rp 0 _ rfl,_,by rw[Nat.zero_add];exact rp 4 _ rfl,fun h0=>?_,fun h0=>⟨_,rp 0 _ rfl,_,by rw[Nat.zero_add];exact rp 3 _ rfl,?_⟩⟩⟩
  ·have:=k H Mod.refl;simp only[ruleIs,h0,decide_true,Bool.true_or] at this;exact this
  ·have:=k H Mod.refl;simp only[ruleIs,h0,decide_false,Bool.false_or] at this;exact this
 | 6,_=>
  refine⟨300,_,_,rfl,by kernel_rfl,fun K k=>v300 _ _ ⟨_,rp 0 _ rfl,_,by rw[Nat.zero_add];exact rp 4 _ rfl,fun h0=>⟨_,by rw[Nat.zero_add];exact rp 6 _ rfl,?_⟩,fun h0=>?_⟩⟩
  ·have:=k H Mod.refl;simp only[ruleIs,h0,decide_true,Bool.true_and] at this;exact this
  ·have:=k H Mod.refl;simp only[ruleIs,h0,decide_false,Bool.false_and] at this;exact this
 | 7,_=>exact⟨301,_,_,rfl,by kernel_rfl,fun K k=>v301 _ _ ⟨_,rp 0 _ rfl,_,by rw[Nat.zero_add];exact rp 4 _ rfl,k H Mod.refl⟩⟩
 | 8,_=>exact⟨302,_,_,rfl,by kernel_rfl,fun K k=>v302 (k H Mod.refl)⟩
theorem ruleAct {H:Heap}{p p1:Nat}{l at_ pend:Int}{a:Option Addr}{n c:Nat}{v:View}{q:Nat->Nat × Nat}(h:RulesAt H p p1 l at_ pend a n c v q)(he:0<=endOf l pend/\endOf l pend<65536)(hb : -1<=v.base)(hf:0<=v.free/\(0<=v.base->v.free<1048576))(i:Nat)(hi:i<9)
  (hno:∀j,j<i->ruleIs l at_ pend v j=false) :
  ∃g u w,(rulesC p p1 (viewC at_ pend a n c (endOf l pend) v) q)[i*2+1]?=some (.func (.func g) u w)/\callable Tryz.prog g=true/\∀K:Value->Heap->Prop,(∀H',Ext H H'->K (actR (ruleDo l at_ pend v i)) H')->Ru g (u.toList++[]++w.toList) H K:=by
 match i,hi with
 | 0,_=>exact⟨351,_,_,rfl,by kernel_rfl,fun K k=>c351 _ _ h.q0.1 h.q0.2 k⟩
 | 1,_=>exact⟨227,_,_,rfl,by kernel_rfl,fun K k=>c227 k⟩
 | 2,_=>exact⟨351,_,_,rfl,by kernel_rfl,fun K k=>c351 _ _ h.q1.1 h.q1.2 k⟩
 | 3,_=>
  refine⟨296,_,_,rfl,by kernel_rfl,fun K k=>v296 (viewC at_ pend a n c (endOf l pend) v) fun H1 r n1 H2 s n2=>⟨_,rfl,n2.mod.rdL (by simp) n1.rdL,c291 fun H3 e3=>⟨_,rfl,fun h0=>?_,fun h0=>?_⟩⟩⟩
  all_goals
   have os:=n2.own.mod e3 (by simp)
   have es:Ext H (wrL H3 s 0 (actC 7 0))/\Ext H (wrL H3 s 0 (actC 6 0)):=⟨((n1.mod.new n2).thenExt e3).trans_new (Mod.refl.wrL (S:=[s]) (.inl (by simp))) (by simpa using Nat.le_trans n1.mod.1 n2.ge),((n1.mod.new n2).thenExt e3).trans_new (Mod.refl.wrL (S:=[s]) (.inl (by simp))) (by simpa using Nat.le_trans n1.mod.1 n2.ge)⟩
   simp at h0
  ·refine⟨rfl,?_,os.w 0 2 rfl,fun H4 h4=>⟨actC 7 0,rfl,by rw[h4];exact rdL_wrL os.2,?_⟩⟩
   ·intro x hx;simp only[List.mem_cons,List.not_mem_nil,or_false] at hx;rcases hx with rfl|rfl<;>trivial
   ·have:=k H4 (by rw[h4];exact es.1)
    simp only[ruleDo,h0,if_true] at this;exact this
  ·refine⟨rfl,?_,os.w 0 2 rfl,fun H4 h4=>⟨actC 6 0,rfl,by rw[h4];exact rdL_wrL os.2,?_⟩⟩
   ·intro x hx;simp only[List.mem_cons,List.not_mem_nil,or_false] at hx;rcases hx with rfl|rfl<;>trivial
   ·have:=k H4 (by rw[h4];exact es.2)
    simp only[ruleDo] at this
    rw[if_neg (by omega)] at this;exact this
 | 4,_=>
  refine⟨298,_,_,rfl,by kernel_rfl,fun K k=>v298 (viewC at_ pend a n c (endOf l pend) v) fun H1 r n1 H2 s n2=>?_⟩
  have rr:∀j x,(viewC at_ pend a n c (endOf l pend) v)[j]?=some x->rd H2 r j=some x:=fun j x hj=>n2.mod.rd (by simp) ((n1.rd j).trans hj)
  have hs:H.size<=s:=Nat.le_trans n1.mod.1 n2.ge
  have e2:=n1.mod.new n2
  refine⟨_,rr 0 _ rfl,_,rr 3 _ rfl,fun h0=>?_,fun h0=>?_⟩
  ·refine c227 fun H3 e3=>actEnd n2.own none hs e2 (fun H' e'=>?_) e3 rfl
   have:=k H' e'
   simp only[ruleDo,h0,if_true] at this;exact this
  ·refine⟨rfl,?_,n2.own.w 0 2 rfl,fun H4 h4=>⟨actC 2 0,rfl,by rw[h4];exact rdL_wrL n2.own.2,?_⟩⟩
   ·intro x hx;simp only[List.mem_cons,List.not_mem_nil,or_false] at hx;rcases hx with rfl|rfl<;>trivial
   ·have:=k H4 (by rw[h4];exact e2.trans_new (Mod.refl.wrL (S:=[s]) (.inl (by simp))) (by simpa using hs))
    simp only[ruleDo,h0,if_false] at this;exact this
 | 5,_=>exact⟨351,_,_,rfl,by kernel_rfl,fun K k=>c351 _ _ h.q2.1 h.q2.2 k⟩
 | 6,_=>exact⟨351,_,_,rfl,by kernel_rfl,fun K k=>c351 _ _ h.q3.1 h.q3.2 k⟩
 | 7,_=>exact⟨351,_,_,rfl,by kernel_rfl,fun K k=>c351 _ _ h.q4.1 h.q4.2 k⟩
 | 8,_=>
  have r3:=hno 3 (by omega)
  have r4:=hno 4 (by omega)
  have r5:=hno 5 (by omega)
  have r7:=hno 7 (by omega)
  simp only[ruleIs,Bool.or_eq_false_iff,decide_eq_false_iff_not] at r3 r4 r5 r7
  have hf2:=hf.2 (by omega)
  refine⟨303,_,_,rfl,by kernel_rfl,fun K k=>v303 (viewC at_ pend a n c (endOf l pend) v) fun H1 r n1 H2 s n2=>?_⟩
  have rr:∀j x,(viewC at_ pend a n c (endOf l pend) v)[j]?=some x->rd H2 r j=some x:=fun j x hj=>n2.mod.rd (by simp) ((n1.rd j).trans hj)
  have hs:H.size<=s:=Nat.le_trans n1.mod.1 n2.ge
  have e2:=n1.mod.new n2
  refine⟨_,rr 3 _ rfl,_,rr 4 _ rfl,⟨by omega,by omega⟩,_,rr 6 _ rfl,⟨by omega,by omega⟩,?_⟩
  have q1:endOf l pend-v.base=(((endOf l pend-v.base).toNat:Nat):Int):=by omega
  have q2:v.free+1=(((v.free+1).toNat:Nat):Int):=by omega
  rw[q1,q2]
  refine c352 _ _ (by omega) (by omega) (by omega) (by omega) fun H3 e3=>⟨_,_,rfl,rfl,?_,(n2.own.mod e3 (by simp)).w 0 2 rfl,fun H4 h4=>⟨actC 1 ((splitOf (endOf l pend-v.base).toNat (v.free+1).toNat:Nat):Int),rfl,by rw[h4];exact rdL_wrL (n2.own.mod e3 (by simp)).2,?_⟩⟩
  ·intro x hx;simp only[List.mem_cons,List.not_mem_nil,or_false] at hx;rcases hx with rfl|rfl<;>trivial
  ·have:=k H4 (by rw[h4];exact (e2.thenExt e3).trans_new (Mod.refl.wrL (S:=[s]) (.inl (by simp))) (by simpa using hs))
   simp only[ruleDo] at this;exact this
theorem c178 (l at_ pend:Int){a:Option Addr}{n c:Nat}{tags:List Int}(h:RowI H a n tags)(ok:MOk ⟨at_,pend,l,0,tags⟩)(hn:1<=n)
  (K:∀H',Ext H H'->R (actR (revNext l at_ pend tags)) H'):Ru 178 [.int .i64 l,.agg (spotC at_ pend a n c).toArray] H R:=by
 have hlen:=h.len
 have ok':=ok
 obtain⟨l0,l1,at0,at1,p0,p1,tg,few⟩:=ok'
 dsimp only at l0 l1 at0 at1 p0 p1 tg few
 have hseen:=lookF_seen (fun t ht=>(tg t ht).1)
 have hend:0<=endOf l pend/\endOf l pend<65536:=by unfold endOf;split<;>omega
 refine v178 _ (spotC at_ pend a n c) fun H1 p n1 H2 p1 n2=>⟨_,rfl,n2.mod.rdL (by simp) n1.rdL,?_⟩
 have e2:=n1.mod.new n2
 have hp1:H.size<=p1:=Nat.le_trans n1.mod.1 n2.ge
 refine v226 _ (spotC at_ pend a n c) fun H3 q n3=>⟨_,rfl,n3.rdL,c117 _ _ _ (Ext.row (e2.new n3) h) ok fun H4 bm a' c' _ e4=>⟨_,_,rfl,fun _=>⟨_,_,_,e4.rd (by simp) (n3.rd 2),_,rfl,fun h'=>?_,fun _=>?_⟩,fun h'=>(h' rfl).elim⟩⟩
 ·simp at h';omega
 have e24:=n3.mod.thenExt e4
 have e04:=e2.thenExt e24
 have rl:RdL H4 p 0 (spotC at_ pend a n c):=(n2.mod.thenExt e24).rdL (by simp) n1.rdL
 have op:=n2.own.mod e24 (by simp)
 refine⟨_,rfl,rl,c228 l at_ pend (Ext.row e04 h) (by omega) (fun t ht=>(tg t ht).1) fun H5 e5=>⟨_,rfl,rfl,c229 l at_ pend a n c (lookF tags) ⟨hend.1,by omega⟩ ⟨at0,by omega⟩ fun H6 pv pl q r hR hrow e6=>⟨_,_,_,rfl,?_⟩⟩⟩
 have e06:=(e04.thenExt e5).thenExt e6
 have op6:=(op.mod e5 (by simp)).mod e6 (by simp)
 refine⟨fun i H'=>∃j:Nat,i=j/\j<=8/\Ext H6 H'/\(∀m,m<j->ruleIs l at_ pend (lookF tags) m=false)/\revNext l at_ pend tags=ruleFrom l at_ pend (lookF tags) (8-j) j,fun i _=>(9-i).toNat,⟨0,rfl,by omega,Mod.refl,by omega,rfl⟩,?_⟩
 rintro H7 _ ⟨j,rfl,hj,e7,hno,hrf⟩
 refine⟨fun hlt=>?_,fun hge=>by omega⟩
 have hrow7:=e7.rdL (S:=[]) (by simp) hrow
 have hlr:(rulesC pv pl (viewC at_ pend a n c (endOf l pend) (lookF tags)) q).length=18:=rfl
 have hfree:0<=(lookF tags).base->(lookF tags).free<1048576:=by
  intro hb
  have h1:=hseen.at_ hb
  rw[hseen.fr,List.take_of_length_le (Nat.le_refl _)]
  have hm:(lookF tags).base∈tags:=by
   rw[<-h1.2,List.getD_eq_getElem?_getD,List.getElem?_eq_getElem (by have:=hseen.slot0;omega)]
   exact List.getElem_mem _
  have:=countP_lt (p:=fun t=>decide (t<0)) hm (by simp;omega)
  omega
 have hcs:RdL H7 r (0+(j:Int).toNat*2) (((rulesC pv pl (viewC at_ pend a n c (endOf l pend) (lookF tags)) q).drop (j*2)).take 2):=by
  rw[Int.toNat_natCast];exact rdL_take (rdL_drop hrow7)
 have hl2:(((rulesC pv pl (viewC at_ pend a n c (endOf l pend) (lookF tags)) q).drop (j*2)).take 2).length=2:=by rw[List.length_take,List.length_drop,hlr];omega
 have g0:(((rulesC pv pl (viewC at_ pend a n c (endOf l pend) (lookF tags)) q).drop (j*2)).take 2)[0]?=(rulesC pv pl (viewC at_ pend a n c (endOf l pend) (lookF tags)) q)[j*2]?:=by
  rw[List.getElem?_take_of_lt (by omega),List.getElem?_drop];rfl
 have g1:(((rulesC pv pl (viewC at_ pend a n c (endOf l pend) (lookF tags)) q).drop (j*2)).take 2)[1]?=(rulesC pv pl (viewC at_ pend a n c (endOf l pend) (lookF tags)) q)[j*2+1]?:=by
  rw[List.getElem?_take_of_lt (by omega),List.getElem?_drop]
 have hone:∀x∈((rulesC pv pl (viewC at_ pend a n c (endOf l pend) (lookF tags)) q).drop (j*2)).take 2,One x:=by
  intro x hx
  have hx':=List.mem_of_mem_drop (List.mem_of_mem_take hx)
  simp only[rulesC,actF,List.mem_cons,List.not_mem_nil,or_false] at hx'
  rcases hx' with rfl|rfl|rfl|rfl|rfl|rfl|rfl|rfl|rfl|rfl|rfl|rfl|rfl|rfl|rfl|rfl|rfl|rfl<;>trivial
 refine⟨r,0,rfl,⟨by omega,hlt⟩,copyN hcs hl2 rfl hone fun H8 s o8 e8 hs hsl=>?_⟩
 have hR8:=(hR.ext e7).ext e8
 obtain⟨g,u,w,hg,hgc,hrun⟩:=ruleAsk hR8 ⟨hend.1,by omega⟩ j (by omega)
 refine⟨_,o8.rd 0 (g0.trans hg),g,u,w,rfl,hgc,hrun _ fun H9 e9=>⟨_,rfl,fun hyes=>?_,fun hnot=>?_⟩⟩
 ·obtain⟨g',u',w',hg',hgc',hrun'⟩:=ruleAct (hR8.ext e9) hend hseen.b0 ⟨hseen.f0,hfree⟩ j (by omega) hno
  refine⟨_,(o8.mod e9 (by simp)).rd 1 (g1.trans hg'),g',u',w',rfl,hgc',hrun' _ fun H10 e10=>?_⟩
  have hrn:revNext l at_ pend tags=ruleDo l at_ pend (lookF tags) j:=by
   rw[hrf]
   cases hf:8-j with
   | zero=>rfl
   | succ f=>simp only[ruleFrom,hyes,if_true]
  rw[hrn] at K
  exact actEnd op6 _ hp1 e06 K ((e7.thenExt e8).thenExt (e9.thenExt e10)) rfl
 ·have hj8:j<8:=by
   rcases Nat.lt_or_ge j 8 with h'|h'
   ·exact h'
   ·have:j=8:=by omega
    subst this
    simp[ruleIs] at hnot
  refine⟨⟨by omega,by omega⟩,⟨j+1,by push_cast;rfl,by omega,(e7.thenExt e8).thenExt e9,?_,?_⟩,by dsimp only;omega⟩
  ·intro m hm
   rcases Nat.lt_or_ge m j with h'|h'
   ·exact hno m h'
   ·have:m=j:=by omega
    subst this;exact hnot
  ·rw[hrf]
   obtain⟨f,hf⟩:∃f,8-j=f+1:=⟨7-j,by omega⟩
   rw[hf]
   simp only[ruleFrom,hnot]
   rw[show 8-(j+1)=f from by omega];rfl
end Go.VC
namespace Go.VC
open Go Go.Proofs
variable {H:Heap}{R:Value->Heap->Prop}
structure DB where
 d:Nat
 a:Nat
 w:Nat
 m:Nat
 s:Nat
 hp:HAt
 pa:Option Addr
 pc:Nat
structure DS where
 l:Int
 at_:Int
 pend:Int
 plain:Int
 tapd:Int
 losses:Int
 sweeps:Int
 live:Int
 peak:Int
 loss:UInt64
def slotsPtr (h:Hdr)(b:DB):Value:=if h.mode=3 then .pointer none else .pointer (some ⟨b.s,0,none⟩)
noncomputable def drvC (h:Hdr)(b:DB)(d:DS):List Value:=
 i64s (planL h)++(hdrC h b.hp++[.slice b.pa 10 b.pc,.pointer (some ⟨b.a,0,none⟩),slotsPtr h b,.pointer (some ⟨b.m,0,none⟩),.int .i64 d.l,.int .i64 d.at_,.int .i64 d.pend,
  .int .i64 d.plain,.int .i64 d.tapd,.int .i64 d.losses,.int .i64 d.sweeps,.int .u64 (d.loss.toNat:Int)])
structure ROff (h:Hdr)(b:DB)(S:List Nat):Prop where
 x:0<h.x.length->Off S b.hp.xa
 t:0<h.th.length->Off S b.hp.ta
 sp:0<h.step.ops.length->Off S b.hp.sa
 lp:0<h.loss.ops.length->Off S b.hp.la
 p:Off S b.pa
theorem Off.mono {S T:List Nat}{a:Option Addr}(h:Off S a)(hs:∀b∈T,b∈S):Off T a:=fun b o e hb=>h b o e (hs b hb)
theorem ROff.mono {h:Hdr}{b:DB}{S T:List Nat}(o:ROff h b S)(hs:∀x∈T,x∈S):ROff h b T:=⟨fun h=>(o.x h).mono hs,fun h=>(o.t h).mono hs,fun h=>(o.sp h).mono hs,fun h=>(o.lp h).mono hs,o.p.mono hs⟩
structure DrvM (H:Heap)(b:DB)(h:Hdr)(d:DS)(P:List (List UInt64))(K post:List UInt64):Prop where
 top:Own H b.d (drvC h b d)
 ar:Arena H b.a b.w (P.flatten++K++post) (P.flatten.length+K.length)
 met:Own H b.m (meterC d.live d.peak h.words)
 rows:HRows H h b.hp
 parts:RowI H b.pa 10 (placesOf h)
 plen:P.length=8
 pl:∀i (hi:i<P.length) (hi':i<(partsOf h).length),(P[i].length:Int)=(partsOf h)[i]
 kl:(K.length:Int)=slotOf h*slotsOf h
 tot:((P.flatten++K++post).length:Int)=h.words
 sl:h.mode≠3->RdL H b.s 0 (slotsC P.flatten.length (slotsOf h).toNat (nX h) b.a)
 ok:PlanOk h
 da:b.d≠b.a
 dw:b.d≠b.w
 dm:b.d≠b.m
 am:b.a≠b.m
 wm:b.w≠b.m
 so:b.s≠b.d/\b.s≠b.a/\b.s≠b.w/\b.s≠b.m
 off:ROff h b [b.d,b.a,b.w,b.m]
structure DOff (h:Hdr)(b:DB)(S:List Nat):Prop where
 d:b.d∉S
 a:b.a∉S
 w:b.w∉S
 m:b.m∉S
 s:h.mode≠3->b.s∉S
 r:ROff h b S
theorem ROff.nil (h:Hdr)(b:DB):ROff h b []:=⟨fun _=>Off.nil,fun _=>Off.nil,fun _=>Off.nil,fun _=>Off.nil,Off.nil⟩
theorem DOff.nil (h:Hdr)(b:DB):DOff h b []:=⟨by simp,by simp,by simp,by simp,by simp,ROff.nil h b⟩
theorem DOff.mono {h:Hdr}{b:DB}{S T:List Nat}(o:DOff h b S)(hs:∀x∈T,x∈S):DOff h b T:=⟨fun h'=>o.d (hs _ h'),fun h'=>o.a (hs _ h'),fun h'=>o.w (hs _ h'),fun h'=>o.m (hs _ h'),fun h3 h'=>o.s h3 (hs _ h'),o.r.mono hs⟩
theorem HRows.mod {S:List Nat}{H H':Heap}{h:Hdr}{b:DB}(r:HRows H h b.hp)(e:Mod S H H')(o:ROff h b S):HRows H' h b.hp:=
 ⟨e.rowz o.x r.x,e.rowz o.t r.th,e.rowz o.sp r.s,e.rowz o.lp r.l,r.x1,r.th1,r.s1,r.l1⟩
theorem DrvM.keep {S:List Nat}{H H':Heap}{b:DB}{h:Hdr}{d:DS}{P:List (List UInt64)}{K post:List UInt64}(v:DrvM H b h d P K post)(m:Mod S H H')(o:DOff h b S):DrvM H' b h d P K post:=
 { v with top:=v.top.mod m o.d,ar:=v.ar.mod m o.a o.w,met:=v.met.mod m o.m,rows:=v.rows.mod m o.r,parts:=Mod.row m o.r.p v.parts,sl:=fun h3=>m.rdL (o.s h3) (v.sl h3) }
theorem DrvM.ext {H H':Heap}{b:DB}{h:Hdr}{d:DS}{P:List (List UInt64)}{K post:List UInt64}(v:DrvM H b h d P K post)(e:Ext H H'):DrvM H' b h d P K post:=v.keep e (DOff.nil h b)
theorem ROff.fresh {H:Heap}{h:Hdr}{b:DB}{S:List Nat}(r:HRows H h b.hp)(p:RowI H b.pa 10 (placesOf h))(hS:∀x∈S,H.size<=x):ROff h b S:=
 ⟨fun h'=>r.x.fresh (by omega) h' hS,fun h'=>r.th.fresh (by omega) h' hS,fun h'=>r.s.fresh (by omega) h' hS,fun h'=>r.l.fresh (by omega) h' hS,p.fresh (by omega) (by omega) hS⟩
theorem DrvM.words {H:Heap}{b:DB}{h:Hdr}{d:DS}{P:List (List UInt64)}{K post:List UInt64}(v:DrvM H b h d P K post):0<(P.flatten++K++post).length:=by
 have h1:=v.pl 1 (by rw[v.plen];omega) (by rw[partsOf_length];omega)
 have h2:=v.ok.1.dims.1
 have h3:(P.flatten).length=((P.take 1).flatten++P[1]'(by rw[v.plen];omega)++(P.drop 2).flatten).length:=by
  have h:P=P.take 1++P[1]'(by rw[v.plen];omega) ::P.drop 2:=by rw[<-List.drop_eq_getElem_cons (by rw[v.plen];omega),List.take_append_drop]
  have:=congrArg (fun l=>(List.flatten l).length) h
  simp only[List.flatten_append,List.flatten_cons,List.append_assoc] at this ⊢
  exact this
 have h4:(partsOf h)[1]'(by rw[partsOf_length];omega)=(h.x.length:Int):=rfl
 rw[h4] at h1
 simp only[List.length_append] at h3 ⊢
 omega
theorem DrvM.fresh {H:Heap}{b:DB}{h:Hdr}{d:DS}{P:List (List UInt64)}{K post:List UInt64}(v:DrvM H b h d P K post){S:List Nat}(hS:∀x∈S,H.size<=x):DOff h b S:=by
 have h1:=v.top.lt (by unfold drvC;simp[i64s,planL])
 have h2:=v.ar.lt
 have h3:=v.ar.row.lt (u64s_ne v.words)
 have h4:=v.met.lt (by simp[meterC])
 refine⟨fun h'=>?_,fun h'=>?_,fun h'=>?_,fun h'=>?_,fun h3 h'=>?_,ROff.fresh v.rows v.parts hS⟩
 ·have:=hS _ h';omega
 ·have:=hS _ h';omega
 ·have:=hS _ h';omega
 ·have:=hS _ h';omega
 ·have:=rd_lt (v.sl h3).1;have:=hS _ h';omega
theorem DrvM.rd {H:Heap}{b:DB}{h:Hdr}{d:DS}{P:List (List UInt64)}{K post:List UInt64}(v:DrvM H b h d P K post)(j:Nat){x:Value}(hj:(drvC h b d)[j]?=some x):VC.rd H b.d j=some x:=v.top.rd j hj
theorem DrvM.setD {H H':Heap}{b:DB}{h:Hdr}{d:DS}{P:List (List UInt64)}{K post:List UInt64}(v:DrvM H b h d P K post)(d':DS)(ho:Own H' b.d (drvC h b d'))(m:Mod [b.d] H H')(e1:d'.live=d.live)(e2:d'.peak=d.peak):DrvM H' b h d' P K post:=by
 have hs:=v.so
 have sub:∀x∈[b.d],x∈[b.d,b.a,b.w,b.m]:=by simp
 refine { v with top:=ho,ar:=v.ar.mod m (by simpa using Ne.symm v.da) (by simpa using Ne.symm v.dw),met:=?_,rows:=v.rows.mod m (v.off.mono sub),parts:=Mod.row m (v.off.p.mono sub) v.parts,sl:=fun h3=>m.rdL (by simpa using hs.1) (v.sl h3) }
 rw[e1,e2];exact v.met.mod m (by simpa using Ne.symm v.dm)
theorem DrvM.setM {H H':Heap}{b:DB}{h:Hdr}{d:DS}{P:List (List UInt64)}{K post:List UInt64}(v:DrvM H b h d P K post)(live peak:Int)(ho:Own H' b.m (meterC live peak h.words))(m:Mod [b.m] H H'):DrvM H' b h { d with live:=live,peak:=peak } P K post:=by
 have hs:=v.so
 have sub:∀x∈[b.m],x∈[b.d,b.a,b.w,b.m]:=by simp
 exact { v with top:=v.top.mod m (by simpa using v.dm),ar:=v.ar.mod m (by simpa using v.am) (by simpa using v.wm),met:=ho,rows:=v.rows.mod m (v.off.mono sub),parts:=Mod.row m (v.off.p.mono sub) v.parts,sl:=fun h3=>m.rdL (by simpa using hs.2.2.2) (v.sl h3) }
theorem DrvM.setW {H H':Heap}{b:DB}{h:Hdr}{d:DS}{P P':List (List UInt64)}{K K' post:List UInt64}(v:DrvM H b h d P K post)(ha:Arena H' b.a b.w (P'.flatten++K'++post) (P.flatten.length+K.length))(m:Mod [b.w] H H')
  (hp:P'.map List.length=P.map List.length) (hk:K'.length=K.length):DrvM H' b h d P' K' post:=by
 have hs:=v.so
 have sub:∀x∈[b.w],x∈[b.d,b.a,b.w,b.m]:=by simp
 have hpl:P'.length=P.length:=by have:=congrArg List.length hp;simpa using this
 have hfl:P'.flatten.length=P.flatten.length:=by rw[List.length_flatten,List.length_flatten,hp]
 refine { v with top:=v.top.mod m (by simpa using v.dw),ar:=by rw[hfl,hk];exact ha,met:=v.met.mod m (by simpa using Ne.symm v.wm),rows:=v.rows.mod m (v.off.mono sub),parts:=Mod.row m (v.off.p.mono sub) v.parts,plen:=by rw[hpl,v.plen],pl:=?_,kl:=by rw[hk];exact v.kl,tot:=?_,sl:=fun h3=>by rw[hfl];exact m.rdL (by simpa using hs.2.2.1) (v.sl h3) }
 ·intro i hi hi'
  rw[<-v.pl i (by omega) hi']
  have:=congrArg (fun l=>l[i]?) hp
  simp only[List.getElem?_map,List.getElem?_eq_getElem hi,List.getElem?_eq_getElem (show i<P.length by omega),Option.map_some,Option.some.injEq] at this
  rw[this]
 ·have:=v.tot
  simp only[List.length_append,hfl,hk] at this ⊢
  exact this
theorem flatten_at {α:Type}{P:List (List α)}{i:Nat}(hi:i<P.length):P.flatten=(P.take i).flatten++P[i]++(P.drop (i+1)).flatten:=by
 have h:P=P.take i++P[i] ::P.drop (i+1):=by rw[<-List.drop_eq_getElem_cons hi,List.take_append_drop]
 exact (congrArg List.flatten h).trans (by simp only[List.flatten_append,List.flatten_cons,List.append_assoc])
theorem flatten_set {α:Type}{P:List (List α)}{i:Nat}(hi:i<P.length)(x:List α):(P.set i x).flatten=(P.take i).flatten++x++(P.drop (i+1)).flatten:=by
 rw[List.set_eq_take_append_cons_drop,if_pos hi];simp
theorem DrvM.offs_ {H:Heap}{b:DB}{h:Hdr}{d:DS}{P:List (List UInt64)}{K post:List UInt64}(v:DrvM H b h d P K post):∀i,i<=8->((P.take i).flatten.length:Int)=((partsOf h).take i).sum:=by
 intro i
 induction i with
 | zero=>intro _;simp
 | succ i ih=>
  intro hi
  have hP:=v.plen
  have hq:(partsOf h).length=9:=partsOf_length h
  rw[List.take_succ_eq_append_getElem (by omega),List.take_succ_eq_append_getElem (by omega),List.flatten_append,List.length_append,List.sum_append]
  have:=ih (by omega)
  have:=v.pl i (by omega) (by omega)
  simp only[List.flatten_cons,List.flatten_nil,List.append_nil,List.sum_cons,List.sum_nil];omega
theorem places_get (h:Hdr){i:Nat}(hi:i<=8):(placesOf h)[i]?=some ((partsOf h).take i).sum:=by
 unfold placesOf
 rw[List.getElem?_append_left (by simp[offs];omega)]
 simp[offs,show i<9 by omega]
theorem DrvM.place {H:Heap}{b:DB}{h:Hdr}{d:DS}{P:List (List UInt64)}{K post:List UInt64}(v:DrvM H b h d P K post){i:Nat}(hi:i<=8):∃bk o,At b.pa bk o/\((0:Int)<=i/\(i:Int)<((10:Nat):Int))/\VC.rd H bk (o+(i:Int).toNat)=some (.int .i64 ((P.take i).flatten.length:Int)):=by
 obtain⟨bk,o,e,hr⟩:=v.parts.at (by omega)
 refine⟨bk,o,e,⟨by omega,by omega⟩,?_⟩
 rw[v.offs_ i hi,Int.toNat_natCast]
 refine rdL_get' hr ?_
 simp only[i64s,List.getElem?_map,places_get h hi,Option.map_some]
theorem c121 {b:DB}{h:Hdr}{d:DS}{P:List (List UInt64)}{K post:List UInt64}(v:DrvM H b h d P K post)(i:Nat)(hi:i<8)
  (k:∀a c H',Buf 1 H' H.size a (P[i]'(by rw[v.plen];exact hi)).length c (u64s (P[i]'(by rw[v.plen];exact hi)))->Ext H H'->R (.slice a (P[i]'(by rw[v.plen];exact hi)).length c) H'):Ru 121 [.pointer (some ⟨b.d,0,none⟩),.int .i64 (i:Int)] H R:=by
 have hP:=v.plen
 have rp:VC.rd H b.d 13=some (.slice b.pa 10 b.pc):=v.rd 13 rfl
 obtain⟨b1,o1,e1,hb1,r1⟩:=v.place (i:=i) (by omega)
 obtain⟨b2,o2,e2,hb2,r2⟩:=v.place (i:=i+1) (by omega)
 have hfew:=v.ar.few
 have hall:(P.flatten++K++post).length=P.flatten.length+K.length+post.length:=by simp[Nat.add_assoc]
 have hsp:=flatten_at (P:=P) (i:=i) (by omega)
 have hspl:=congrArg List.length hsp
 simp only[List.length_append] at hspl
 have hi1:(P.take (i+1)).flatten.length=(P.take i).flatten.length+(P[i]'(by omega)).length:=by
  rw[List.take_succ_eq_append_getElem (by omega)];simp only[List.flatten_append,List.length_append,List.flatten_cons,List.flatten_nil,List.append_nil]
 have hb2':(0:Int)<=(i:Int)+1/\(i:Int)+1<((10:Nat):Int):=by omega
 have r2':VC.rd H b2 (o2+((i:Int)+1).toNat)=some (.int .i64 ((P.take (i+1)).flatten.length:Int)):=by
  have:=r2
  push_cast at this ⊢
  exact this
 refine v121 _ _ _ ⟨_,by rw[Nat.zero_add];exact v.rd 14 rfl,_,_,_,by rw[Nat.zero_add];exact rp,b1,o1,e1,hb1,_,r1,_,_,_,by rw[Nat.zero_add];exact rp,⟨by omega,by omega⟩,b2,o2,e2,hb2',_,r2',_,_,_,by rw[Nat.zero_add];exact rp,b1,o1,e1,hb1,_,r1,⟨by omega,by omega⟩,?_⟩
 ·have en:((P.take (i+1)).flatten.length:Int)-((P.take i).flatten.length:Int)=((P[i]'(by omega)).length:Int):=by omega
  rw[en]
  refine c183 v.ar _ _ (by omega) fun a c H' hB e=>⟨_,_,_,_,rfl,?_⟩
  have hpart:((P.flatten++K++post).drop (P.take i).flatten.length).take (P[i]'(by omega)).length=P[i]'(by omega):=by
   rw[hsp];simp
  rw[hpart] at hB
  exact k a c H' hB e
def putP (P:List (List UInt64))(i:Nat)(xs:List UInt64):List (List UInt64):=P.set i (xs++(P.getD i []).drop xs.length)
theorem c112 {b:DB}{h:Hdr}{d:DS}{P:List (List UInt64)}{K post:List UInt64}(v:DrvM H b h d P K post)(i:Nat)(hi:i<8){a:Option Addr}{l c:Nat}{xs:List UInt64}(hx:RowU H a l xs)(hl:l<=(P[i]'(by rw[v.plen];exact hi)).length)
  (k:∀H',DrvM H' b h d (putP P i xs) K post->Mod [b.w] H H'->R (.tuple #[]) H'):Ru 112 [.pointer (some ⟨b.d,0,none⟩),.int .i64 (i:Int),.slice a l c] H R:=by
 have hP:=v.plen
 have hxl:=hx.len
 obtain⟨b1,o1,e1,hb1,r1⟩:=v.place (i:=i) (by omega)
 have hsp:=flatten_at (P:=P) (i:=i) (by omega)
 have hspl:=congrArg List.length hsp
 simp only[List.length_append] at hspl
 refine v112 _ _ _ _ _ _ ⟨_,by rw[Nat.zero_add];exact v.rd 14 rfl,_,_,_,by rw[Nat.zero_add];exact v.rd 13 rfl,b1,o1,e1,hb1,_,r1,?_⟩
 refine c177 v.ar _ hx (by omega) fun H' hA m=>⟨_,rfl,k H' (v.setW ?_ m ?_ rfl) m⟩
 ·have hg:P.getD i []=P[i]'(by omega):=by rw[List.getD_eq_getElem?_getD,List.getElem?_eq_getElem (by omega)];rfl
  have ho:over (P.flatten++K++post) (P.take i).flatten.length xs=(putP P i xs).flatten++K++post:=by
   unfold putP
   rw[hg,flatten_set (by omega),hsp]
   have:=over_mid (P.take i).flatten ((P[i]'(by omega)).take l) ((P[i]'(by omega)).drop l++((P.drop (i+1)).flatten++K++post)) xs _ rfl (by simp;omega)
   have e3:(P.take i).flatten++P[i]'(by omega)++(P.drop (i+1)).flatten++K++post=(P.take i).flatten++(P[i]'(by omega)).take l++((P[i]'(by omega)).drop l++((P.drop (i+1)).flatten++K++post)):=by
    simp only[List.append_assoc]
    rw[<-List.append_assoc ((P[i]'(by omega)).take l),List.take_append_drop]
   rw[e3,this,hxl];simp
  rw[ho] at hA;exact hA
 ·unfold putP
  have hg:P.getD i []=P[i]'(by omega):=by rw[List.getD_eq_getElem?_getD,List.getElem?_eq_getElem (by omega)];rfl
  rw[hg,List.map_set]
  apply List.ext_getElem?
  intro j
  rw[List.getElem?_set]
  split
  ·rename_i e;subst e
   simp[show i<P.length by omega];omega
  ·rfl
end Go.VC
namespace Go.VC
open Go Go.Proofs
variable {H:Heap}{R:Value->Heap->Prop}
theorem unr_prune {p:Prog}{t:Tree}(g:GoodP p t):t.prune.unroll=unr p:=by rw[Tree.unroll_prune,unr_eq g]
theorem wr_unr {p:Prog}(g:∃t,GoodP p t):wr_ p=(unr p).length:=by
 obtain⟨t,g⟩:=g
 rw[wr_eq g,unr_eq g,Tree.size_eq]
theorem prune_small {p:Prog}{t:Tree}(g:GoodP p t):(t.prune.link 0).length<=4096:=by
 rw[Tree.link_length]
 have h1:=t.len_prune
 have h2:=g.form.1
 rw[<-g.flat] at h2;omega
theorem prune_depth {p:Prog}{t:Tree}(g:GoodP p t):t.prune.depth<=8:=Nat.le_trans t.depth_prune g.depth
theorem prune_size {p:Prog}{t:Tree}(g:GoodP p t):t.prune.size<=65536:=by rw[Tree.size_prune];exact g.few
theorem Buf.own {H:Heap}{n:Nat}{a:Option Addr}{l c:Nat}{xs:List UInt64}(h:Buf 1 H n a l c (u64s xs))(hl:0<l):∃b,a=some ⟨b,0,none⟩/\n<=b/\Own H b (u64s xs):=by
 have hle:=h.le
 have hlen:=h.len
 rcases h.ok with h0|⟨b,e,hn,hr,hw⟩
 ·omega
 ·exact⟨b,e,hn,hr,wok_sub hw (by omega) (by omega)⟩
theorem New.ownz {H H':Heap}{ty p n:Nat}(h:New H (rep n [.int .u64 0]) ty H' p):Own H' p (u64s (zeros n)):=by rw[rep_u64] at h;exact h.own
theorem c205 {p:Prog}{a:Option Addr}{l c:Nat}(h:RowO H a l p.ops)(hl:l<=4398046511104)(g:∃t,GoodP p t){a1:Option Addr}{l1 c1:Nat}{xs:List UInt64}(hx:RowU H a1 l1 xs)(hr:l1=p.regs.toNat)
  (k:∀H' q,Own H' q (u64s (fwd (unr p) xs))->Ext H H'->H.size<=q->R (.tuple #[.slice (some ⟨q,0,none⟩) p.regs.toNat p.regs.toNat,.int .i64 0]) H'):Ru 205 [.agg (progC p a l c).toArray,.slice a1 l1 c1] H R:=by
 obtain⟨t,g⟩:=g
 have hxl:=hx.len
 have hp1:=g.regs.1;have hp2:=g.regs.2.1
 refine v205 (progC p a l c) _ _ _ fun H1 q n1=>⟨_,rfl,n1.rdL,?_⟩
 refine v267 (progC p a l c) _ _ _ fun H2 q2 n2=>⟨_,rfl,n2.rdL,?_⟩
 have e2:=n1.mod.new n2
 refine c216 (Ext.row e2 h) hl g fun ac lc cc H3 hB e3=>⟨_,_,_,_,rfl,by simp,fun _=>⟨_,e3.rd (by simp) (n2.rd 0),fun h'=>by omega,fun _=>⟨_,e3.rd (by simp) (n2.rd 0),⟨by omega,by omega,by omega,by omega,by omega⟩,fun H4 b n4=>?_⟩⟩⟩
 have e23:=e2.thenExt e3
 have e4:=e23.new n4
 refine⟨u64s xs,by simp;omega,(Ext.row e4 hx).2,?_⟩
 have hge:H.size<=b:=Nat.le_trans e23.1 n4.ge
 have hown:∀H5,H5=wrL H4 b 0 (u64s xs)->Own H5 b (u64s xs)/\Mod [b] H4 H5:=by
  rintro _ rfl
  refine⟨n4.own.swrL ?_,Mod.refl.wrL (.inl (by simp))⟩
  rw[rep_length];simp;omega
 refine .inr ⟨b,0,rfl,?_,u64s_one,fun H5 h5=>?_⟩
 ·have:=n4.own.2
  rw[rep_length] at this
  refine wok_sub this (by omega) ?_
  simp;omega
 obtain⟨o5,m5⟩:=hown H5 h5
 clear h5 hown
 have e5:Ext H H5:=e4.trans_new m5 (by simpa using hge)
 have hbl:=n4.lt
 have hnb:=n4.ge
 have hB5:=(hB.ext n4.mod).keep2 m5 (by
  intro hc x e hx;simp at hx;subst hx;subst e
  have:=hB.lt hc (by omega);omega)
 refine⟨_,_,_,_,_,_,_,rfl,by simp,fun _=>?_⟩
 have hrl:p.regs.toNat=xs.length:=by omega
 rw[hrl]
 refine c268 hB5.row (Tree.ok_prune g.ok) (Tree.full_prune t) (prune_depth g) o5 ?_ (fun o ho=>?_) (prune_size g) (by omega) (prune_small g) fun H6 o6 m6=>?_
 ·intro hlc
  refine hB5.offS (by omega) hlc fun x _ hx e=>?_
  simp at hx;subst hx;subst e
  have hlc':=hB.le
  have:=hB.lt (by omega) (by omega);omega
 ·rw[Tree.unroll_prune] at ho
  have:=good_reg g ho
  rwa [hrl] at this
 ·rw[unr_prune g] at o6
  have:=k H6 b o6 (e5.trans_new m6 (by simpa using hge)) hge
  rwa [hrl] at this
theorem c234 {p:Prog}{a:Option Addr}{l c:Nat}(h:RowO H a l p.ops)(hl:l<=4398046511104)(g:∃t,GoodP p t){br c1 bt c2:Nat}{regs tp:List UInt64}(hr:Own H br (u64s regs))(hrl:regs.length=p.regs.toNat)(ht:Own H bt (u64s tp))(htl:tp.length=wr_ p)(hbb:br≠bt)
  (hbr:br<H.size) (hbt:bt<H.size)
  (k:∀r H',Own H' br (u64s (fwd (unr p) regs))->Own H' bt (u64s (taped (unr p) regs))->Mod [br,bt] H H'->R (.tuple #[.int .i64 r,.int .i64 0]) H'):Ru 234 [.agg (progC p a l c).toArray,.slice (some ⟨br,0,none⟩) regs.length c1,.slice (some ⟨bt,0,none⟩) tp.length c2] H R:=by
 have hwu:=wr_unr g
 have g':=g
 obtain⟨t,g⟩:=g
 have hp1:=g.regs.1
 refine v234 (progC p a l c) _ _ _ _ _ _ fun H1 q n1=>⟨_,rfl,n1.rdL,?_⟩
 refine v312 (progC p a l c) _ _ _ _ _ _ fun H2 q2 n2=>⟨_,rfl,n2.rdL,?_⟩
 have e2:=n1.mod.new n2
 refine c216 (Ext.row e2 h) hl g fun ac lc cc H3 hB e3=>⟨_,_,_,_,rfl,by simp,fun _=>⟨_,_,_,e3.rd (by simp) (n2.rd 1),?_⟩⟩
 have e23:=e2.thenExt e3
 refine c167g (Ext.row e23 h) hl g' fun H4 e4=>⟨_,_,rfl,_,(e3.thenExt e4).rd (by simp) (n2.rd 0),fun h'=>by omega,fun _=>⟨fun h'=>by omega,fun _=>⟨_,_,_,_,rfl,by simp,fun _=>?_⟩⟩⟩
 have e14:=e23.thenExt e4
 have hB4:=hB.ext e4
 have hz:=e2.1
 refine c313 hB4.row (Tree.ok_prune g.ok) (Tree.full_prune t) (prune_depth g) (hr.mod e14 (by simp)) (ht.mod e14 (by simp)) ?_ hbb (by have:=e14.1;omega) ?_ (fun o ho=>?_) (prune_size g) (by omega) (prune_small g) fun H5 o5 ot5 m5=>⟨_,rfl,?_⟩
 ·rw[htl,hwu,<-unr_prune g,<-Tree.size_eq]
 ·intro hlc
  refine hB4.offS (by omega) hlc fun x _ hx e=>?_
  subst e
  rcases hB.ok with h0|⟨b',e',hn,_⟩
  ·have:=hB.le;omega
  ·cases e'
   simp only[List.mem_cons,List.not_mem_nil,or_false] at hx;omega
 ·rw[Tree.unroll_prune] at ho
  have:=good_reg g ho
  rwa [<-hrl] at this
 ·rw[unr_prune g] at o5 ot5
  exact k _ H5 o5 ot5 ((Mod.ext e14).trans m5)
theorem c314 {p:Prog}{a:Option Addr}{l c:Nat}(h:RowO H a l p.ops)(hl:l<=4398046511104)(g:∃t,GoodP p t){br ro c1 ba c2:Nat}{regs adj tp:List UInt64}{a3:Option Addr}{l3 c3:Nat}(hr:OwnO H br ro (u64s regs))(hrl:regs.length=p.regs.toNat)
  (ha:Own H ba (u64s adj)) (hal:adj.length=p.regs.toNat) (ht:RowU H a3 l3 tp) (htl:wr_ p<=l3) (hbb:br≠ba) (hoff3:0<l3->Off [ba] a3) (hsep:0<l3->Sep br ro l3 a3) (hbr:br<H.size) (hba:ba<H.size)
  (k:∀H',OwnO H' br ro (u64s (bwd ((unr p).zip tp).reverse (regs,adj)).1)->Own H' ba (u64s (bwd ((unr p).zip tp).reverse (regs,adj)).2)->Mod [br,ba] H H'->R (.int .i64 0) H') :
  Ru 314 [.agg (progC p a l c).toArray,.slice (some ⟨br,ro,none⟩) regs.length c1,.slice (some ⟨ba,0,none⟩) adj.length c2,.slice a3 l3 c3] H R:=by
 have hwu:=wr_unr g
 have g':=g
 obtain⟨t,g⟩:=g
 have hp1:=g.regs.1
 refine v314 (progC p a l c) _ _ _ _ _ _ _ _ _ fun H1 q n1=>⟨_,rfl,n1.rdL,?_⟩
 refine c216 (Ext.row n1.mod h) hl g fun ac lc cc H3 hB e3=>⟨_,_,_,_,rfl,by simp,fun _=>⟨_,_,_,e3.rd (by simp) (n1.rd 1),?_⟩⟩
 have e23:=n1.mod.thenExt e3
 refine c167g (Ext.row e23 h) hl g' fun H4 e4=>⟨_,_,rfl,_,(e3.thenExt e4).rd (by simp) (n1.rd 0),fun h'=>by omega,fun _=>⟨_,(e3.thenExt e4).rd (by simp) (n1.rd 0),fun h'=>by omega,fun _=>⟨fun h'=>by omega,fun _=>?_⟩⟩⟩
 have e14:=e23.thenExt e4
 have hB4:=hB.ext e4
 have hz:=n1.mod.1
 have hsz:(wr_ p:Int)=(t.prune.size:Int):=by rw[hwu,<-unr_prune g,<-Tree.size_eq]
 rw[hsz]
 refine c353 hB4.row (Tree.ok_prune g.ok) (Tree.full_prune t) (prune_depth g) (hr.mod e14 (by simp)) (ha.mod e14 (by simp)) (Ext.row e14 ht) (by omega) hbb ?_ hoff3 hsep (by omega) (fun o ho=>?_) (prune_size g) (by omega) (prune_small g) fun H5 o5 oa5 m5=>?_
 ·intro hlc
  refine hB4.offS (by omega) hlc fun x _ hx e=>?_
  subst e
  rcases hB.ok with h0|⟨b',e',hn,_⟩
  ·have:=hB.le;omega
  ·cases e'
   simp only[List.mem_cons,List.not_mem_nil,or_false] at hx;omega
 ·rw[Tree.unroll_prune] at ho
  have:=good_reg g ho
  rwa [<-hrl] at this
 ·rw[unr_prune g] at o5 oa5
  exact k H5 o5 oa5 ((Mod.ext e14).trans m5)
end Go.VC
namespace Go.VC
open Go Go.Proofs
variable {H:Heap}{R:Value->Heap->Prop}
def catN (X:Nat->List UInt64):Nat->List UInt64
 | 0=>[]
 | j+1=>catN X j++X j
theorem c270 (n:Nat)(hn:n<=1048576)(k:∀a c H',Buf 1 H' H.size a 0 c []->Ext H H'->R (.slice a 0 c) H'):Ru 270 [.slice none 0 0,.int .i64 (n:Int)] H R:=by
 refine v270 _ _ _ _ ⟨by omega,fun _=>⟨⟨by omega,by omega⟩,⟨by omega,by omega⟩,fun hpos=>⟨⟨by omega,by omega⟩,⟨by omega,by omega,by omega,by omega⟩,?_⟩,fun hz=>k _ _ _ Buf.nil Mod.refl⟩⟩
 have e1:Int.toNat ((0:Nat):Int)=0:=rfl
 have e2:((n:Int)-(((0:Nat):Int)-((0:Nat):Int))).toNat=n:=by omega
 rw[e1,e2]
 refine (Buf.nil (sz:=1) (H:=H) (n:=H.size) (a:=none)).app (Nat.le_refl _) (by rw[rep_length];rfl) rfl (by rw[rep_u64];exact u64s_one) (by omega) (by omega) fun a' c' H' S hB hM hS=>⟨⟨by omega,by omega⟩,?_⟩
 have hB0:Buf 1 H' H.size a' 0 c' []:=by
  rw[List.nil_append] at hB
  exact Buf.shrink (xs:=[]) (l:=0+n) hB rfl (by omega)
 exact k _ _ _ hB0 (Mod.refl.trans_new (S:=[]) hM fun b hb=>.inr (hS b hb))
theorem c206 {q:Nat}(A:Nat->Option Addr)(L C:Nat->Nat)(X:Nat->List UInt64)(hq:∀j,j<3->rd H q j=some (.slice (A j) (L j) (C j)))(hr:∀j,j<3->RowU H (A j) (L j) (X j))(hl:∀j,j<3->L j<=65536)
  (k:∀a c H',Buf 1 H' H.size a (catN X 3).length c (u64s (catN X 3))->Ext H H'->R (.slice a (catN X 3).length c) H'):Ru 206 [.slice (some ⟨q,0,none⟩) 3 3] H R:=by
 have hcl:∀j,j<3->(catN X (j+1)).length=(catN X j).length+L j:=by
  intro j hj
  have:=(hr j hj).len
  simp[catN,this]
 have hb:∀j,j<=3->(catN X j).length<=65536*j:=by
  intro j
  induction j with
  | zero=>intro _;simp[catN]
  | succ j ih=>intro hj;have:=ih (by omega);have:=hcl j (by omega);have:=hl j (by omega);omega
 refine v206 _ _ _ ⟨fun n i H'=>∃j:Nat,i=j/\j<=3/\n=((catN X j).length:Int)/\H'=H,fun _ i _=>(3-i).toNat,⟨0,rfl,by omega,rfl,rfl⟩,?_⟩
 rintro H _ _ ⟨j,rfl,hj,rfl,rfl⟩
 have hbj:=hb j hj
 refine⟨fun hlt=>⟨q,0,rfl,⟨by omega,hlt⟩,_,_,_,by rw[Nat.zero_add,Int.toNat_natCast];exact hq j (by omega),?_⟩,fun hge=>?_⟩
 ·have:=hl j (by omega)
  have:=hcl j (by omega)
  refine⟨⟨by omega,by omega⟩,by omega,fun _=>⟨⟨by omega,by omega⟩,⟨j+1,by push_cast;rfl,by omega,by omega,rfl⟩,by (try dsimp only);omega⟩⟩
 have:j=3:=by omega
 subst this
 refine c270 _ (by omega) fun a c H1 hB e1=>⟨_,_,_,rfl,fun a l c i H'=>∃j:Nat,i=j/\j<=3/\l=(catN X j).length/\Buf 1 H' H.size a l c (u64s (catN X j))/\Ext H H',fun _ _ _ i _=>(3-i).toNat,⟨0,rfl,by omega,rfl,hB,e1⟩,?_⟩
 rintro H2 a l c _ ⟨j,rfl,hj,rfl,hB,e2⟩
 have hbj:=hb j hj
 refine⟨fun hlt=>⟨q,0,rfl,⟨by omega,hlt⟩,_,_,_,by rw[Nat.zero_add,Int.toNat_natCast];exact e2.rd (by simp) (hq j (by omega)),u64s (X j),by rw[u64s_length,(hr j (by omega)).len],(Ext.row e2 (hr j (by omega))).2,?_⟩,fun hge=>?_⟩
 ·have:=hl j (by omega)
  have hcl':=hcl j (by omega)
  refine hB.app e2.1 (by rw[u64s_length,(hr j (by omega)).len,Nat.mul_one]) rfl u64s_one (by omega) (by omega) fun a' c' H3 S hB3 hM3 hS3=>⟨⟨by omega,by omega⟩,⟨j+1,by push_cast;rfl,by omega,hcl'.symm,?_,e2.trans_new hM3 fun b hb=>.inr (hS3 b hb)⟩,by (try dsimp only);omega⟩
  rw[<-u64s_append] at hB3
  exact hB3
 ·have:j=3:=by omega
  subst this
  exact k _ _ _ hB e2
structure PS where
 th:List UInt64
 st:List UInt64
 sr:List UInt64
 lr:List UInt64
 ad:List UInt64
 ax:List UInt64
 ag:List UInt64
 tp:List UInt64
def PS.l (s:PS):List (List UInt64):=[s.th,s.st,s.sr,s.lr,s.ad,s.ax,s.ag,s.tp]
abbrev Drv (H:Heap)(b:DB)(h:Hdr)(d:DS)(s:PS)(K post:List UInt64):Prop:=DrvM H b h d s.l K post
structure PLen (h:Hdr)(s:PS):Prop where
 th:s.th.length=nT h
 st:s.st.length=nX h
 sr:s.sr.length=nS h
 lr:s.lr.length=nL h
 ad:s.ad.length=max (nS h) (nL h)
 ax:s.ax.length=nX h
 ag:s.ag.length=nT h
theorem DrvM.lens {H:Heap}{b:DB}{h:Hdr}{d:DS}{s:PS}{K post:List UInt64}(v:Drv H b h d s K post):PLen h s:=by
 have ok:=v.ok.1
 obtain⟨t1,g1⟩:=ok.step
 obtain⟨t2,g2⟩:=ok.loss
 have a1:=g1.regs.1;have b1:=g2.regs.1
 have hq:(partsOf h).length=9:=partsOf_length h
 have p0:=v.pl 0 (by simp[PS.l]) (by omega)
 have p1:=v.pl 1 (by simp[PS.l]) (by omega)
 have p2:=v.pl 2 (by simp[PS.l]) (by omega)
 have p3:=v.pl 3 (by simp[PS.l]) (by omega)
 have p4:=v.pl 4 (by simp[PS.l]) (by omega)
 have p5:=v.pl 5 (by simp[PS.l]) (by omega)
 have p6:=v.pl 6 (by simp[PS.l]) (by omega)
 simp only[PS.l,partsOf,List.getElem_cons_zero,List.getElem_cons_succ] at p0 p1 p2 p3 p4 p5 p6
 exact⟨by simp only[nT];omega,by simp only[nX];omega,by simp only[nS];omega,by simp only[nL];omega,by simp only[nS,nL];omega,by simp only[nX];omega,by simp only[nT];omega⟩
theorem DrvM.hdr {H:Heap}{b:DB}{h:Hdr}{d:DS}{P:List (List UInt64)}{K post:List UInt64}(v:DrvM H b h d P K post):RdL H b.d (0+4) (hdrC h b.hp):=by
 have:=v.top.1
 unfold drvC at this
 have:=(rdL_append.1 this).2
 exact (rdL_append.1 this).1
theorem DrvM.stepC {H:Heap}{b:DB}{h:Hdr}{d:DS}{P:List (List UInt64)}{K post:List UInt64}(v:DrvM H b h d P K post):RdL H b.d (0+7) (progC h.step b.hp.sa h.step.ops.length b.hp.sc):=
 ⟨v.hdr.2.2.2.1,v.hdr.2.2.2.2.1,trivial⟩
theorem DrvM.lossC {H:Heap}{b:DB}{h:Hdr}{d:DS}{P:List (List UInt64)}{K post:List UInt64}(v:DrvM H b h d P K post):RdL H b.d (0+9) (progC h.loss b.hp.la h.loss.ops.length b.hp.lc):=
 ⟨v.hdr.2.2.2.2.2.1,v.hdr.2.2.2.2.2.2.1,trivial⟩
theorem c233 {b:DB}{h:Hdr}{d:DS}{s:PS}{K post:List UInt64}(v:Drv H b h d s K post)(p:Prog){ap:Option Addr}{lp cp:Nat}{a2:Option Addr}{l2 c2:Nat}{xs:List UInt64}(hx:RowU H a2 l2 xs)
  {a3:Option Addr} {l3 c3:Nat} {zs:List UInt64} (hz:RowU H a3 l3 zs) (hn:l2+s.th.length+l3<=p.regs.toNat) (hp:1<=p.regs/\p.regs<=64)
  (k:∀a c H',Buf 1 H' H.size a p.regs.toNat c (u64s (padTo p.regs.toNat (xs++s.th++zs)))->Ext H H'->R (.slice a p.regs.toNat c) H') :
  Ru 233 [.pointer (some ⟨b.d,0,none⟩),.agg (progC p ap lp cp).toArray,.slice a2 l2 c2,.slice a3 l3 c3] H R:=by
 have hxl:=hx.len;have hzl:=hz.len
 refine v233 _ _ (progC p ap lp cp) _ _ _ _ _ _ fun H1 q n1=>c121 (v.ext n1.mod) 0 (by omega) fun a0 c0 H2 hB0 e2=>⟨_,_,_,rfl,fun H3 q3 n3=>?_⟩
 have e12:=n1.mod.thenExt e2
 have e13:=e12.new n3
 have hB3:=hB0.ext n3.mod
 refine c206 (fun j=>match j with|0=>a2|1=>a0|_=>a3) (fun j=>match j with|0=>l2|1=>s.th.length|_=>l3) (fun j=>match j with|0=>c2|1=>c0|_=>c3) (fun j=>match j with|0=>xs|1=>s.th|_=>zs) ?_ ?_ ?_ fun a c H4 hB e4=>?_
 ·intro j hj
  match j,hj with
  | 0,_=>exact n3.rd 0
  | 1,_=>exact n3.rd 1
  | 2,_=>exact n3.rd 2
 ·intro j hj
  match j,hj with
  | 0,_=>exact Ext.row e13 hx
  | 1,_=>exact hB3.row
  | 2,_=>exact Ext.row e13 hz
 ·intro j hj
  match j,hj with
  | 0,_=>show l2<=65536;omega
  | 1,_=>show s.th.length<=65536;omega
  | 2,_=>show l3<=65536;omega
 have hcat:catN (fun j=>match j with|0=>xs|1=>s.th|_=>zs) 3=xs++s.th++zs:=by simp[catN]
 rw[hcat] at hB ⊢
 have hlen:(xs++s.th++zs).length=l2+s.th.length+l3:=by simp[hxl,hzl];omega
 have hm:(p.regs-((xs++s.th++zs).length:Int)).toNat=p.regs.toNat-(xs++s.th++zs).length:=by omega
 refine⟨_,_,_,rfl,_,((n3.mod.thenExt e4)).rd (by simp) (e2.rd (by simp) (n1.rd 0)),⟨by omega,by omega⟩,⟨by omega,by omega,by omega,by omega⟩,?_⟩
 rw[hm]
 refine hB.app e4.1 (by rw[rep_length];rfl) rfl (by rw[rep_u64];exact u64s_one) (by omega) (by omega) fun a' c' H5 S hB5 hM5 hS5=>?_
 rw[rep_u64,<-u64s_append] at hB5
 have hl5:(xs++s.th++zs).length+(p.regs.toNat-(xs++s.th++zs).length)=p.regs.toNat:=by omega
 rw[hl5] at hB5 ⊢
 refine k _ _ _ (hB5.down e13.1) ((e13.thenExt e4).trans_new hM5 fun b hb=>.inr (by have:=hS5 b hb;have:=e13.1;omega))
theorem c240 (p:Prog){ap:Option Addr}{lp cp:Nat}{a2:Option Addr}{l2 c2:Nat}{xs:List UInt64}(hx:RowU H a2 l2 xs)(hn:l2<=p.regs.toNat)(hp:1<=p.regs/\p.regs<=64)
  (k:∀a c H',Buf 1 H' H.size a p.regs.toNat c (u64s (padTo p.regs.toNat xs))->Ext H H'->R (.slice a p.regs.toNat c) H') :
  Ru 240 [.agg (progC p ap lp cp).toArray,.slice a2 l2 c2] H R:=by
 have hxl:=hx.len
 refine v240 (progC p ap lp cp) _ _ _ fun H1 q n1=>⟨_,n1.rd 0,⟨by omega,by omega⟩,c69 (Ext.row n1.mod hx) (by omega) fun a c H2 hB e2=>⟨_,_,_,rfl,e2.rd (by simp) (n1.rd 0),⟨by omega,by omega,by omega,by omega⟩,?_⟩⟩
 have hm:(p.regs-(l2:Int)).toNat=p.regs.toNat-xs.length:=by omega
 rw[hm]
 have e12:=n1.mod.thenExt e2
 refine hB.app e2.1 (by rw[rep_length];rfl) rfl (by rw[rep_u64];exact u64s_one) (by omega) (by omega) fun a' c' H5 S hB5 hM5 hS5=>?_
 rw[rep_u64,<-u64s_append] at hB5
 have hl5:l2+(p.regs.toNat-xs.length)=p.regs.toNat:=by omega
 rw[hl5] at hB5 ⊢
 exact k _ _ _ (hB5.down n1.mod.1) (e12.trans_new hM5 fun b hb=>.inr (by have:=hS5 b hb;have:=n1.mod.1;omega))
end Go.VC
namespace Go.VC
open Go Go.Proofs
theorem Own.rowU {H:Heap}{b:Nat}{xs:List UInt64}{l:Nat}(h:Own H b (u64s xs))(hl:l=xs.length):RowU H (some ⟨b,0,none⟩) l xs:=⟨by simp[hl],.inr ⟨b,0,rfl,h.1⟩⟩
theorem Own.rowT {H:Heap}{b:Nat}{xs:List UInt64}{l:Nat}(h:Own H b (u64s xs))(hl:l<=xs.length):RowU H (some ⟨b,0,none⟩) l (xs.take l):=by
 refine⟨by simp;omega,.inr ⟨b,0,rfl,?_⟩⟩
 have:=rdL_take (k:=l) h.1
 simpa [u64s,List.map_take] using this
def addTo (a r:List UInt64)(j:Nat):List UInt64:=addL (a.take j) (r.take j)++a.drop j
theorem addTo_zero (a r:List UInt64):addTo a r 0=a:=by simp[addTo,addL]
theorem addTo_length {a r:List UInt64}{j:Nat}(hl:r.length=a.length):(addTo a r j).length=a.length:=by
 simp[addTo,addL,List.length_zipWith,hl];omega
theorem addTo_all {a r:List UInt64}(hl:r.length=a.length):addTo a r a.length=addL a r:=by
 unfold addTo
 rw[List.take_of_length_le (by omega),List.take_of_length_le (by omega),List.drop_of_length_le (by omega),List.append_nil]
theorem addTo_get {a r:List UInt64}{j:Nat}(hj:j<a.length)(hl:r.length=a.length):(addTo a r j)[j]'(by rw[addTo_length hl];exact hj)=a[j]:=by
 unfold addTo
 rw[List.getElem_append_right (by simp[addL];omega)]
 simp[addL,hl,show min j a.length=j by omega]
theorem addTo_succ {a r:List UInt64}{j:Nat}(hj:j<a.length)(hl:r.length=a.length):(addTo a r j).set j (a[j]+r[j]'(by omega))=addTo a r (j+1):=by
 unfold addTo
 have h1:(addL (a.take j) (r.take j)).length=j:=by simp[addL,hl];omega
 rw[List.drop_eq_getElem_cons hj,set_mid _ _ _ _ _ h1.symm,List.take_succ_eq_append_getElem hj,List.take_succ_eq_append_getElem (by omega),addL,addL,List.zipWith_append (by simp;omega)]
 simp
theorem c239 {H:Heap}{R:Value->Heap->Prop}{b:DB}{h:Hdr}{d:DS}{s:PS}{K post:List UInt64}(v:Drv H b h d s K post){p:Prog}{ap:Option Addr}{lp cp:Nat}(hr:RowO H ap lp p.ops)(hlp:lp<=4398046511104)(g:∃t,GoodP p t)
  (hmax:p.regs.toNat<=max (nS h) (nL h)) (hmin:nX h+nT h<=p.regs.toNat)
  {br ro c2 ba c3:Nat} {regs adj tp:List UInt64} {a4:Option Addr} {l4 c4:Nat} (hbr:OwnO H br ro (u64s regs)) (hrl:regs.length=p.regs.toNat) (hba:Own H ba (u64s adj)) (hal:adj.length=p.regs.toNat) (hc3:p.regs.toNat<=c3)
  (ht:RowU H a4 l4 tp) (htl:wr_ p<=l4) (hne:br≠ba) (hoff:0<l4->Off [ba] a4) (hsep:0<l4->Sep br ro l4 a4) (hdo:DOff h b [br,ba]) (hsw:0<=d.sweeps/\d.sweeps<=4611686018427387904)
  (k:∀H',Drv H' b h { d with sweeps:=d.sweeps+1 } { s with ad:=(bwd ((unr p).zip tp).reverse (regs,adj)).2++s.ad.drop p.regs.toNat,ax:=headA h (bwd ((unr p).zip tp).reverse (regs,adj)).2,ag:=addL s.ag (restA h (bwd ((unr p).zip tp).reverse (regs,adj)).2) } K post->
   OwnO H' br ro (u64s (bwd ((unr p).zip tp).reverse (regs,adj)).1)->Mod [b.d,b.w,br,ba] H H'->R (.tuple #[]) H') :
  Ru 239 [.pointer (some ⟨b.d,0,none⟩),.agg (progC p ap lp cp).toArray,.slice (some ⟨br,ro,none⟩) regs.length c2,.slice (some ⟨ba,0,none⟩) adj.length c3,.slice a4 l4 c4] H R:=by
 have ok:=v.ok.1
 have hp1:1<=p.regs/\p.regs<=64:=by obtain⟨t,g⟩:=g;exact⟨g.regs.1,g.regs.2.1⟩
 have hbl:br<H.size:=hbr.lt (u64s_ne (by omega))
 have hal':ba<H.size:=hba.lt (u64s_ne (by omega))
 have hlen:=v.lens
 refine v239 _ _ (progC p ap lp cp) _ _ _ _ _ _ _ _ _ fun H1 q n1=>⟨_,rfl,n1.rdL,?_⟩
 refine c314 (Ext.row n1.mod hr) hlp g (hbr.mod n1.mod (by simp)) hrl (hba.mod n1.mod (by simp)) hal (Ext.row n1.mod ht) htl hne hoff hsep (by have:=n1.mod.1;omega) (by have:=n1.mod.1;omega) fun H2 o2 a2 m2=>⟨_,rfl,?_⟩
 have m02:Mod [br,ba] H H2:=(Mod.ext n1.mod).trans m2
 have hAl:(bwd ((unr p).zip tp).reverse (regs,adj)).2.length=p.regs.toNat:=by rw[(bwd_length _ _).2];exact hal
 generalize hA:(bwd ((unr p).zip tp).reverse (regs,adj)).2=A at *
 have v2:=v.keep m02 hdo
 have hwba:ba≠b.w:=by intro e;exact hdo.w (by simp[e])
 have hwbr:br≠b.w:=by intro e;exact hdo.w (by simp[e])
 refine c112 v2 4 (by omega) (a2.rowU (by omega)) (by show _<=s.ad.length;rw[hlen.ad];omega) fun H3 v3 m3=>?_
 have a3:=a2.mod m3 (by simpa using hwba)
 have rX:rd H3 b.d (0+5)=some (.slice b.hp.xa h.x.length b.hp.xc):=by rw[Nat.zero_add];exact v3.rd 5 rfl
 refine⟨_,_,_,rX,⟨by omega,by simp only[nX] at hmin;omega⟩,?_⟩
 rw[Int.toNat_natCast]
 have hnx:h.x.length=nX h:=rfl
 rw[hnx]
 refine c112 v3 5 (by omega) (a3.rowT (l:=nX h) (by omega)) (by show _<=s.ax.length;rw[hlen.ax];exact Nat.le_refl _) fun H4 v4 m4=>?_
 have a4':=a3.mod m4 (by simpa using hwba)
 refine c121 v4 6 (by omega) fun ag lg H5 hB e5=>⟨_,_,_,rfl,?_⟩
 have v5:=v4.ext e5
 have a5:=a4'.mod e5 (by simp)
 have hag:(((putP (putP s.l 4 A) 5 (A.take (nX h)))[6]'(by simp[putP,PS.l])))=s.ag:=rfl
 rw[hag] at hB ⊢
 have hagl:=hlen.ag
 have hrl2:(restA h A).length=s.ag.length:=by simp[restA,hAl,hagl];omega
 have m05:Mod [b.w,br,ba] H H5:=((m02.mono (by simp)).trans ((m3.mono (by simp)).trans (m4.mono (by simp)))).thenExt e5
 refine⟨fun n H'=>∃j:Nat,n=j/\j<=s.ag.length/\(s.ag.length=0/\H'=H5\/∃bg,ag=some ⟨bg,0,none⟩/\H4.size<=bg/\Own H' bg (u64s (addTo s.ag (restA h A) j))/\Mod [bg] H5 H'),fun n _=>(s.ag.length-n).toNat,⟨0,rfl,by omega,?_⟩,?_⟩
 ·by_cases h0:0<s.ag.length
  ·obtain⟨bg,e,hn,ho⟩:=hB.own h0
   refine .inr ⟨bg,e,hn,?_,Mod.refl⟩
   rw[addTo_zero];exact ho
  ·exact .inl ⟨by omega,rfl⟩
 rintro H6 _ ⟨j,rfl,hj,hst⟩
 refine⟨fun hlt=>?_,fun hge=>?_⟩
 ·have hjl:j<s.ag.length:=by omega
  obtain⟨bg,rfl,hn,ho,m6⟩:∃bg,ag=some ⟨bg,0,none⟩/\H4.size<=bg/\Own H6 bg (u64s (addTo s.ag (restA h A) j))/\Mod [bg] H5 H6:=by
   rcases hst with ⟨h0,_⟩|h
   ·omega
   ·exact h
  have hz4:H.size<=H4.size:=Nat.le_trans m02.1 (Nat.le_trans m3.1 m4.1)
  have a6:=a5.mod m6 (by simp;omega)
  have hrd:=ho.rd j (u64s_get (xs:=addTo s.ag (restA h A) j) (by rw[addTo_length hrl2];omega))
  rw[addTo_get hjl hrl2] at hrd
  have hA2:A[nX h+j]'(by omega)=(restA h A)[j]'(by omega):=by simp[restA]
  have hrd2:=a6.rd (nX h+j) (u64s_get (xs:=A) (i:=nX h+j) (by omega))
  rw[hA2] at hrd2
  refine⟨bg,0,rfl,⟨by omega,hlt⟩,s.ag[j],by rw[Nat.zero_add,Int.toNat_natCast];exact hrd,⟨by omega,by omega⟩,ba,0,rfl,⟨by omega,by omega⟩,(restA h A)[j]'(by omega),?_,bg,0,rfl,⟨by omega,hlt⟩,?_,?_⟩
  ·rw[Nat.zero_add,show ((nX h:Int)+(j:Int)).toNat=nX h+j from by omega];exact hrd2
  ·rw[Nat.zero_add,Int.toNat_natCast];exact ho.w j 1 (by rw[u64s_length,addTo_length hrl2];exact Nat.ble_eq_true_of_le (by omega))
  rintro H7 h7
  have ho7:=ho.setu j (s.ag[j]+(restA h A)[j]'(by omega))
  rw[addTo_succ hjl hrl2] at ho7
  rw[Int.toNat_natCast] at h7
  rw[<-h7] at ho7
  refine⟨⟨by omega,by omega⟩,⟨j+1,by push_cast;rfl,by omega,.inr ⟨bg,rfl,hn,ho7,?_⟩⟩,by (try dsimp only);omega⟩
  rw[h7];exact m6.wr (.inl (by simp))
 ·have hjl:j=s.ag.length:=by omega
  subst hjl
  have hz4:H.size<=H4.size:=Nat.le_trans m02.1 (Nat.le_trans m3.1 m4.1)
  obtain⟨v6,hrow,m56,m26⟩:DrvM H6 b h d (putP (putP s.l 4 A) 5 (A.take (nX h))) K post/\RowU H6 ag s.ag.length (addL s.ag (restA h A))/\Mod [b.w,br,ba] H H6/\Mod [b.w] H2 H6:=by
   have m25:Mod [b.w] H2 H5:=(m3.trans m4).thenExt e5
   rcases hst with ⟨h0,rfl⟩|⟨bg,rfl,hn,ho,m6⟩
   ·refine⟨v5,?_,m05,m25⟩
    have h1:addL s.ag (restA h A)=[]:=List.length_eq_zero_iff.1 (by simp[addL,h0])
    rw[h1,h0];exact⟨rfl,.inl rfl⟩
   ·refine⟨v5.keep m6 ((v4.fresh (S:=[bg]) (by simpa using hn))),?_,m05.trans_new m6 (by simp;omega),m25.trans_new m6 (by have:=m3.1;have:=m4.1;simp;omega)⟩
    rw[addTo_all hrl2] at ho
    exact ho.rowU (by simp[addL,hrl2])
  refine c112 v6 6 (by omega) hrow (by show _<=s.ag.length;exact Nat.le_refl _) fun H7 v7 m7=>⟨_,by rw[Nat.zero_add];exact v7.rd 23 rfl,⟨by omega,by omega⟩,by rw[Nat.zero_add];exact v7.top.w 23 1 rfl,fun H8 h8=>?_⟩
  have o8:=v7.top.wr 23 (.int .i64 (d.sweeps+1))
  rw[Nat.zero_add] at h8
  rw[<-h8] at o8
  have m8:Mod [b.d] H7 H8:=by rw[h8];exact Mod.refl.wr (.inl (by simp))
  have v8:=v7.setD { d with sweeps:=d.sweeps+1 } o8 m8 rfl rfl
  have hP:putP (putP (putP s.l 4 A) 5 (A.take (nX h))) 6 (addL s.ag (restA h A))=({ s with ad:=A++s.ad.drop p.regs.toNat,ax:=headA h A,ag:=addL s.ag (restA h A) }:PS).l:=by
   have e1:s.ax.drop (A.take (nX h)).length=[]:=List.drop_of_length_le (by rw[hlen.ax,List.length_take];omega)
   have e2:s.ag.drop (addL s.ag (restA h A)).length=[]:=List.drop_of_length_le (by simp[addL,hrl2])
   have e3:putP (putP (putP s.l 4 A) 5 (A.take (nX h))) 6 (addL s.ag (restA h A))=[s.th,s.st,s.sr,s.lr,A++s.ad.drop A.length,A.take (nX h)++s.ax.drop (A.take (nX h)).length,addL s.ag (restA h A)++s.ag.drop (addL s.ag (restA h A)).length,s.tp]:=rfl
   rw[e3,e1,e2,hAl]
   simp[PS.l,headA]
  rw[hP] at v8
  have hbd:br≠b.d:=fun e=>hdo.d (by simp[e])
  exact k H8 v8 (((o2.mod m26 (by simpa using hwbr)).mod m7 (by simpa using hwbr)).mod m8 (by simpa using hbd)) (((m56.mono (by simp)).trans (m7.mono (by simp))).trans (m8.mono (by simp)))
end Go.VC
namespace Go.VC
open Go Go.Proofs
variable {H:Heap}{R:Value->Heap->Prop}
structure RT (H H':Heap)(X:List UInt64)(n w:Nat)(a:Option Addr)(l c:Nat)(a1:Option Addr)(l1 c1:Nat)(br bt:Nat):Prop where
 a:a=some ⟨br,0,none⟩
 l:l=n
 c:n<=c
 a1:a1=some ⟨bt,0,none⟩
 l1:l1=w
 c1:c1=w
 regs:Own H' br (u64s X)
 tape:Own H' bt (u64s (zeros w))
 ne:br≠bt
 g1:H.size<=br
 g2:H.size<=bt
 lt:bt<H'.size
 ext:Ext H H'
theorem RT.mk1 {H H1 H2 H3:Heap}{X:List UInt64}{n w:Nat}{a:Option Addr}{c q ty:Nat}(e1:Ext H H1)(hB:Buf 1 H2 H1.size a n c (u64s X))(e2:Ext H1 H2)(hn:0<n)(n3:New H2 (rep w [.int .u64 0]) ty H3 q) :
  ∃br bt,RT H H3 X n w a n c (some ⟨q,0,none⟩) w w br bt:=by
 obtain⟨br,rfl,hbr,ho⟩:=hB.own hn
 have hlt:=hB.lt (by have:=hB.le;omega) (by omega)
 have h3:=n3.ge;have h1:=e1.1;have h2:=e2.1
 exact⟨br,q,rfl,rfl,hB.le,rfl,rfl,rfl,ho.mod n3.mod (by simp),n3.ownz,by omega,by omega,by omega,n3.lt,(e1.thenExt e2).new n3⟩
theorem RT.mk2 {H H1 H2:Heap}{X:List UInt64}{n w:Nat}{a:Option Addr}{c q:Nat}(e1:Ext H H1)(hz:Own H1 q (u64s (zeros w)))(g:H.size<=q)(g':q<H1.size)(hB:Buf 1 H2 H1.size a n c (u64s X))(e2:Ext H1 H2)(hn:0<n) :
  ∃br bt,RT H H2 X n w a n c (some ⟨q,0,none⟩) w w br bt:=by
 obtain⟨br,rfl,hbr,ho⟩:=hB.own hn
 have h1:=e1.1
 exact⟨br,q,rfl,rfl,hB.le,rfl,rfl,rfl,ho,hz.mod e2 (by simp),by omega,by omega,g,by have:=e2.1;omega,e1.thenExt e2⟩
theorem New.oneU {H H':Heap}{x:UInt64}{ty q:Nat}(n:New H [.int .u64 (x.toNat:Int)] ty H' q):RowU H' (some ⟨q,0,none⟩) 1 [x]:=⟨rfl,.inr ⟨q,0,rfl,n.rdL⟩⟩
theorem ok_regs {h:Hdr}(ok:OkH h):(1<=h.step.regs/\h.step.regs<=64)/\1<=h.loss.regs/\h.loss.regs<=64:=by
 obtain⟨t,g⟩:=ok.step
 obtain⟨t2,g2⟩:=ok.loss
 exact⟨⟨g.regs.1,g.regs.2.1⟩,g2.regs.1,g2.regs.2.1⟩
theorem c234' {p:Prog}{a:Option Addr}{l c:Nat}{br c1 bt c2 lr lt:Nat}{regs tp:List UInt64}(e1:lr=regs.length)(e2:lt=tp.length)(h:RowO H a l p.ops)(hl:l<=4398046511104)(g:∃t,GoodP p t)(hr:Own H br (u64s regs))(hrl:regs.length=p.regs.toNat)(ht:Own H bt (u64s tp))(htl:tp.length=wr_ p)(hbb:br≠bt)
  (hbr:br<H.size) (hbt:bt<H.size)
  (k:∀r H',Own H' br (u64s (fwd (unr p) regs))->Own H' bt (u64s (taped (unr p) regs))->Mod [br,bt] H H'->R (.tuple #[.int .i64 r,.int .i64 0]) H'):Ru 234 [.agg (progC p a l c).toArray,.slice (some ⟨br,0,none⟩) lr c1,.slice (some ⟨bt,0,none⟩) lt c2] H R:=by
 subst e1;subst e2;exact c234 h hl g hr hrl ht htl hbb hbr hbt k
theorem c180 {b:DB}{h:Hdr}{d:DS}{s:PS}{K post:List UInt64}(v:Drv H b h d s K post)(hth:s.th=h.th)(t:Nat)(ha:d.at_=t)(hc:0<=d.tapd/\d.tapd<=4611686018427387904)
  (k:∀H' br c1 bt,Drv H' b h { d with tapd:=d.tapd+1 } { s with sr:=stepOut h t s.st } K post->Own H' br (u64s (stepOut h t s.st))->Own H' bt (u64s (stepTape h t s.st))->br≠bt->H.size<=br->H.size<=bt->br<H'.size->bt<H'.size->nS h<=c1->Mod [b.d,b.w] H H'->
   R (.tuple #[.slice (some ⟨br,0,none⟩) (nS h) c1,.slice (some ⟨bt,0,none⟩) (wr_ h.step) (wr_ h.step)]) H'):Ru 180 [.pointer (some ⟨b.d,0,none⟩)] H R:=by
 have ok:=v.ok.1
 have hlen:=v.lens
 obtain⟨hrs,hrl⟩:=ok_regs ok
 have hd:=ok.dims
 obtain⟨d1,d2,d3,d4,d5⟩:=hd
 have hw:=wr_le ok.step
 have hnS:nS h=h.step.regs.toNat:=rfl
 have hstl:s.st.length=nX h:=hlen.st
 have hin:padTo (nS h) (s.st++s.th++[UInt64.ofNat t])=stepIn h t s.st:=by rw[hth];rfl
 have zok:(0:Int)<=(wr_ h.step:Int)/\(wr_ h.step:Int)<=(wr_ h.step:Int)/\(8:Int)*(wr_ h.step:Int)<=281474976710656/\I64 (wr_ h.step:Int):=⟨by omega,by omega,by omega,by omega,by omega⟩
 refine v180 _ _ ⟨_,rfl,v.hdr,c103 h b.hp v.rows ok fun H1 e1=>⟨_,_,rfl,fun a l c a1 l1 c1 H'=>∃br bt,RT H H' (stepIn h t s.st) (nS h) (wr_ h.step) a l c a1 l1 c1 br bt,?_,?_⟩⟩
 ·have v1:=v.ext e1
  have rat:∀{H':Heap},Ext H1 H'->rd H' b.d (0+18)=some (.int .i64 d.at_):=fun e=>by rw[Nat.zero_add];exact (v1.ext e).rd 18 rfl
  have rst:∀{H':Heap},Ext H1 H'->RdL H' b.d (0+7) (progC h.step b.hp.sa h.step.ops.length b.hp.sc):=fun e=>(v1.ext e).stepC
  have hat:UInt64.ofInt d.at_=UInt64.ofNat t:=by rw[ha];exact ofInt_nat t
  have beg:∀(H2:Heap) (a:Option Addr) (c q:Nat) (K':Value->Heap->Prop),Ext H1 H2->RowU H2 a s.st.length s.st->RowU H2 (some ⟨q,0,none⟩) 1 [UInt64.ofNat t]->
    (∀a c H3,Buf 1 H3 H2.size a (nS h) c (u64s (stepIn h t s.st))->Ext H2 H3->K' (.slice a (nS h) c) H3)->Ru 233 [.pointer (some ⟨b.d,0,none⟩),.agg (progC h.step b.hp.sa h.step.ops.length b.hp.sc).toArray,.slice a s.st.length c,.slice (some ⟨q,0,none⟩) 1 1] H2 K':=by
   intro H2 a c q K' e2 hx hq hk
   refine c233 (v1.ext e2) h.step hx hq (by rw[hstl,hlen.th];simp only[nX,nT];omega) hrs fun a' c' H3 hB e3=>?_
   have hB':Buf 1 H3 H2.size a' (nS h) c' (u64s (padTo (nS h) (s.st++s.th++[UInt64.ofNat t]))):=hB
   rw[hin] at hB'
   exact hk a' c' H3 hB' e3
  refine⟨_,rfl,rst Mod.refl,d.at_,rat Mod.refl,?_⟩
  rw[hat,Int.toNat_natCast]
  refine⟨c121 v1 1 (by omega) fun a c H2 hB e2=>⟨_,_,_,rfl,rat e2,rst e2,fun H3 q n3=>⟨rst (e2.new n3),?_,zok,fun H4 q2 n4=>⟨rat ((e2.new n3).new n4),rst ((e2.new n3).new n4),?_⟩⟩,zok,fun H3 q n3=>⟨rat (e2.new n3),rst (e2.new n3),fun H4 q2 n4=>⟨rst ((e2.new n3).new n4),?_⟩⟩⟩,
   fun H2 q n2=>⟨rst n2.mod,c121 (v1.ext n2.mod) 1 (by omega) fun a c H3 hB e3=>⟨_,_,_,rfl,rat (n2.mod.thenExt e3),rst (n2.mod.thenExt e3),?_,zok,fun H4 q2 n4=>⟨rat ((n2.mod.thenExt e3).new n4),rst ((n2.mod.thenExt e3).new n4),?_⟩⟩,zok,fun H3 q2 n3=>⟨rat (n2.mod.new n3),rst (n2.mod.new n3),c121 (v1.ext (n2.mod.new n3)) 1 (by omega) fun a c H4 hB e4=>⟨_,_,_,rfl,rat ((n2.mod.new n3).thenExt e4),rst ((n2.mod.new n3).thenExt e4),?_⟩⟩⟩,
   zok,fun H2 q n2=>⟨rat n2.mod,rst n2.mod,c121 (v1.ext n2.mod) 1 (by omega) fun a c H3 hB e3=>⟨_,_,_,rfl,rat (n2.mod.thenExt e3),rst (n2.mod.thenExt e3),fun H4 q2 n4=>⟨rst ((n2.mod.thenExt e3).new n4),?_⟩⟩,fun H3 q2 n3=>⟨rst (n2.mod.new n3),c121 (v1.ext (n2.mod.new n3)) 1 (by omega) fun a c H4 hB e4=>⟨_,_,_,rfl,rat ((n2.mod.new n3).thenExt e4),rst ((n2.mod.new n3).thenExt e4),?_⟩⟩⟩⟩
  ·exact beg H3 a c q _ (e2.new n3) (hB.ext n3.mod).row n3.oneU fun a' c' H4 hB4 e4=>⟨_,_,_,rfl,zok,fun H5 q5 n5=>⟨rat (((e2.new n3).thenExt e4).new n5),rst (((e2.new n3).thenExt e4).new n5),RT.mk1 (e1.thenExt (e2.new n3)) hB4 e4 (by omega) n5⟩⟩
  ·exact beg H4 a c q _ ((e2.new n3).new n4) ((hB.ext n3.mod).ext n4.mod).row (Ext.row n4.mod n3.oneU) fun a' c' H5 hB5 e5=>⟨_,_,_,rfl,RT.mk2 (e1.thenExt ((e2.new n3).new n4)) n4.ownz (Nat.le_trans (e1.thenExt (e2.new n3)).1 n4.ge) n4.lt hB5 e5 (by omega)⟩
  ·exact beg H4 a c q2 _ ((e2.new n3).new n4) ((hB.ext n3.mod).ext n4.mod).row n4.oneU fun a' c' H5 hB5 e5=>⟨_,_,_,rfl,RT.mk2 (e1.thenExt ((e2.new n3).new n4)) (n3.ownz.mod n4.mod (by simp)) (Nat.le_trans (e1.thenExt e2).1 n3.ge) (Nat.lt_of_lt_of_le n3.lt n4.mod.1) hB5 e5 (by omega)⟩
  ·exact beg H3 a c q _ (n2.mod.thenExt e3) hB.row (Ext.row e3 n2.oneU) fun a' c' H4 hB4 e4=>⟨_,_,_,rfl,zok,fun H5 q5 n5=>⟨rat (((n2.mod.thenExt e3).thenExt e4).new n5),rst (((n2.mod.thenExt e3).thenExt e4).new n5),RT.mk1 (e1.thenExt (n2.mod.thenExt e3)) hB4 e4 (by omega) n5⟩⟩
  ·exact beg H4 a c q _ ((n2.mod.thenExt e3).new n4) (hB.ext n4.mod).row (Ext.row n4.mod (Ext.row e3 n2.oneU)) fun a' c' H5 hB5 e5=>⟨_,_,_,rfl,RT.mk2 (e1.thenExt ((n2.mod.thenExt e3).new n4)) n4.ownz (Nat.le_trans (e1.thenExt (n2.mod.thenExt e3)).1 n4.ge) n4.lt hB5 e5 (by omega)⟩
  ·exact beg H4 a c q _ ((n2.mod.new n3).thenExt e4) hB.row (Ext.row e4 (Ext.row n3.mod n2.oneU)) fun a' c' H5 hB5 e5=>⟨_,_,_,rfl,RT.mk2 (e1.thenExt ((n2.mod.new n3).thenExt e4)) (n3.ownz.mod e4 (by simp)) (Nat.le_trans (e1.thenExt n2.mod).1 n3.ge) (Nat.lt_of_lt_of_le n3.lt e4.1) hB5 e5 (by omega)⟩
  ·exact beg H4 a c q2 _ ((n2.mod.thenExt e3).new n4) (hB.ext n4.mod).row n4.oneU fun a' c' H5 hB5 e5=>⟨_,_,_,rfl,RT.mk2 (e1.thenExt ((n2.mod.thenExt e3).new n4)) ((n2.ownz.mod e3 (by simp)).mod n4.mod (by simp)) (Nat.le_trans e1.1 n2.ge) (Nat.lt_of_lt_of_le n2.lt (e3.new n4).1) hB5 e5 (by omega)⟩
  ·exact beg H4 a c q2 _ ((n2.mod.new n3).thenExt e4) hB.row (Ext.row e4 n3.oneU) fun a' c' H5 hB5 e5=>⟨_,_,_,rfl,RT.mk2 (e1.thenExt ((n2.mod.new n3).thenExt e4)) ((n2.ownz.mod n3.mod (by simp)).mod e4 (by simp)) (Nat.le_trans e1.1 n2.ge) (Nat.lt_of_lt_of_le n2.lt (n3.mod.thenExt e4).1) hB5 e5 (by omega)⟩
 ·rintro H2 a l c a1 l1 c1 ⟨br,bt,rt⟩
  obtain⟨rfl,rfl,hcc,rfl,rfl,rfl,hregs,htape,hne,g1,g2,hbt,e2⟩:=rt
  have v2:=v.ext e2
  have hsl:(stepIn h t s.st).length=nS h:=stepIn_length ok.dims hstl
  have hbl:br<H2.size:=hregs.lt (u64s_ne (by omega))
  refine⟨_,rfl,v2.stepC,c234' hsl.symm (zeros_length _).symm v2.rows.s v2.rows.s1 ok.step hregs (by rw[hsl];rfl) htape (zeros_length _) hne hbl hbt fun r H3 o3 t3 m3=>⟨_,_,rfl,?_⟩⟩
  have hfr:DOff h b [br,bt]:=v.fresh (by simp;omega)
  have v3:=v2.keep m3 hfr
  have hol:(fwd (unr h.step) (stepIn h t s.st)).length=nS h:=by rw[fwd_length,hsl]
  refine c112 v3 2 (by omega) (o3.rowU hol.symm) (by show _<=s.sr.length;rw[hlen.sr];exact Nat.le_refl _) fun H4 v4 m4=>⟨_,by rw[Nat.zero_add];exact v4.rd 21 rfl,⟨by omega,by omega⟩,by rw[Nat.zero_add];exact v4.top.w 21 1 rfl,fun H5 h5=>?_⟩
  have o5:=v4.top.wr 21 (.int .i64 (d.tapd+1))
  rw[Nat.zero_add] at h5
  rw[<-h5] at o5
  have m5:Mod [b.d] H4 H5:=by rw[h5];exact Mod.refl.wr (.inl (by simp))
  clear h5
  have v5:=v4.setD { d with tapd:=d.tapd+1 } o5 m5 rfl rfl
  have hP:putP s.l 2 (fwd (unr h.step) (stepIn h t s.st))=({ s with sr:=stepOut h t s.st }:PS).l:=by
   have e1:s.sr.drop (fwd (unr h.step) (stepIn h t s.st)).length=[]:=List.drop_of_length_le (by rw[hlen.sr,hol];exact Nat.le_refl _)
   have e3:putP s.l 2 (fwd (unr h.step) (stepIn h t s.st))=[s.th,s.st,fwd (unr h.step) (stepIn h t s.st)++s.sr.drop (fwd (unr h.step) (stepIn h t s.st)).length,s.lr,s.ad,s.ax,s.ag,s.tp]:=rfl
   rw[e3,e1,List.append_nil];rfl
  rw[hP] at v5
  have q1:br≠b.d:=fun e=>hfr.d (by simp[e])
  have q2:br≠b.w:=fun e=>hfr.w (by simp[e])
  have q3:bt≠b.d:=fun e=>hfr.d (by simp[e])
  have q4:bt≠b.w:=fun e=>hfr.w (by simp[e])
  have m45:Mod [b.d,b.w] H3 H5:=(m4.mono (by simp)).trans (m5.mono (by simp))
  have hz:=m3.1;have hz2:=m45.1
  exact k H5 br c bt v5 (o3.mod m45 (by simp[q1,q2])) (t3.mod m45 (by simp[q3,q4])) hne g1 g2 (by omega) (by omega) hcc ((e2.trans_new m3 (by simp;omega)).ext.trans m45)
end Go.VC
namespace Go.VC
open Go Go.Proofs
variable {H:Heap}{R:Value->Heap->Prop}
theorem c239o {b:DB}{h:Hdr}{d:DS}{s:PS}{K post:List UInt64}(v:Drv H b h d s K post){p:Prog}{ap:Option Addr}{lp cp:Nat}(hr:RowO H ap lp p.ops)(hlp:lp<=4398046511104)(g:∃t,GoodP p t)
  (hmax:p.regs.toNat<=max (nS h) (nL h)) (hmin:nX h+nT h<=p.regs.toNat)
  {br ro c2 ba c3 lr la:Nat} {regs adj tp:List UInt64} (e1:lr=regs.length) (e2:la=adj.length) {a4:Option Addr} {l4 c4:Nat} (hbr:OwnO H br ro (u64s regs)) (hrl:regs.length=p.regs.toNat) (hba:Own H ba (u64s adj)) (hal:adj.length=p.regs.toNat) (hc3:p.regs.toNat<=c3)
  (ht:RowU H a4 l4 tp) (htl:wr_ p<=l4) (hne:br≠ba) (hoff:0<l4->Off [ba] a4) (hsep:0<l4->Sep br ro l4 a4) (hdo:DOff h b [br,ba]) (hsw:0<=d.sweeps/\d.sweeps<=4611686018427387904)
  (k:∀H',Drv H' b h { d with sweeps:=d.sweeps+1 } { s with ad:=(bwd ((unr p).zip tp).reverse (regs,adj)).2++s.ad.drop p.regs.toNat,ax:=headA h (bwd ((unr p).zip tp).reverse (regs,adj)).2,ag:=addL s.ag (restA h (bwd ((unr p).zip tp).reverse (regs,adj)).2) } K post->
   OwnO H' br ro (u64s (bwd ((unr p).zip tp).reverse (regs,adj)).1)->Mod [b.d,b.w,br,ba] H H'->R (.tuple #[]) H') :
  Ru 239 [.pointer (some ⟨b.d,0,none⟩),.agg (progC p ap lp cp).toArray,.slice (some ⟨br,ro,none⟩) lr c2,.slice (some ⟨ba,0,none⟩) la c3,.slice a4 l4 c4] H R:=by
 subst e1;subst e2;exact c239 v hr hlp g hmax hmin hbr hrl hba hal hc3 ht htl hne hoff hsep hdo hsw k
theorem c239' {b:DB}{h:Hdr}{d:DS}{s:PS}{K post:List UInt64}(v:Drv H b h d s K post){p:Prog}{ap:Option Addr}{lp cp:Nat}(hr:RowO H ap lp p.ops)(hlp:lp<=4398046511104)(g:∃t,GoodP p t)
  (hmax:p.regs.toNat<=max (nS h) (nL h)) (hmin:nX h+nT h<=p.regs.toNat)
  {br c2 ba c3 lr la:Nat} {regs adj tp:List UInt64} (e1:lr=regs.length) (e2:la=adj.length) {a4:Option Addr} {l4 c4:Nat} (hbr:Own H br (u64s regs)) (hrl:regs.length=p.regs.toNat) (hba:Own H ba (u64s adj)) (hal:adj.length=p.regs.toNat) (hc3:p.regs.toNat<=c3)
  (ht:RowU H a4 l4 tp) (htl:wr_ p<=l4) (hne:br≠ba) (hoff:0<l4->Off [br,ba] a4) (hdo:DOff h b [br,ba]) (hsw:0<=d.sweeps/\d.sweeps<=4611686018427387904)
  (k:∀H',Drv H' b h { d with sweeps:=d.sweeps+1 } { s with ad:=(bwd ((unr p).zip tp).reverse (regs,adj)).2++s.ad.drop p.regs.toNat,ax:=headA h (bwd ((unr p).zip tp).reverse (regs,adj)).2,ag:=addL s.ag (restA h (bwd ((unr p).zip tp).reverse (regs,adj)).2) } K post->
   Mod [b.d,b.w,br,ba] H H'->R (.tuple #[]) H') :
  Ru 239 [.pointer (some ⟨b.d,0,none⟩),.agg (progC p ap lp cp).toArray,.slice (some ⟨br,0,none⟩) lr c2,.slice (some ⟨ba,0,none⟩) la c3,.slice a4 l4 c4] H R:=by
 exact c239o (ro:=0) v hr hlp g hmax hmin e1 e2 hbr hrl hba hal hc3 ht htl hne (fun h=>(hoff h).mono (by simp)) (fun h=>Sep.off (hoff h)) hdo hsw fun H' v' _ m'=>k H' v' m'
theorem off_one {S:List Nat}{b o:Nat}(h:b∉S):Off S (some ⟨b,o,none⟩):=fun b' o' e hb=>by cases e;exact h hb
theorem Off.app {S T:List Nat}{a:Option Addr}(h:Off S a)(k:Off T a):Off (S++T) a:=fun b o e hb=>(List.mem_append.1 hb).elim (h b o e) (k b o e)
theorem DOff.app {h:Hdr}{b:DB}{S T:List Nat}(o:DOff h b S)(u:DOff h b T):DOff h b (S++T):=
 ⟨fun e=>(List.mem_append.1 e).elim o.d u.d,fun e=>(List.mem_append.1 e).elim o.a u.a,fun e=>(List.mem_append.1 e).elim o.w u.w,fun e=>(List.mem_append.1 e).elim o.m u.m,fun h3 e=>(List.mem_append.1 e).elim (o.s h3) (u.s h3),
  ⟨fun h=>(o.r.x h).app (u.r.x h),fun h=>(o.r.t h).app (u.r.t h),fun h=>(o.r.sp h).app (u.r.sp h),fun h=>(o.r.lp h).app (u.r.lp h),o.r.p.app u.r.p⟩⟩
theorem c184 {b:DB}{h:Hdr}{d:DS}{s:PS}{K post:List UInt64}(v:Drv H b h d s K post){br c1 bt c2:Nat}(t:Nat)(x:List UInt64)(hx:x.length=nX h)
  (hr:Own H br (u64s (stepOut h t x))) (ht:Own H bt (u64s (stepTape h t x))) (hne:br≠bt) (hdo:DOff h b [br,bt]) (hbl:br<H.size) (htl:bt<H.size) (hsw:0<=d.sweeps/\d.sweeps<=4611686018427387904)
  (k:∀H' ad,Drv H' b h { d with sweeps:=d.sweeps+1 } { s with ad:=ad,ax:=headA h (pullStep h t x s.ax),ag:=addL s.ag (restA h (pullStep h t x s.ax)) } K post->Mod [b.d,b.w,br] H H'->R (.tuple #[]) H') :
  Ru 184 [.pointer (some ⟨b.d,0,none⟩),.slice (some ⟨br,0,none⟩) (nS h) c1,.slice (some ⟨bt,0,none⟩) (wr_ h.step) c2] H R:=by
 have ok:=v.ok.1
 have hlen:=v.lens
 obtain⟨hrs,hrl⟩:=ok_regs ok
 have hd:=ok.dims
 obtain⟨d1,d2,d3,d4,d5⟩:=hd
 have hsl:(stepOut h t x).length=nS h:=stepOut_length ok.dims hx
 refine v184 _ _ _ _ _ _ _ _ ⟨_,rfl,v.stepC,_,rfl,v.stepC,c121 v 5 (by omega) fun a c H1 hB e1=>⟨_,_,_,rfl,(v.ext e1).stepC,(v.ext e1).stepC,?_⟩⟩
 refine c240 h.step hB.row (by show s.ax.length<=_;rw[hlen.ax];simp only[nX];omega) hrs fun a2 c2 H2 hB2 e2=>⟨_,_,_,rfl,?_⟩
 have e12:=e1.thenExt e2
 have v2:=v.ext e12
 obtain⟨ba,rfl,hba,oa⟩:=hB2.own (by omega)
 have hpl:(padTo h.step.regs.toNat s.ax).length=h.step.regs.toNat:=padTo_length (by rw[hlen.ax];simp only[nX];omega)
 have hz:=e1.1
 refine⟨v2.stepC,c239' v2 v2.rows.s v2.rows.s1 ok.step (by simp only[nS,nL];omega) (by simp only[nX,nT];omega) hsl.symm hpl.symm (hr.mod e12 (by simp)) hsl oa hpl hB2.le ((ht.mod e12 (by simp)).rowU ?_) (Nat.le_refl _) (by omega) (fun _=>off_one (by simp;omega)) ?_ hsw fun H3 v3 m3=>?_⟩
 ·rw[stepTape,taped_length,wr_unr ok.step]
 ·have f1:DOff h b [ba]:=v.fresh (by simp;omega)
  exact (hdo.app f1).mono (by simp)
 ·have hu:(unr h.step).zip (stepTape h t x)=(unr h.step).zip (stepTape h t x):=rfl
  exact k H3 _ v3 ((Mod.ext e12).trans_new m3 (by simp;omega))
theorem c237 {b:DB}{h:Hdr}{d:DS}{s:PS}{K post:List UInt64}(v:Drv H b h d s K post)(hth:s.th=h.th){a0:Option Addr}{c0:Nat}{x:List UInt64}(hx:RowU H a0 (nX h) x)
  (hlo:0<=d.losses/\d.losses<=4611686018427387904) (hsw:0<=d.sweeps/\d.sweeps<=4611686018427387904)
  (k:∀H' ad,Drv H' b h { d with losses:=d.losses+1,sweeps:=d.sweeps+1,loss:=rg (lossOut h x) 0 } { s with lr:=lossOut h x,ad:=ad,ax:=headA h (pullLoss h x),ag:=addL s.ag (restA h (pullLoss h x)) } K post->Mod [b.d,b.w] H H'->R (.tuple #[]) H') :
  Ru 237 [.pointer (some ⟨b.d,0,none⟩),.slice a0 (nX h) c0] H R:=by
 have ok:=v.ok.1
 have hlen:=v.lens
 obtain⟨hrs,hrl⟩:=ok_regs ok
 have hxl:=hx.len
 have hw:=wr_le ok.loss
 obtain⟨d1,d2,d3,d4,d5⟩:=ok.dims
 have hin:padTo (nL h) (x++s.th++[])=lossIn h x:=by rw[hth,List.append_nil];rfl
 have hnL:nL h=h.loss.regs.toNat:=rfl
 have zok:(0:Int)<=(wr_ h.loss:Int)/\(wr_ h.loss:Int)<=(wr_ h.loss:Int)/\(8:Int)*(wr_ h.loss:Int)<=281474976710656/\I64 (wr_ h.loss:Int):=⟨by omega,by omega,by omega,by omega,by omega⟩
 refine v237 _ _ _ _ _ ⟨_,rfl,v.hdr,c103 h b.hp v.rows ok fun H1 e1=>⟨_,_,rfl,fun a l c a1 l1 c1 H'=>∃br bt,RT H H' (lossIn h x) (nL h) (wr_ h.loss) a l c a1 l1 c1 br bt,?_,?_⟩⟩
 ·have v1:=v.ext e1
  have rst:∀{H':Heap},Ext H1 H'->RdL H' b.d (0+9) (progC h.loss b.hp.la h.loss.ops.length b.hp.lc):=fun e=>(v1.ext e).lossC
  have beg:∀(H2:Heap) (K':Value->Heap->Prop),Ext H1 H2->(∀a c H3,Buf 1 H3 H2.size a (nL h) c (u64s (lossIn h x))->Ext H2 H3->K' (.slice a (nL h) c) H3)->Ru 233 [.pointer (some ⟨b.d,0,none⟩),.agg (progC h.loss b.hp.la h.loss.ops.length b.hp.lc).toArray,.slice a0 (nX h) c0,.slice none 0 0] H2 K':=by
   intro H2 K' e2 hk
   refine c233 (v1.ext e2) h.loss (Ext.row (e1.thenExt e2) hx) (zs:=[]) ⟨rfl,.inl rfl⟩ (by rw[hlen.th];simp only[nX,nT];omega) hrl fun a' c' H3 hB e3=>?_
   have hB':Buf 1 H3 H2.size a' (nL h) c' (u64s (padTo (nL h) (x++s.th++[]))):=hB
   rw[hin] at hB'
   exact hk a' c' H3 hB' e3
  refine⟨_,rfl,rst Mod.refl,?_⟩
  rw[Int.toNat_natCast]
  refine⟨beg H1 _ Mod.refl fun a c H2 hB e2=>⟨_,_,_,rfl,zok,fun H3 q n3=>⟨rst (e2.new n3),RT.mk1 e1 hB e2 (by omega) n3⟩⟩,zok,fun H2 q n2=>⟨rst n2.mod,beg H2 _ n2.mod fun a c H3 hB e3=>⟨_,_,_,rfl,RT.mk2 (e1.thenExt n2.mod) n2.ownz (Nat.le_trans e1.1 n2.ge) n2.lt hB e3 (by omega)⟩⟩⟩
 ·rintro H2 a l c a1 l1 c1 ⟨br,bt,rt⟩
  obtain⟨rfl,rfl,hcc,rfl,rfl,rfl,hregs,htape,hne,g1,g2,hbt,e2⟩:=rt
  have v2:=v.ext e2
  have hsl:(lossIn h x).length=nL h:=lossIn_length ok.dims hxl
  have hbl:br<H2.size:=hregs.lt (u64s_ne (by omega))
  refine⟨_,rfl,v2.lossC,c234' hsl.symm (zeros_length _).symm v2.rows.l v2.rows.l1 ok.loss hregs (by rw[hsl];rfl) htape (zeros_length _) hne hbl hbt fun r H3 o3 t3 m3=>⟨_,_,rfl,?_⟩⟩
  have hfr:DOff h b [br,bt]:=v.fresh (by simp;omega)
  have v3:=v2.keep m3 hfr
  have q1:br≠b.d:=fun e=>hfr.d (by simp[e])
  have q2:br≠b.w:=fun e=>hfr.w (by simp[e])
  have q3:bt≠b.d:=fun e=>hfr.d (by simp[e])
  have q4:bt≠b.w:=fun e=>hfr.w (by simp[e])
  have hol:(fwd (unr h.loss) (lossIn h x)).length=nL h:=by rw[fwd_length,hsl]
  refine⟨_,by rw[Nat.zero_add];exact v3.rd 22 rfl,⟨by omega,by omega⟩,by rw[Nat.zero_add];exact v3.top.w 22 1 rfl,fun H4 h4=>?_⟩
  have o4:=v3.top.wr 22 (.int .i64 (d.losses+1))
  rw[Nat.zero_add] at h4
  rw[<-h4] at o4
  have m4:Mod [b.d] H3 H4:=by rw[h4];exact Mod.refl.wr (.inl (by simp))
  clear h4
  have v4:=v3.setD { d with losses:=d.losses+1 } o4 m4 rfl rfl
  have r4:=o3.mod m4 (by simpa using q1)
  have t4:=t3.mod m4 (by simpa using q3)
  have hr0:=r4.u64 (i:=0) (by omega) (by omega)
  refine⟨br,0,rfl,⟨by omega,by omega⟩,rg (fwd (unr h.loss) (lossIn h x)) 0,by simpa using hr0,by rw[Nat.zero_add];exact v4.top.w 24 1 rfl,fun H5 h5=>?_⟩
  have o5:=v4.top.wr 24 (.int .u64 ((rg (fwd (unr h.loss) (lossIn h x)) 0).toNat:Int))
  rw[Nat.zero_add] at h5
  rw[<-h5] at o5
  have m5:Mod [b.d] H4 H5:=by rw[h5];exact Mod.refl.wr (.inl (by simp))
  clear h5
  have v5:=v4.setD { d with losses:=d.losses+1,loss:=rg (lossOut h x) 0 } o5 m5 rfl rfl
  have r5:=r4.mod m5 (by simpa using q1)
  have t5:=t4.mod m5 (by simpa using q3)
  refine c112 v5 3 (by omega) (r5.rowU hol.symm) (by show _<=s.lr.length;rw[hlen.lr];exact Nat.le_refl _) fun H6 v6 m6=>?_
  have hP:putP s.l 3 (fwd (unr h.loss) (lossIn h x))=({ s with lr:=lossOut h x }:PS).l:=by
   have e1:s.lr.drop (fwd (unr h.loss) (lossIn h x)).length=[]:=List.drop_of_length_le (by rw[hlen.lr,hol];exact Nat.le_refl _)
   have e3:putP s.l 3 (fwd (unr h.loss) (lossIn h x))=[s.th,s.st,s.sr,fwd (unr h.loss) (lossIn h x)++s.lr.drop (fwd (unr h.loss) (lossIn h x)).length,s.ad,s.ax,s.ag,s.tp]:=rfl
   rw[e3,e1,List.append_nil];rfl
  rw[hP] at v6
  have r6:=r5.mod m6 (by simpa using q2)
  have t6:=t5.mod m6 (by simpa using q4)
  have m36:Mod [b.d,b.w] H3 H6:=(m4.mono (by simp)).trans ((m5.mono (by simp)).trans (m6.mono (by simp)))
  refine⟨_,rfl,v6.lossC,_,rfl,v6.lossC,fun H7 q7 n7=>⟨(v6.ext n7.mod).lossC,(v6.ext n7.mod).lossC,?_⟩⟩
  refine c240 h.loss (xs:=[1]) ⟨rfl,.inr ⟨q7,0,rfl,n7.rdL⟩⟩ (by omega) hrl fun a8 c8 H8 hB8 e8=>⟨_,_,_,rfl,?_⟩
  have e68:=n7.mod.thenExt e8
  have v8:=v6.ext e68
  obtain⟨ba,rfl,hba,oa⟩:=hB8.own (by omega)
  have hpl:(padTo h.loss.regs.toNat [1]).length=h.loss.regs.toNat:=padTo_length (by simp;omega)
  have hz2:=e2.1;have hz3:=m3.1;have hz6:=m36.1;have hz7:=n7.mod.1
  refine⟨v8.lossC,c239' v8 v8.rows.l v8.rows.l1 ok.loss (by simp only[nS,nL];omega) (by simp only[nX,nT];omega) hol.symm hpl.symm (r6.mod e68 (by simp)) hol oa hpl hB8.le ((t6.mod e68 (by simp)).rowU ?_) (Nat.le_refl _) (by omega) (fun _=>off_one (by simp;omega)) ?_ hsw fun H9 v9 m9=>?_⟩
  ·rw[taped_length,wr_unr ok.loss]
  ·have f1:DOff h b [br,ba]:=v.fresh (by simp;omega)
   exact f1
  ·refine k H9 _ v9 ?_
   have hm:Mod [b.d,b.w] H H6:=(e2.trans_new m3 (by simp;omega)).ext.trans m36
   exact (hm.thenExt e68).trans_new m9 (by simp;omega)
end Go.VC
