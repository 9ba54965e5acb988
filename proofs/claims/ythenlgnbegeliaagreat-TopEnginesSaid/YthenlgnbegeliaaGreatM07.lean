/- TOPENGINES returns true, whatever came in, and what came in reads as it did. No condition. -/
import Derived.OpenShut
import Derived.ProofKit
import Derived.Test.YthenlgnbegeliaaGreatRows
import Derived.WalkKit
import Derived.Test.YthenlgnbegeliaaGreatM06
namespace Go.VC
open Go Go.Proofs
variable {H:Heap}{R:Value->Heap->Prop}
theorem c85 (l s:Nat)(hl:l<65536)(hs:1<=s)(hs2:s<=1048576)(k:∀H',Ext H H'->R (.tuple #[.int .i64 (lo (repsOf l s) l s),.int .i64 0]) H'):Ru 85 [.int .i64 (l:Int),.int .i64 (s:Int)] H R:=by
 obtain⟨e1,e2,e3⟩:=lo_cap hs hl
 have hle:=(repsOf_spec (l:=l) hs).le
 refine v85 _ _ (c152 l s hl hs hs2 fun H1 x1=>⟨_,_,rfl,fun h'=>(h' rfl).elim,fun _=>⟨by unfold I64;omega,by unfold I64;omega,by unfold I64;omega,?_⟩⟩)
 have key:=c153 (R:=fun r H'=>∃n_2,r=.int .i64 n_2/\I64 ((repsOf l s:Int)*l-n_2)/\R (.tuple #[.int .i64 ((repsOf l s:Int)*l-n_2),.int .i64 0]) H') (H:=H1) (s+repsOf l s) (s+1) (by omega) ⟨_,rfl,by unfold I64;omega,?_⟩
 ·have c1:((s+repsOf l s:Nat):Int)=(s:Int)+(repsOf l s:Int):=by push_cast;rfl
  have c2:((s+1:Nat):Int)=(s:Int)+1:=by push_cast;rfl
  rw[c1,c2] at key
  exact key
 ·have:=k H1 x1
  unfold lo at this
  rw[e1];exact this
theorem c86 (l s:Nat)(hl:l<65536)(hs:1<=s)(hs2:s<=1048576)(k:R (.tuple #[.int .i64 ((l:Int)+(modS (strideD l s) l:Int)),.int .i64 0]) H):Ru 86 [.int .i64 (l:Int),.int .i64 (s:Int)] H R:=by
 have hD:=strideD_pos hs hl
 have hD2:strideD l s<=65536:=by
  obtain⟨j,hj,e,_⟩:=strideD_spec hs hl
  rw[e];exact Nat.le_trans (Nat.pow_le_pow_right (by omega) hj) (by decide)
 refine v86 _ _ (c15 l s hl hs hs2 ⟨_,_,rfl,fun h'=>(h' rfl).elim,fun _=>⟨fun n i H'=>H'=H/\∃j:Nat,i=j/\j<=l/\n=(l:Int)+(modS (strideD l s) j:Int),fun _ i _=>(l-i).toNat,⟨rfl,0,rfl,by omega,by simp[modS]⟩,?_⟩⟩)
 rintro H' n i ⟨h',j,rfl,hj,rfl⟩
 subst h'
 have hm:=modS_le hD j
 have hb:j*(strideD l s-1)<=65536*65536:=Nat.mul_le_mul (by omega) (by omega)
 have hr:=Nat.mod_lt j hD
 refine⟨fun hlt=>?_,fun hge=>?_⟩
 ·have e:(j:Int) % (strideD l s:Int)=((j % strideD l s:Nat):Int):=by push_cast;rfl
  rw[e]
  refine⟨⟨by omega,by omega⟩,by unfold I64;omega,by unfold I64;omega,⟨rfl,j+1,by omega,by omega,by simp only[modS];omega⟩,by dsimp only;omega⟩
 ·have:j=l:=by omega
  subst this;exact k
theorem eq64 (xo yo:Operand)(a b c d a' b' c' d':Int)(h:a=a'/\b=b'/\c=c'/\d=d'):IsB Tryz.prog (cmpS BinOp.eql 64 xo yo (.agg [Value.int .i64 a,.int .i64 b,.int .i64 c,.int .i64 d].toArray) (.agg [Value.int .i64 a',.int .i64 b',.int .i64 c',.int .i64 d'].toArray)) true:=by
 obtain⟨rfl,rfl,rfl,rfl⟩:=h
 refine isB_eql [(3,0),(3,1),(3,2),(3,3)] (by kernel_rfl) (by kernel_rfl) (by kernel_rfl) (by kernel_rfl) (by kernel_rfl) ?_ ?_
 ·intro q hq
  simp only[List.mem_cons,List.not_mem_nil,or_false] at hq
  rcases hq with rfl|rfl|rfl|rfl
  ·exact⟨⟨.i64,by kernel_rfl⟩,.i64,_,_,rfl,rfl⟩
  ·exact⟨⟨.i64,by kernel_rfl⟩,.i64,_,_,rfl,rfl⟩
  ·exact⟨⟨.i64,by kernel_rfl⟩,.i64,_,_,rfl,rfl⟩
  ·exact⟨⟨.i64,by kernel_rfl⟩,.i64,_,_,rfl,rfl⟩
 ·simp[intOf]
theorem c41 {h:Hdr}{hp:HAt}(l s:Nat)(d:DS)(hl:l<65536)(hs:h.mode≠3->1<=s)(hs2:s<=1048576)(h1:h.mode=1->d.plain=lo (repsOf l s) l s/\d.tapd=l/\d.losses=1/\d.sweeps=l+1)
  (h2:h.mode=2->d.plain=(l:Int)+(modS (strideD l s) l:Int)) (k:∀H',Ext H H'->R (.bool true) H'):Ru 41 [.agg (hdrC h hp).toArray,.int .i64 (l:Int),.int .i64 (s:Int),.agg (i64s (cntL d)).toArray] H R:=by
 refine v41 (hdrC h hp) _ _ (i64s (cntL d)) fun H1 p n1 H2 q n2=>?_
 have e2:=n1.mod.new n2
 have rp:=n2.mod.rd (by simp) ((n1.rd 0).trans (show (hdrC h hp)[0]?=some (.int .i64 h.mode) from rfl))
 refine⟨_,rp,fun hm=>?_,fun hm=>⟨_,rp,fun hm2=>?_,fun hm2=>k H2 e2⟩⟩
 ·refine c85 l s hl (hs (by omega)) hs2 fun H3 e3=>⟨_,_,rfl,fun _=>⟨i64s (cntL d),rfl,e3.rdL (by simp) n2.rdL,by unfold I64;omega,true,eq64 _ _ _ _ _ _ _ _ _ _ (h1 hm),k H3 (e2.thenExt e3)⟩,fun h'=>(h' rfl).elim⟩
 ·have hs1:=hs (by omega)
  obtain⟨f1,f2⟩:=stride_few hs1 hl
  have hll:l*l<=65536*65536:=Nat.mul_le_mul (by omega) (by omega)
  have hml:modS (strideD l s) l<=s*modS (strideD l s) l:=Nat.le_mul_of_pos_left _ hs1
  have c1:(s:Int)*(modS (strideD l s) l:Int)=((s*modS (strideD l s) l:Nat):Int):=by push_cast;rfl
  have c2:(l:Int)*(l:Int)=((l*l:Nat):Int):=by push_cast;rfl
  refine c86 l s hl hs1 hs2 ⟨_,_,rfl,fun _=>⟨_,n2.rd 0,fun _=>?_,fun hne=>(hne (h2 hm2)).elim⟩,fun h'=>(h' rfl).elim⟩
  have e:(l:Int)+(modS (strideD l s) l:Int)-(l:Int)=(modS (strideD l s) l:Int):=by omega
  rw[e,c1,c2]
  refine⟨by unfold I64;omega,by unfold I64;omega,by unfold I64;omega,fun _=>⟨fun _=>k H2 e2,fun hn=>?_⟩,fun hn=>(hn (by omega)).elim⟩
  rw[decide_eq_true (by have:=f2 (by omega);omega)]
  exact k H2 e2
structure KeepAt (H:Heap)(pk bt:Nat)(at_:Int)(tags:List Int):Prop where
 cell:∃kt,Own H pk [.int .i64 at_,.int .i64 (heldN tags:Int),.slice (some ⟨bt,0,none⟩) tags.length tags.length]/\Own H bt (i64s kt)/\kt.length=tags.length/\∀i,i<tags.length->0<=gt tags i->gt kt i=gt tags i
 ne:pk≠bt
theorem KeepAt.mod {S:List Nat}{H H':Heap}{pk bt:Nat}{at_:Int}{tags:List Int}(w:KeepAt H pk bt at_ tags)(m:Mod S H H')(h1:pk∉S)(h2:bt∉S):KeepAt H' pk bt at_ tags:=by
 obtain⟨⟨kt,o1,o2,hl,hg⟩,ne⟩:=w
 exact⟨⟨kt,o1.mod m h1,o2.mod m h2,hl,hg⟩,ne⟩
theorem gt_setO {tags:List Int}{i:Nat}{x:Int}{j:Nat}(h:i<tags.length):gt (tags.set i x) j=if i=j then x else gt tags j:=by
 rw[gt_set]
 by_cases e:i=j
 ·rw[if_pos ⟨e,h⟩,if_pos e]
 ·rw[if_neg (fun h'=>e h'.1),if_neg e]
theorem c35 {pk bt:Nat}{s m:MS1}{kd n:Int}(w:KeepAt H pk bt s.at_ s.tags)(hs:mstep s kd n=some m)(ok:MOk s)(k:∀H',KeepAt H' pk bt m.at_ m.tags->Mod [pk,bt] H H'->R (.tuple #[]) H'):Ru 35 [.pointer (some ⟨pk,0,none⟩),.agg (actC kd n).toArray] H R:=by
 have ⟨l0,l1,at0,at1,p0,p1,tg,few⟩:=ok
 obtain⟨⟨kt,o1,o2,hl,hg⟩,ne⟩:=w
 refine v35 _ _ (actC kd n) fun H1 p n1=>?_
 have a1:=o1.mod n1.mod (by simp)
 have b1:=o2.mod n1.mod (by simp)
 have hpk:=o1.lt (by simp)
 have hhn:=heldN_le s.tags
 have q0:rd H1 p 0=some (.int .i64 kd):=n1.rd 0
 have q1:rd H1 p 1=some (.int .i64 n):=n1.rd 1
 have s0:rd H1 pk 0=some (.int .i64 s.at_):=a1.rd 0 rfl
 have s2:rd H1 pk (0+2)=some (.slice (some ⟨bt,0,none⟩) s.tags.length s.tags.length):=by rw[Nat.zero_add];exact a1.rd 2 rfl
 have fin:∀{H2:Heap},KeepAt H2 pk bt m.at_ m.tags->Mod [pk,bt] H1 H2->R (.tuple #[]) H2:=fun w2 m2=>k _ w2 ((Mod.ext n1.mod).trans m2)
 refine⟨_,q0,fun k1=>?_,fun k1=>⟨fun k2=>?_,fun k2=>⟨fun k3=>?_,fun k3=>⟨fun k4=>?_,fun k4=>?_⟩⟩⟩⟩
 ·rcases mstep_inv hs with ⟨-,h1,h2,h3,rfl⟩|⟨hk,_⟩|⟨hk,_⟩|⟨hk,_⟩|⟨hk,_⟩|⟨hk,_⟩|⟨hk,_⟩<;>try omega
  refine⟨_,s0,_,q1,by unfold I64;omega,a1.w 0 1 rfl,fun H2 h2'=>?_⟩
  have a2:=a1.wr 0 (.int .i64 (s.at_+n))
  rw[<-h2'] at a2
  exact fin ⟨⟨kt,a2,b1.mod (wrM h2') (by simpa using Ne.symm ne),hl,hg⟩,ne⟩ ((wrM h2').mono (by simp))
 ·rcases mstep_inv hs with ⟨hk,_⟩|⟨-,h1,h2,h3,rfl⟩|⟨hk,_⟩|⟨hk,_⟩|⟨hk,_⟩|⟨hk,_⟩|⟨hk,_⟩<;>try omega
  refine⟨_,_,_,s2,_,q1,_,s0,bt,0,rfl,⟨h1,by omega⟩,?_,fun H2 h2'=>?_⟩
  ·exact wok_sub b1.2 (by omega) (by simp[i64s];omega)
  rw[Nat.zero_add] at h2'
  have b2:=b1.wr n.toNat (.int .i64 s.at_)
  rw[<-h2',i64s_set'] at b2
  have a2:=a1.mod (wrM h2') (by simpa using ne)
  refine⟨_,by rw[Nat.zero_add];exact a2.rd 1 rfl,by unfold I64;omega,by rw[Nat.zero_add];exact a2.w 1 1 rfl,fun H3 h3'=>?_⟩
  rw[Nat.zero_add] at h3'
  have a3:=a2.wr 1 (.int .i64 ((heldN s.tags:Int)+1))
  rw[<-h3'] at a3
  have hh:(heldN (s.tags.set n.toNat s.at_):Int)=(heldN s.tags:Int)+1:=by
   rw[heldN_set h1 h2,if_neg (by omega),if_pos at0];omega
  refine fin ⟨⟨kt.set n.toNat s.at_,?_,b2.mod (wrM h3') (by simpa using Ne.symm ne),by simpa using hl,fun i hi h0=>?_⟩,ne⟩ (((wrM h2').mono (by simp)).trans ((wrM h3').mono (by simp)))
  ·dsimp only;rw[hh,List.length_set];exact a3
  ·dsimp only at hi h0 ⊢
   rw[List.length_set] at hi
   rw[gt_setO (by omega)] at h0 ⊢
   rw[gt_setO (by omega)]
   split
   ·rfl
   ·rename_i hne;rw[if_neg hne] at h0;exact hg i hi h0
 ·rcases mstep_inv hs with ⟨hk,_⟩|⟨hk,_⟩|⟨-,h1,h2,h3,rfl⟩|⟨hk,_⟩|⟨hk,_⟩|⟨hk,_⟩|⟨hk,_⟩<;>try omega
  have hgn:gt kt n.toNat=tagAt s n:=hg n.toNat (by omega) h3
  refine⟨_,_,_,s2,_,q1,bt,0,rfl,⟨h1,by omega⟩,gt kt n.toNat,?_,a1.w 0 1 rfl,fun H2 h2'=>?_⟩
  ·rw[Nat.zero_add]
   refine b1.rd n.toNat ?_
   simp only[i64s,List.getElem?_map]
   rw[List.getElem?_eq_getElem (by omega),gt_get (by omega)];rfl
  have a2:=a1.wr 0 (.int .i64 (gt kt n.toNat))
  rw[<-h2',hgn] at a2
  exact fin ⟨⟨kt,a2,b1.mod (wrM h2') (by simpa using Ne.symm ne),hl,hg⟩,ne⟩ ((wrM h2').mono (by simp))
 ·rcases mstep_inv hs with ⟨hk,_⟩|⟨hk,_⟩|⟨hk,_⟩|⟨-,h1,h2,h3,rfl⟩|⟨hk,_⟩|⟨hk,_⟩|⟨hk,_⟩<;>try omega
  refine⟨_,_,_,s2,_,q1,bt,0,rfl,⟨h1,by omega⟩,?_,fun H2 h2'=>?_⟩
  ·exact wok_sub b1.2 (by omega) (by simp[i64s];omega)
  rw[Nat.zero_add] at h2'
  have b2:=b1.wr n.toNat (.int .i64 (-1))
  rw[<-h2',i64s_set'] at b2
  have a2:=a1.mod (wrM h2') (by simpa using ne)
  refine⟨_,by rw[Nat.zero_add];exact a2.rd 1 rfl,by unfold I64;omega,by rw[Nat.zero_add];exact a2.w 1 1 rfl,fun H3 h3'=>?_⟩
  rw[Nat.zero_add] at h3'
  have a3:=a2.wr 1 (.int .i64 ((heldN s.tags:Int)-1))
  rw[<-h3'] at a3
  have hh:(heldN (s.tags.set n.toNat (-1)):Int)=(heldN s.tags:Int)-1:=by
   rw[heldN_set h1 h2,if_pos h3,if_neg (by omega)];omega
  refine fin ⟨⟨kt.set n.toNat (-1),?_,b2.mod (wrM h3') (by simpa using Ne.symm ne),by simpa using hl,fun i hi h0=>?_⟩,ne⟩ (((wrM h2').mono (by simp)).trans ((wrM h3').mono (by simp)))
  ·dsimp only;rw[hh,List.length_set];exact a3
  ·dsimp only at hi h0 ⊢
   rw[List.length_set] at hi
   rw[gt_setO (by omega)] at h0 ⊢
   rw[gt_setO (by omega)]
   split
   ·rfl
   ·rename_i hne;rw[if_neg hne] at h0;exact hg i hi h0
 ·have hm:m.at_=s.at_/\m.tags=s.tags:=by
   rcases mstep_inv hs with ⟨hk,_⟩|⟨hk,_⟩|⟨hk,_⟩|⟨hk,_⟩|⟨_,_,_,_,rfl⟩|⟨_,_,_,_,rfl⟩|⟨_,_,_,_,rfl⟩
   ·omega
   ·omega
   ·omega
   ·omega
   ·exact⟨rfl,rfl⟩
   ·exact⟨rfl,rfl⟩
   ·exact⟨rfl,rfl⟩
  refine fin ?_ Mod.refl
  rw[hm.1,hm.2]
  exact⟨⟨kt,a1,b1,hl,hg⟩,ne⟩
end Go.VC
namespace Go.VC
open Go Go.Proofs
variable {H:Heap}{R:Value->Heap->Prop}
theorem c137 (s:UInt64)(hs:s.toNat<4294967296)(k:R (.tuple #[.int .u64 ((0:UInt64).toNat:Int),.int .u64 (s.toNat:Int)]) H) :
  Ru 137 [.int .u64 ((1:UInt64).toNat:Int),.int .u64 (s.toNat:Int)] H R:=by
 have k32:((0:Int)<=(32:Int)/\(32:Int)<(64:Int)):=by omega
 refine v137 _ _ (v208 _ _ ⟨k32,k32,k32,k32,k32,_,_,rfl,?_⟩)
 have e1:UInt64.ofNat (UInt64.toNat 1 / 4294967296)=0:=by decide
 have e2:UInt64.ofNat (s.toNat / 4294967296)=0:=by rw[Nat.div_eq_of_lt hs];rfl
 have e3:(1:UInt64) &&& UInt64.ofNat (nat_lit 4294967295)=1:=by decide
 have e4:(s &&& UInt64.ofNat (nat_lit 4294967295)).toNat<4294967296:=by
  rw[UInt64.toNat_and]
  have:(UInt64.ofNat (nat_lit 4294967295)).toNat=4294967295:=by decide
  rw[this]
  have:=Nat.and_le_right (n:=s.toNat) (m:=4294967295)
  omega
 have e5:UInt64.ofNat (UInt64.toNat (s &&& UInt64.ofNat (nat_lit 4294967295)) / 4294967296)=0:=by rw[Nat.div_eq_of_lt e4];rfl
 rw[e1,e2,e3]
 simp only[UInt64.zero_mul,UInt64.mul_zero,UInt64.one_mul,UInt64.zero_add,UInt64.add_zero,e5]
 exact k
theorem c73 {a:Option Addr}{c:Nat}(v:Int)(s:Nat)(hs:s<=1048576)(hr:RowI H a 1 [v])
  (k:∀H' a' c',Buf 1 H' H.size a' s c' (i64s (List.replicate s v))->Ext H H'->R (.slice a' s c') H'):Ru 73 [.slice a 1 c,.int .i64 (s:Int)] H R:=by
 have es:UInt64.toNat (UInt64.ofInt (s:Int))=s:=by
  rw[ofInt_nat,UInt64.toNat_ofNat'];omega
 have e1:UInt64.ofInt ((1:Nat):Int)=1:=by decide
 refine v73 _ _ _ _ ⟨fun h=>by omega,fun _=>?_⟩
 rw[e1]
 refine c137 _ (by rw[es];omega) ⟨_,_,rfl,fun H'=>H'=H,⟨fun h=>by exact absurd h (by decide),fun _=>⟨fun h=>?_,fun _=>rfl⟩⟩,?_⟩
 ·have h2:=UInt64.lt_iff_toNat_lt.1 h
  rw[es] at h2
  have:(UInt64.ofNat (nat_lit 9223372036854775807)).toNat=9223372036854775807:=by decide
  omega
 intro H0 h0
 subst h0
 rw[es]
 refine⟨by omega,⟨by omega,by omega,by omega,by unfold I64;omega⟩,fun H1 q n1=>?_⟩
 simp only[Int.toNat_natCast]
 rw[Int.toNat_natCast,rep_i64] at n1
 have o1:=n1.own
 have hfin:∀H',Own H' q (i64s (List.replicate s v))->Ext H1 H'\/Mod [q] H1 H'->R (.slice (some ⟨q,0,none⟩) s s) H':=by
  intro H' o m
  refine k H' _ _ ⟨by simp,Nat.le_refl _,.inr ⟨q,rfl,n1.ge,o.1,by have:=o.2;simpa using this⟩⟩ ?_
  rcases m with m|m
  ·exact n1.mod.thenExt m
  ·exact n1.mod.trans_new m (by simpa using n1.ge)
 have hloop:∀(m0:Nat) (H2:Heap),m0<=s->(0<m0\/s=0)->Own H2 q (i64s (List.replicate m0 v++List.replicate (s-m0) 0))->Mod [q] H1 H2->
   ∃(I:Int->Heap->Prop),∃(μ:Int->Heap->Nat),I (m0:Int) H2/\∀H n,I n H->(n<(s:Int)->((0:Int)<=n/\n<=(s:Int))/\((0:Int)<=n/\n<=(s:Int))/\∃new,List.length new=min (Int.toNat n) (s-Int.toNat n)/\SlL H (some ⟨q,0,none⟩) new/\(new=[]/\I64 (n+((min (Int.toNat n) (s-Int.toNat n):Nat):Int))/\I (n+((min (Int.toNat n) (s-Int.toNat n):Nat):Int)) H/\μ (n+((min (Int.toNat n) (s-Int.toNat n):Nat):Int)) H<μ n H\/∃b off,At (slA (some ⟨q,0,none⟩) (Int.toNat n) s 1) b off/\WOk H b off (List.length new)/\(∀(v:Value),v∈new->VC.One v)/\∀H',H'=wrL H b off new->I64 (n+((min (Int.toNat n) (s-Int.toNat n):Nat):Int))/\I (n+((min (Int.toNat n) (s-Int.toNat n):Nat):Int)) H'/\μ (n+((min (Int.toNat n) (s-Int.toNat n):Nat):Int)) H'<μ n H))/\(¬n<(s:Int)->R (.slice (some ⟨q,0,none⟩) s s) H):=by
  intro m0 H2 hm hpos o2 m2
  refine⟨fun n H'=>∃i:Nat,n=i/\i<=s/\(0<i\/s=0)/\Own H' q (i64s (List.replicate i v++List.replicate (s-i) 0))/\Mod [q] H1 H',fun n _=>(s-n).toNat,⟨m0,rfl,hm,hpos,o2,m2⟩,?_⟩
  rintro H3 n ⟨i,rfl,hi,hi0,o3,m3⟩
  refine⟨fun hlt=>?_,fun hge=>?_⟩
  ·rw[Int.toNat_natCast]
   generalize hd:min i (s-i)=d
   refine⟨by omega,by omega,i64s (List.replicate d v),by simp,.inr ⟨q,0,rfl,?_⟩,.inr ⟨q,i,?_,?_,i64s_one,fun H4 h4=>?_⟩⟩
   ·have:=rdL_take (k:=d) o3.1
    have e:(i64s (List.replicate i v++List.replicate (s-i) 0)).take d=i64s (List.replicate d v):=by
     simp only[i64s,<-List.map_take]
     rw[List.take_append_of_le_length (by simp;omega),List.take_replicate,show min d i=d from by omega]
    rwa [e] at this
   ·have:=slA_own (q:=q) (m:=i) (n:=1) (l:=s) (by omega)
    rwa [Nat.mul_one] at this
   ·refine wok_sub o3.2 (by omega) ?_
    simp;omega
   ·have o4:=o3.wrL i (i64s (List.replicate d v)) (by simp;omega)
    rw[<-h4] at o4
    have e:(i64s (List.replicate i v++List.replicate (s-i) 0)).take i++i64s (List.replicate d v)++(i64s (List.replicate i v++List.replicate (s-i) 0)).drop (i+(i64s (List.replicate d v)).length)=i64s (List.replicate (i+d) v++List.replicate (s-(i+d)) 0):=by
     simp only[i64s,<-List.map_take,<-List.map_drop,<-List.map_append]
     congr 1
     rw[List.take_append_of_le_length (by simp),List.drop_append]
     simp only[List.length_map,List.length_replicate,List.take_replicate,Nat.min_self,List.drop_replicate]
     rw[show i-(i+d)=0 from by omega,List.replicate_zero,List.nil_append,show s-i-(i+d-i)=s-(i+d) from by omega,List.replicate_append_replicate]
    rw[e] at o4
    have m4:Mod [q] H1 H4:=by rw[h4];exact m3.wrL (.inl (by simp))
    exact⟨by unfold I64;omega,⟨i+d,by omega,by omega,by omega,o4,m4⟩,by dsimp only;omega⟩
  ·have:i=s:=by omega
   subst this
   rw[Nat.sub_self,List.replicate_zero,List.append_nil] at o3
   exact hfin H3 o3 (.inr m3)
 generalize hd:min 1 s=d
 refine⟨i64s (List.replicate d v),by simp,?_,?_⟩
 ·have hr1:=Ext.row n1.mod hr
  rcases Nat.eq_zero_or_pos d with h0|h0
  ·left;rw[h0];rfl
  ·right
   obtain⟨b,o,e,hb⟩:=hr1.at (by omega)
   refine⟨b,o,e,?_⟩
   rw[show d=1 from by omega];exact hb
 ·rcases Nat.eq_zero_or_pos s with h0|h0
  ·left
   refine⟨by rw[show d=0 from by omega];rfl,?_⟩
   refine hloop d H1 (by omega) (.inr h0) ?_ Mod.refl
   rw[show d=0 from by omega,Nat.sub_zero];exact o1
  ·right
   refine⟨q,0,rfl,?_,i64s_one,fun H2 h2=>?_⟩
   ·refine wok_sub o1.2 (by omega) ?_
    simp;omega
   ·have o2:=o1.wrL 0 (i64s (List.replicate d v)) (by simp;omega)
    rw[<-h2] at o2
    have e:(i64s (List.replicate s 0)).take 0++i64s (List.replicate d v)++(i64s (List.replicate s 0)).drop (0+(i64s (List.replicate d v)).length)=i64s (List.replicate d v++List.replicate (s-d) 0):=by
     simp only[i64s,<-List.map_drop,<-List.map_append,List.take_zero,List.nil_append,List.length_map,List.length_replicate,Nat.zero_add,List.drop_replicate]
    rw[e] at o2
    exact hloop d H2 (by omega) (.inl (by omega)) o2 (by rw[h2];exact Mod.refl.wrL (.inl (by simp)))
theorem c29 (l s:Int)(hl:0<=l/\l<65536)(hs:0<=s/\s<=1048576)
  (k:∀H' bm a c,Mach H' H.size bm a c ⟨0,-1,l,0,List.replicate s.toNat (-1)⟩->Ext H H'->R (.tuple #[.pointer (some ⟨bm,0,none⟩),.int .i64 0]) H'):Ru 29 [.int .i64 l,.int .i64 s] H R:=by
 refine v29 _ _ ⟨fun H'=>H'=H,c72 l ⟨_,rfl,fun h=>by simp at h;omega,fun _=>⟨by omega,fun _=>⟨by omega,fun _=>rfl⟩⟩⟩,?_⟩
 intro H0 h0
 subst h0
 refine⟨rfl,fun H1 p n1 H2 q n2=>?_⟩
 obtain⟨m,rfl⟩:∃m:Nat,s=m:=⟨s.toNat,by omega⟩
 refine c73 (-1) m (by omega) ⟨rfl,.inr ⟨q,0,rfl,n2.rdL⟩⟩ fun H3 a c hB e3=>⟨_,_,_,rfl,?_,fun H4 h4=>?_⟩
 ·exact ((n1.own.mod n2.mod (by simp)).mod e3 (by simp)).w 4 1 rfl
 have o4:=((n1.own.mod n2.mod (by simp)).mod e3 (by simp)).wr 4 (.slice a m c)
 rw[<-h4] at o4
 have hp:p<H2.size:=Nat.lt_of_lt_of_le n1.lt n2.mod.1
 have m4:Mod [p] H3 H4:=by rw[h4];exact Mod.refl.wr (.inl (by simp))
 have hpg:=n1.ge
 have hB4:Buf 1 H4 H2.size a m c (i64s (List.replicate m (-1))):=hB.mod m4 (by simpa using hp)
 refine k H4 p a c ⟨?_,hpg,?_,?_⟩ ((((n1.mod.new n2)).thenExt e3).trans_new m4 (by simpa using hpg))
 ·simpa [machC] using o4
 ·simp only[Int.toNat_natCast,List.length_replicate]
  exact hB4.down (by omega)
 ·intro hc b e hb
  subst hb
  rcases hB4.ok with h|⟨b',e',hn,_⟩
  ·omega
  ·rw[e] at e';cases e';omega
end Go.VC
namespace Go.VC
open Go Go.Proofs
theorem up_run {h:Hdr}(hm:h.mode=1){R s:Nat}{c:Int}{ended:Bool}{d:DS}{tags:List Int}{d':DS}{tags':List Int}(r:ERun h ended d tags d' tags') :
  d.l<=R->OffInv d.l d.at_ d.pend tags->Up R s c d.l d.at_ d.pend d.plain tags->Up R s c d'.l d'.at_ d'.pend d'.plain tags':=by
 induction r with
 | refl=>intro _ _ u;exact u
 | @step d tags k n m d' tags' e1 e2 _ ih=>
  intro hR hi hu
  have hx:revNext d.l d.at_ d.pend tags=some (k,n):=by unfold enext at e1;rw[if_pos hm] at e1;exact e1
  rcases off_step hi with ⟨h0,_⟩|⟨k',n',m',h1,h2,h3,_⟩
  ·rw[hx] at h0;cases h0
  rw[hx] at h1
  cases h1
  have e2':mstep ⟨d.at_,d.pend,d.l,0,tags⟩ k n=some m:=e2
  rw[e2'] at h2
  cases h2
  exact ih hR h3 (up_step hR hi hu hx e2')
end Go.VC
namespace Go.VC
open Go Go.Proofs
def OffCnt (d:DS):Prop:=(d.pend<0->d.tapd=0/\d.losses=0/\d.sweeps=0)/\(0<=d.pend->d.tapd=d.l-d.pend/\d.losses=1/\d.sweeps=d.l-d.pend+1)
theorem erun_cnt {h:Hdr}{ended:Bool}{d:DS}{tags:List Int}{d':DS}{tags':List Int}(r:ERun h ended d tags d' tags'):MOk (dMS d tags)->OffCnt d->OffCnt d':=by
 induction r with
 | refl=>exact fun _=>id
 | @step d tags k n m d' tags' e1 e2 _ ih=>
  intro ok ⟨w1,w2⟩
  have ok2:=mstep_ok ok e2
  have hl:=(mstep_l e2).1
  have l0:=ok.l0;have a0:=ok.at0;have p0:=ok.p0
  dsimp only[dMS] at l0 a0 p0 hl
  refine ih ?_ ?_
  ·have e:m=⟨m.at_,m.pend,d.l,m.total,m.tags⟩:=by cases m;simp only at hl;rw[hl]
   rw[e] at ok2
   exact mok_total ok2
  rcases mstep_inv e2 with ⟨hk,_,_,_,rfl⟩|⟨hk,_,_,_,rfl⟩|⟨hk,_,_,_,rfl⟩|⟨hk,_,_,_,rfl⟩|⟨hk,_,hp,ha,rfl⟩|⟨hk,_,hp,ha,rfl⟩|⟨hk,_,hp,ha,rfl⟩
  ·subst hk;exact⟨w1,w2⟩
  ·subst hk;exact⟨w1,w2⟩
  ·subst hk;exact⟨w1,w2⟩
  ·subst hk;exact⟨w1,w2⟩
  ·subst hk
   dsimp only[dMS] at hp ha
   have:=w1 (by omega)
   refine⟨fun h1=>?_,fun _=>?_⟩
   ·dsimp only[dact,dMS] at h1;omega
   ·show d.tapd=d.l-d.at_/\d.losses+1=1/\d.sweeps+1=d.l-d.at_+1
    omega
  ·subst hk
   dsimp only[dMS] at hp ha
   have:=w1 (by omega)
   refine⟨fun h1=>?_,fun _=>?_⟩
   ·dsimp only[dact,dMS] at h1;omega
   ·show d.tapd+1=d.l-d.at_/\d.losses+1=1/\d.sweeps+1+1=d.l-d.at_+1
    omega
  ·subst hk
   dsimp only[dMS] at hp ha
   have:=w2 (by omega)
   refine⟨fun h1=>?_,fun _=>?_⟩
   ·dsimp only[dact,dMS] at h1;omega
   ·show d.tapd+1=d.l-d.at_/\d.losses=1/\d.sweeps+1=d.l-d.at_+1
    omega
theorem erun_m {h:Hdr}{ended:Bool}{d:DS}{tags:List Int}{d':DS}{tags':List Int}(r:ERun h ended d tags d' tags'):∃acs,MRun ⟨d.at_,d.pend,d.l,d.plain,tags⟩ acs ⟨d'.at_,d'.pend,d'.l,d'.plain,tags'⟩:=by
 induction r with
 | refl=>exact⟨[],.nil _⟩
 | @step d tags k n m d' tags' e1 e2 _ ih=>
  obtain⟨acs,q⟩:=ih
  have:=mstep_lift e2 (l':=d.l) (t':=d.plain) (Int.le_refl _) (fun _=>rfl)
  exact⟨_,.cons this q⟩
theorem off_total {h:Hdr}(ok:PlanOk h)(hm:h.mode=1){d:DS}{tags:List Int}(r:ERun h false (d0 h (fixedOf h)) (tags0 h) d tags)(hp:d.pend=0){L s:Nat}(hL:h.len=L)(hs:(slotsOf h).toNat=s):d.plain=lo (repsOf L s) L s:=by
 have hs1:=slots_pos ok (show h.mode≠3 by omega)
 have sem:=dsem0 ok (show h.mode≠3 by omega)
 have hmok:MOk ⟨0,-1,h.len,0,List.replicate (slotsOf h).toNat (-1)⟩:=sem.mok
 have hu:=up_run hm r (R:=L) (s:=(slotsOf h).toNat) (c:=if 0<h.len then bst L h.len.toNat (slotsOf h).toNat else 0) (by show h.len<=L;omega) (off_first ok hm) (Up.first L _ hmok.l0)
 have hle:=hu.le
 obtain⟨acs,q⟩:=erun_m r
 have q':MRun ⟨0,-1,h.len,0,List.replicate (slotsOf h).toNat (-1)⟩ acs ⟨d.at_,d.pend,d.l,d.plain,tags⟩:=q
 rw[hL,hs] at q' hmok
 rw[hL,hs,Int.toNat_natCast] at hle
 rw[<-bst_reps (by omega)]
 by_cases h0:0<L
 ·have:=low_all L h0 hmok q' hp
  rw[if_pos (by omega)] at hle
  dsimp only at this
  omega
 ·rw[if_neg (by omega)] at hle
  obtain⟨_,K,_,hc⟩:=low_left L L q' hmok hp (Int.le_refl _)
  have:=segs_nonneg L (List.replicate s (-1:Int)).length K (endN ⟨0,-1,L,0,List.replicate s (-1)⟩)
  dsimp only at hc
  have h0':L=0:=by omega
  subst h0'
  rw[bst_none];omega
def St (h:Hdr)(L:Nat)(fed:Int)(d:DS)(tags:List Int)(ended:Bool):Prop:=
 (h.mode=1/\ended=false/\d.l=L/\OffInv d.l d.at_ d.pend tags/\ERun h false (d0 h (fixedOf h)) (tags0 h) d tags)\/
 (h.mode=2/\ended=false/\Ahead d tags/\d.plain=d.at_/\d.l=fed/\fed<=L)\/
 (h.mode=2/\ended=true/\SInv d.l d.at_ d.pend tags/\d.l=L/\(d.pend = -1->d.plain=d.at_)/\(0<=d.pend->BPl d.l d.at_ d.pend d.plain tags))\/
 (h.mode=3/\ended=false/\d.l=L/\0<=d.at_/\d.at_<=d.l/\-1<=d.pend/\(0<=d.pend->d.at_=d.pend))
noncomputable def stM (h:Hdr)(L:Nat)(d:DS)(tags:List Int)(ended:Bool):Int:=
 if h.mode=1 then offM d.l d.at_ d.pend tags else if h.mode=2 then (if ended then sM d.l d.at_ d.pend tags else (L-d.l+1)*2097155+aM d.l d.at_ tags) else plM d
theorem stM1 {h:Hdr}(hm:h.mode=1)(L:Nat)(d:DS)(tags:List Int)(ended:Bool):stM h L d tags ended=offM d.l d.at_ d.pend tags:=by unfold stM;rw[if_pos hm]
theorem stM2f {h:Hdr}(hm:h.mode=2)(L:Nat)(d:DS)(tags:List Int):stM h L d tags false=(L-d.l+1)*2097155+aM d.l d.at_ tags:=by unfold stM;rw[if_neg (by omega),if_pos hm];rfl
theorem stM2t {h:Hdr}(hm:h.mode=2)(L:Nat)(d:DS)(tags:List Int):stM h L d tags true=sM d.l d.at_ d.pend tags:=by unfold stM;rw[if_neg (by omega),if_pos hm];rfl
theorem stM3 {h:Hdr}(hm:h.mode=3)(L:Nat)(d:DS)(tags:List Int)(ended:Bool):stM h L d tags ended=plM d:=by unfold stM;rw[if_neg (by omega),if_neg (by omega)]
theorem stM_bound {h:Hdr}{L:Nat}(hL:L<65536){fed:Int}{d:DS}{tags:List Int}{ended:Bool}(w:St h L fed d tags ended):0<=stM h L d tags ended/\stM h L d tags ended<=274877906944:=by
 rcases w with ⟨hm,rfl,hl,hi,_⟩|⟨hm,rfl,ha,_,hl,hf⟩|⟨hm,rfl,hi,hl,_⟩|⟨hm,rfl,hl,a0,a1,p0,p1⟩
 ·rw[stM1 hm]
  have hb:=offM_bound hi
  have:d.l*(3*d.l+10)<=65536*200000:=Int.mul_le_mul (by omega) (by omega) (by omega) (by omega)
  omega
 ·rw[stM2f hm]
  have hb:=aM_bound ha.inv
  have l0:=ha.inv.mok.l0
  dsimp only at l0
  omega
 ·rw[stM2t hm]
  have hb:=sM_bound hi
  omega
 ·rw[stM3 hm]
  unfold plM
  split<;>omega
theorem st_next {h:Hdr}{L:Nat}{fed:Int}{d:DS}{tags:List Int}{ended:Bool}(w:St h L fed d tags ended){k n:Int}(hx:gnext h d tags ended=some (k,n)) :
  (h.mode≠3->∃m,mstep (dMS d tags) k n=some m/\gact h d tags k n=(dact h d k n m,m.tags)/\mstep ⟨d.at_,d.pend,L,d.plain,tags⟩ k n=some ⟨m.at_,m.pend,L,if k=1 then d.plain+n else d.plain,m.tags⟩)/\
  St h L fed (gact h d tags k n).1 (gact h d tags k n).2 ended/\stM h L (gact h d tags k n).1 (gact h d tags k n).2 ended<stM h L d tags ended:=by
 rcases w with ⟨hm,rfl,hl,hi,r⟩|⟨hm,rfl,ha,hp,hl,hf⟩|⟨hm,rfl,hi,hl,hp,hb⟩|⟨hm,rfl,hl,a0,a1,p0,p1⟩
 ·have h3:h.mode≠3:=by omega
  rw[gnext_s h3] at hx
  rcases (off_inv hm false).step d tags hi with h0|⟨k',n',m,q1,q2,q3,q4⟩
  ·rw[hx] at h0;cases h0
  rw[hx] at q1;cases q1
  rw[gactS h3 q2]
  refine⟨fun _=>⟨m,q2,rfl,mstep_lift q2 (l':=L) (t':=d.plain) (by show d.l<=L;omega) (fun _=>hl)⟩,.inl ⟨hm,rfl,hl,q3,r.snoc hx q2⟩,?_⟩
  rw[stM1 hm,stM1 hm];exact q4
 ·have h3:h.mode≠3:=by omega
  rw[gnext_s h3] at hx
  have hx':=hx
  rw[enext_ahead hm ha.pd false] at hx'
  rcases (ahead_inv hm).step d tags ha with h0|⟨k',n',m,q1,q2,q3,q4⟩
  ·rw[hx] at h0;cases h0
  rw[hx] at q1;cases q1
  rw[gactS h3 q2]
  have ha0:=ha.inv.mok.at0
  dsimp only at ha0
  have e:mstep ⟨d.at_,-1,d.l,0,tags⟩ k n=some m:=by rw[<-ha.pd];exact q2
  have hmp:m.pend = -1:=q3.pd
  have hpl:=a_plain (plain:=d.plain) ha0 hp hx' e hmp
  have hk5:¬(k=5\/k=6):=by
   intro hk
   rcases mstep_inv e with ⟨q,_⟩|⟨q,_⟩|⟨q,_⟩|⟨q,_⟩|⟨_,_,_,_,rfl⟩|⟨_,_,_,_,rfl⟩|⟨q,_⟩<;>first|omega|(dsimp only at hmp;omega)
  refine⟨fun _=>⟨m,q2,rfl,mstep_lift q2 (l':=L) (t':=d.plain) (by show d.l<=L;omega) (fun h'=>(hk5 h').elim)⟩,.inr (.inl ⟨hm,rfl,q3,hpl,hl,hf⟩),?_⟩
  rw[stM2f hm,stM2f hm]
  have q4':aM d.l m.at_ m.tags<aM d.l d.at_ tags:=q4
  show (L-d.l+1)*2097155+aM d.l m.at_ m.tags<_
  omega
 ·have h3:h.mode≠3:=by omega
  rw[gnext_s h3] at hx
  have hx':strideNext d.l true d.at_ d.pend tags=some (k,n):=by unfold enext at hx;rw[if_neg (by omega)] at hx;exact hx
  rcases (str_inv hm).step d tags hi with h0|⟨k',n',m,q1,q2,q3,q4⟩
  ·rw[hx] at h0;cases h0
  rw[hx] at q1;cases q1
  rw[gactS h3 q2]
  have e:mstep ⟨d.at_,d.pend,d.l,0,tags⟩ k n=some m:=q2
  refine⟨fun _=>⟨m,q2,rfl,mstep_lift q2 (l':=L) (t':=d.plain) (by show d.l<=L;omega) (fun _=>hl)⟩,.inr (.inr (.inl ⟨hm,rfl,q3,hl,?_,?_⟩)),?_⟩
  ·intro hmp
   have hmp':m.pend = -1:=hmp
   rcases hi with ⟨hdp,hf⟩|hbi
   ·rw[hdp] at hx' e
    have ha0:=hf.inv.mok.at0
    dsimp only at ha0
    exact a_plain (plain:=d.plain) ha0 (hp hdp) hx' e hmp'
   ·have hpd:=hbi.pd
    have hm0:0<=d.at_:=hbi.mok.at0
    rcases mstep_inv e with ⟨_,_,_,_,rfl⟩|⟨_,_,_,_,rfl⟩|⟨_,_,_,_,rfl⟩|⟨_,_,_,_,rfl⟩|⟨_,_,_,_,rfl⟩|⟨_,_,_,_,rfl⟩|⟨_,_,_,_,rfl⟩<;>dsimp only at hmp'<;>omega
  ·intro hmp
   have hmp':0<=m.pend:=hmp
   rcases hi with ⟨hdp,hf⟩|hbi
   ·rw[hdp,hf.next true] at hx'
    simp only[if_true] at hx'
    cases hx'
    rcases mstep_inv e with ⟨q,_⟩|⟨q,_⟩|⟨q,_⟩|⟨q,_⟩|⟨_,_,_,_,rfl⟩|⟨q,_⟩|⟨q,_⟩<;>try omega
    exact bpl_first hf (hp hdp)
   ·exact b_plain hbi (hb hbi.pd) hx' e
  ·rw[stM2t hm,stM2t hm]
   exact q4
 ·unfold gnext at hx
  rw[if_pos hm] at hx
  rw[gact3 hm]
  refine⟨fun h3=>(h3 hm).elim,.inr (.inr (.inr ⟨hm,rfl,?_⟩)),?_⟩
  all_goals
   unfold bnext at hx
   split at hx
   ·split at hx
    ·cases hx
     first
      | (rw[bact8];exact⟨hl,by dsimp only;omega,by dsimp only;omega,p0,fun h'=>by dsimp only at h';omega⟩)
      | (rw[stM3 hm,stM3 hm,bact8];unfold plM;dsimp only;(repeat' split)<;>omega)
    ·cases hx
     first
      | (rw[bact5];exact⟨hl,a0,a1,by dsimp only;omega,fun h'=>by dsimp only;omega⟩)
      | (rw[stM3 hm,stM3 hm,bact5];unfold plM;dsimp only;(repeat' split)<;>omega)
   ·split at hx
    ·cases hx
     first
      | (rw[bact9];exact⟨hl,by dsimp only;omega,by dsimp only;have:=p1 (by omega);omega,by dsimp only;omega,fun h'=>rfl⟩)
      | (rw[stM3 hm,stM3 hm,bact9];unfold plM;dsimp only;(repeat' split)<;>omega)
    ·cases hx
theorem st_none {h:Hdr}(ok:PlanOk h){L:Nat}(hL:h.mode≠2->h.len=L){fed:Int}{d:DS}{tags:List Int}{ended:Bool}(w:St h L fed d tags ended)(hx:gnext h d tags ended=none) :
  (h.mode=2/\ended=false/\Ahead d tags/\AFull d.l d.at_ tags/\d.plain=d.at_/\d.l=fed/\fed<=L)\/
  ((h.mode≠2\/ended=true)/\d.pend=0/\d.l=L/\(h.mode=1->d.plain=lo (repsOf L (slotsOf h).toNat) L (slotsOf h).toNat/\d.tapd=L/\d.losses=1/\d.sweeps=L+1)/\
   (h.mode=2->d.plain=(L:Int)+(modS (DD d.l tags) L:Int))):=by
 rcases w with ⟨hm,rfl,hl,hi,r⟩|⟨hm,rfl,ha,hp,hl,hf⟩|⟨hm,rfl,hi,hl,hp,hb⟩|⟨hm,rfl,hl,a0,a1,p0,p1⟩
 ·rw[gnext_s (by omega)] at hx
  have hpend:=off_end hm hi hx
  have hc:=(erun_cnt r (dsem0 ok (show h.mode≠3 by omega)).mok ⟨fun _=>⟨rfl,rfl,rfl⟩,fun h'=>by simp[d0] at h'⟩).2 (by omega)
  exact .inr ⟨.inl (by omega),hpend,hl,fun _=>⟨off_total ok hm r hpend (hL (by omega)) rfl,by omega,hc.2.1,by omega⟩,fun h'=>by omega⟩
 ·rw[gnext_s (by omega)] at hx
  exact .inl ⟨hm,rfl,ha,ahead_full hm ha hx,hp,hl,hf⟩
 ·rw[gnext_s (by omega)] at hx
  have hpend:=str_end hm hi hx
  have hs:=(hb (by omega)).sum
  refine .inr ⟨.inr rfl,hpend,hl,fun h'=>by omega,fun _=>?_⟩
  have ha0:0<=d.at_:=by
   rcases hi with ⟨h1,_⟩|h1
   ·omega
   ·exact h1.mok.at0
  unfold remS at hs
  rw[hpend,if_neg (by omega)] at hs
  have e0:modS (DD d.l tags) (0:Int).toNat=0:=rfl
  rw[e0] at hs
  have e1:d.l.toNat=L:=by omega
  rw[e1] at hs
  omega
 ·unfold gnext at hx
  rw[if_pos hm] at hx
  refine .inr ⟨.inl (by omega),?_,hl,fun h'=>by omega,fun h'=>by omega⟩
  unfold bnext at hx
  split at hx
  ·split at hx<;>cases hx
  ·split at hx
   ·cases hx
   ·omega
theorem st_more {h:Hdr}{L:Nat}(hL:L<65536){d:DS}{tags:List Int}(hm:h.mode=2)(ha:Ahead d tags)(full:AFull d.l d.at_ tags)(hp:d.plain=d.at_)(hlt:d.l+1<=L) :
  St h L (d.l+1) { d with l:=d.l+1 } tags false/\stM h L { d with l:=d.l+1 } tags false<=stM h L d tags false:=by
 have hm':=ha.more full (by omega)
 refine⟨.inr (.inl ⟨hm,rfl,hm',hp,rfl,hlt⟩),?_⟩
 have b1:=aM_bound hm'.inv
 have b2:=aM_bound ha.inv
 rw[stM2f hm,stM2f hm]
 dsimp only at b1 ⊢
 omega
theorem st_end {h:Hdr}{L:Nat}{fed':Int}{d:DS}{tags:List Int}(hm:h.mode=2)(ha:Ahead d tags)(full:AFull d.l d.at_ tags)(hp:d.plain=d.at_)(hl:d.l=L) :
  St h L fed' d tags true/\stM h L d tags true<=stM h L d tags false/\gnext h d tags true=some (5,0):=by
 have sinv:SInv d.l d.at_ d.pend tags:=.inl ⟨ha.pd,full⟩
 refine⟨.inr (.inr (.inl ⟨hm,rfl,sinv,hl,fun _=>hp,fun h'=>by have:=ha.pd;omega⟩)),?_,?_⟩
 ·have b1:=sM_bound sinv
  have b2:=aM_bound ha.inv
  rw[stM2t hm,stM2f hm]
  omega
 ·rw[gnext_s (by omega)]
  unfold enext
  rw[if_neg (by omega),ha.pd,full.next true];rfl
theorem st_first {h:Hdr}(ok:PlanOk h){L:Nat}(hL:h.mode≠2->h.len=L){tags:List Int}(ht:h.mode≠3->tags=tags0 h):St h L 0 (d0 h (fixedOf h)) tags false:=by
 have hm:=ok.1.mode
 have hc:h.mode=1\/h.mode=2\/h.mode=3:=by omega
 rcases hc with h1|h2|h3
 ·rw[ht (by omega)]
  exact .inl ⟨h1,rfl,hL (by omega),off_first ok h1,.refl _ _⟩
 ·rw[ht (by omega)]
  exact .inr (.inl ⟨h2,rfl,Ahead.first ok h2,rfl,(str_first ok h2).1,by omega⟩)
 ·have hb:=base_facts ok h3
  exact .inr (.inr (.inr ⟨h3,rfl,hL (by omega),by show (0:Int)<=0;omega,by show (0:Int)<=h.len;omega,by show (-1:Int)<=-1;omega,fun h'=>by simp[d0] at h'⟩))
end Go.VC
namespace Go.VC
open Go Go.Proofs
variable {H:Heap}{R:Value->Heap->Prop}
theorem c205p {p:Prog}{a:Option Addr}{l c:Nat}(h:RowO H a l p.ops)(hl:l<=4398046511104)(g:∃t,GoodP p t){a1:Option Addr}{l1 c1:Nat}{xs:List UInt64}(hx:RowU H a1 l1 xs)(hr:l1<=p.regs.toNat)
  (k:∀H' q,Own H' q (u64s (fwd (unr p) (padTo p.regs.toNat xs)))->Ext H H'->H.size<=q->R (.tuple #[.slice (some ⟨q,0,none⟩) p.regs.toNat p.regs.toNat,.int .i64 0]) H'):Ru 205 [.agg (progC p a l c).toArray,.slice a1 l1 c1] H R:=by
 obtain⟨t,g⟩:=g
 have hxl:=hx.len
 have hp1:=g.regs.1;have hp2:=g.regs.2.1
 refine v205 (progC p a l c) _ _ _ fun H1 q n1=>⟨_,rfl,n1.rdL,?_⟩
 refine v267 (progC p a l c) _ _ _ fun H2 q2 n2=>⟨_,rfl,n2.rdL,?_⟩
 have e2:=n1.mod.new n2
 refine c216 (Ext.row e2 h) hl g fun ac lc cc H3 hB e3=>⟨_,_,_,_,rfl,by simp,fun _=>⟨_,e3.rd (by simp) (n2.rd 0),fun h'=>by omega,fun _=>⟨_,e3.rd (by simp) (n2.rd 0),⟨by omega,by omega,by omega,by omega,by omega⟩,fun H4 b n4=>?_⟩⟩⟩
 have e23:=e2.thenExt e3
 have e4:=e23.new n4
 have hge:H.size<=b:=Nat.le_trans e23.1 n4.ge
 have hbl:=n4.lt
 have hnb:=n4.ge
 have oz:=n4.ownz
 have hlen:(padTo p.regs.toNat xs).length=p.regs.toNat:=padTo_length (by omega)
 have fin:∀H5,Own H5 b (u64s (padTo p.regs.toNat xs))->Mod [b] H4 H5->∃a l c a_1 l_1 c_1 n,(Value.tuple #[.slice ac lc cc,.slice (some ⟨b,0,none⟩) p.regs.toNat p.regs.toNat,.int .i64 0])=.tuple #[.slice a l c,.slice a_1 l_1 c_1,.int .i64 n]/\(¬n=0->R (.tuple #[.slice none 0 0,.int .i64 n]) H5)/\(¬¬n=0->Ru 268 [.slice a l c,.slice a_1 l_1 c_1,.int .i64 (-1),.func (.func 269) #[] #[]] H5 fun r H'=>R (.tuple #[.slice a_1 l_1 c_1,.int .i64 0]) H'):=by
  intro H5 o5 m5
  have e5:Ext H H5:=e4.trans_new m5 (by simpa using hge)
  have hB5:=(hB.ext n4.mod).keep2 m5 (by
   intro hc x e hx;simp at hx;subst hx;subst e
   have:=hB.lt hc (by omega);omega)
  refine⟨_,_,_,_,_,_,_,rfl,by simp,fun _=>?_⟩
  rw[<-hlen]
  refine c268 hB5.row (Tree.ok_prune g.ok) (Tree.full_prune t) (prune_depth g) o5 ?_ (fun o ho=>?_) (prune_size g) (by omega) (prune_small g) fun H6 o6 m6=>?_
  ·intro hlc
   refine hB5.offS (by omega) hlc fun x _ hx e=>?_
   simp at hx;subst hx;subst e
   have hlc':=hB.le
   have:=hB.lt (by omega) (by omega);omega
  ·rw[Tree.unroll_prune] at ho
   have:=good_reg g ho
   rwa [<-hlen] at this
  ·rw[unr_prune g] at o6
   have:=k H6 b o6 (e5.trans_new m6 (by simpa using hge)) hge
   rwa [<-hlen] at this
 refine⟨u64s xs,by simp;omega,(Ext.row e4 hx).2,?_⟩
 refine .inr ⟨b,0,rfl,?_,u64s_one,fun H5 h5=>?_⟩
 ·refine wok_sub oz.2 (by omega) ?_
  simp;omega
 ·have o5:=oz.wrL 0 (u64s xs) (by simp;omega)
  rw[<-h5] at o5
  have e:(u64s (zeros p.regs.toNat)).take 0++u64s xs++(u64s (zeros p.regs.toNat)).drop (0+(u64s xs).length)=u64s (padTo p.regs.toNat xs):=by
   simp only[List.take_zero,List.nil_append,Nat.zero_add,u64s_length,padTo,u64s_append]
   congr 1
   simp[u64s,zeros]
  rw[e] at o5
  exact fin H5 o5 (by rw[h5];exact Mod.refl.wrL (.inl (by simp)))
theorem c67 {p:Prog}{a:Option Addr}{c:Nat}(hr:RowO H a p.ops.length p.ops)(hl:p.ops.length<=4096)
  (k:∀a' c' H',Buf 5 H' H.size a' p.ops.length c' (opsC p.ops)->Ext H H'->R (.agg (progC p a' p.ops.length c').toArray) H'):Ru 67 [.agg (progC p a p.ops.length c).toArray] H R:=by
 refine v67 (progC p a p.ops.length c) fun H1 q n1 H2 q2 n2=>⟨_,n2.mod.rd (by simp) (n1.rd 0),_,_,_,n2.mod.rd (by simp) (n1.rd 1),c68 (Ext.row (n1.mod.new n2) hr) (by omega) fun a' c' H3 hB e3=>⟨_,_,_,rfl,(n2.mod.thenExt e3).rd (by simp) (n1.rd 0),?_⟩⟩
 have e2:=n1.mod.new n2
 have hz:=n2.lt
 refine⟨rfl,fun x hx=>?_,(n2.own.mod e3 (by simp)).w 0 2 rfl,fun H4 h4=>?_⟩
 ·simp only[List.mem_cons,List.not_mem_nil,or_false] at hx;rcases hx with rfl|rfl<;>trivial
 have m4:Mod [q2] H3 H4:=by rw[h4];exact Mod.refl.wrL (.inl (by simp))
 have o4:=(n2.own.mod e3 (by simp)).swrL (vs:=[.int .i64 p.regs,.slice a' p.ops.length c']) rfl
 rw[<-h4] at o4
 exact⟨_,rfl,o4.1,k a' c' H4 ((hB.mod m4 (by simpa using hz)).down e2.1) ((e2.thenExt e3).trans_new m4 (by have:=n2.ge;have:=n1.mod.1;simp;omega))⟩
structure ChainAt (H:Heap)(n:Nat)(bc:Nat)(h:Hdr):Prop where
 cell:∃sa sc la lc ta tc,Own H bc (progC h.step sa h.step.ops.length sc++progC h.loss la h.loss.ops.length lc++[.int .i64 (nX h:Int),.slice ta (nT h) tc])/\Buf 5 H n sa h.step.ops.length sc (opsC h.step.ops)/\Buf 1 H n ta (nT h) tc (u64s h.th)
 ge:n<=bc
theorem ChainAt.mod {S:List Nat}{H H':Heap}{n bc:Nat}{h:Hdr}(w:ChainAt H n bc h)(m:Mod S H H')(hS:∀x∈S,x<n\/H.size<=x):ChainAt H' n bc h:=by
 obtain⟨⟨sa,sc,la,lc,ta,tc,o,b1,b2⟩,ge⟩:=w
 have hlt:=o.lt (by simp[progC])
 have key:∀{sz l c:Nat} {a:Option Addr} {cells:List Value},0<sz->Buf sz H n a l c cells->Buf sz H' n a l c cells:=by
  intro sz l c a cells hz hb
  refine⟨hb.len,hb.le,hb.ok.imp id ?_⟩
  rintro⟨b,e,hb',hr,hw⟩
  rcases Nat.eq_zero_or_pos (c*sz) with h0|h0
  ·refine⟨b,e,hb',?_,fun i hi=>by omega⟩
   have:cells=[]:=List.length_eq_zero_iff.1 (by rw[hb.len];have:=Nat.mul_le_mul_right sz hb.le;omega)
   rw[this];trivial
  ·have hl:=rdsome_lt (hw 0 h0).1
   have hn:b∉S:=fun hm=>by have:=hS b hm;omega
   exact⟨b,e,hb',m.rdL hn hr,m.wok hn hw⟩
 exact⟨⟨sa,sc,la,lc,ta,tc,o.mod m (fun hm=>by have:=hS bc hm;omega),key (by omega) b1,key (by omega) b2⟩,ge⟩
theorem ChainAt.ext {H H':Heap}{n bc:Nat}{h:Hdr}(w:ChainAt H n bc h)(m:Ext H H'):ChainAt H' n bc h:=w.mod m (by simp)
theorem c27 (h:Hdr)(p:HAt)(r:HRows H h p)(ok:OkH h)
  (k:∀bc H',ChainAt H' H.size bc h->Ext H H'->R (.tuple #[.pointer (some ⟨bc,0,none⟩),.int .i64 0]) H') :
  Ru 27 [.agg (progC h.step p.sa h.step.ops.length p.sc).toArray,.agg (progC h.loss p.la h.loss.ops.length p.lc).toArray,.int .i64 (h.x.length:Int),.slice p.ta h.th.length p.tc] H R:=by
 have hsl:h.step.ops.length<=4096:=by obtain⟨t,g⟩:=ok.step;exact g.form.1
 have hll:h.loss.ops.length<=4096:=by obtain⟨t,g⟩:=ok.loss;exact g.form.1
 have hd:=ok.dims
 obtain⟨d1,d2,d3,d4,d5⟩:=ok.dims
 refine v27 (progC h.step p.sa h.step.ops.length p.sc) (progC h.loss p.la h.loss.ops.length p.lc) _ _ _ _ fun H1 q n1 H2 q2 n2=>⟨_,rfl,n2.mod.rdL (by simp) n1.rdL,_,rfl,n2.rdL,?_⟩
 have e2:=n1.mod.new n2
 refine c65 h p (r.ext e2) (fun _ _ H3 e3=>⟨_,rfl,fun h'=>(h' rfl).elim,fun _=>?_⟩) (fun n H' hn hno _=>(hno ⟨ok.step,ok.loss⟩).elim)
 have e23:=n2.mod.thenExt e3
 refine⟨_,rfl,e23.rdL (by simp) n1.rdL,_,rfl,e3.rdL (by simp) n2.rdL,c66 (h.x.length:Int) (h.th.length:Int) (by omega) (by omega) (fun _ H4 e4=>⟨_,rfl,fun h'=>(h' rfl).elim,fun _=>?_⟩) (fun hno H' _=>(hno ⟨by omega,by omega,by omega,by omega,by omega⟩).elim)⟩
 have e24:=e23.thenExt e4
 have e34:=e3.thenExt e4
 have e04:=e2.thenExt e34
 refine⟨_,rfl,e24.rdL (by simp) n1.rdL,_,rfl,e34.rdL (by simp) n2.rdL,c67 (r.ext e04).s hsl fun sa sc H5 b5 e5=>⟨_,rfl,rfl,(e34.thenExt e5).rdL (by simp) n2.rdL,c67 ((r.ext e04).ext e5).l hll fun la lc H6 b6 e6=>⟨_,rfl,rfl,?_⟩⟩⟩
 have e56:=e5.thenExt e6
 refine c69 ((r.ext e04).ext e56).th (by omega) fun ta tc H7 b7 e7=>⟨_,_,_,rfl,⟨rfl,rfl⟩,fun H8 bc n8=>?_⟩
 have e08:=(e04.thenExt (e56.thenExt e7)).new n8
 have z4:=e04.1;have z5:=e5.1;have z6:=e6.1;have z7:=e7.1
 refine k bc H8 ⟨⟨sa,sc,la,lc,ta,tc,?_,((b5.ext (e6.thenExt e7)).ext n8.mod).down (by omega),(b7.ext n8.mod).down (by omega)⟩,by have:=n8.ge;omega⟩ e08
 have:=n8.own
 simpa [progC,nX,nT] using this
theorem c135 {n bc:Nat}{h:Hdr}(w:ChainAt H n bc h)(t:Int)(ht:0<=t/\t<65536){a:Option Addr}{c:Nat}(k:R (.int .i64 0) H):Ru 135 [.pointer (some ⟨bc,0,none⟩),.int .i64 t,.slice a (nX h) c] H R:=by
 obtain⟨⟨sa,sc,la,lc,ta,tc,o,b1,b2⟩,ge⟩:=w
 exact v135 _ _ _ _ _ _ ⟨fun h'=>by omega,fun _=>⟨fun h'=>by omega,fun _=>⟨_,by rw[Nat.zero_add];exact o.rd 4 rfl,fun h'=>(h' rfl).elim,fun _=>k⟩⟩⟩
theorem c136 {n bc:Nat}{h:Hdr}(w:ChainAt H n bc h)(ok:OkH h)(t:Nat)(ht:t<65536){a:Option Addr}{c:Nat}{x:List UInt64}(hx:RowU H a (nX h) x)
  (k:∀q c' H',Own H' q (u64s (stepOut h t x))->H.size<=q->Ext H H'->R (.tuple #[.slice (some ⟨q,0,none⟩) (nX h) c',.int .i64 0]) H'):Ru 136 [.pointer (some ⟨bc,0,none⟩),.int .i64 (t:Int),.slice a (nX h) c] H R:=by
 have w':=w
 obtain⟨⟨sa,sc,la,lc,ta,tc,o,b1,b2⟩,ge⟩:=w
 have hxl:=hx.len
 have hd:=ok.dims
 obtain⟨d1,d2,d3,d4,d5⟩:=ok.dims
 have hrs:=(ok_regs ok).1
 have hsl:h.step.ops.length<=4096:=by obtain⟨t,g⟩:=ok.step;exact g.form.1
 refine v136 _ _ _ _ _ _ (c135 w' (t:Int) (by omega) ⟨_,rfl,fun h'=>(h' rfl).elim,fun _=>?_⟩)
 have hst:RdL H bc 0 (progC h.step sa h.step.ops.length sc):=by
  have:=o.1
  rw[List.append_assoc,rdL_append] at this
  exact this.1
 refine⟨_,rfl,hst,_,_,_,by rw[Nat.zero_add];exact o.rd 5 rfl,fun H1 q1 n1=>⟨by rw[Nat.zero_add];exact n1.mod.rd (by simp) (o.rd 5 rfl),n1.mod.rdL (by simp) hst,fun H2 q2 n2=>⟨(n1.mod.new n2).rdL (by simp) hst,?_⟩⟩⟩
 have e2:=n1.mod.new n2
 let A:Nat->Option Addr:=fun j=>if j=0 then a else if j=1 then ta else some ⟨q1,0,none⟩
 let L:Nat->Nat:=fun j=>if j=0 then nX h else if j=1 then nT h else 1
 let C:Nat->Nat:=fun j=>if j=0 then c else if j=1 then tc else 1
 let X:Nat->List UInt64:=fun j=>if j=0 then x else if j=1 then h.th else [UInt64.ofNat t]
 have hcat:catN X 3=x++h.th++[UInt64.ofNat t]:=by simp[catN,X]
 have hul:UInt64.ofInt (t:Int)=UInt64.ofNat t:=ofInt_nat t
 refine c206 A L C X (fun j hj=>?_) (fun j hj=>?_) (fun j hj=>?_) fun a3 c3 H3 hB e3=>⟨_,_,_,rfl,(e2.thenExt e3).rdL (by simp) hst,?_⟩
 ·have:j=0\/j=1\/j=2:=by omega
  rcases this with rfl|rfl|rfl<;>exact n2.rd _
 ·have:j=0\/j=1\/j=2:=by omega
  rcases this with rfl|rfl|rfl
  ·exact Ext.row e2 hx
  ·exact (b2.ext e2).row
  ·refine⟨rfl,.inr ⟨q1,0,rfl,?_⟩⟩
   have:=n2.mod.rdL (by simp) n1.rdL
   rw[hul] at this;exact this
 ·have:j=0\/j=1\/j=2:=by omega
  rcases this with rfl|rfl|rfl
  ·show nX h<=65536;simp only[nX];omega
  ·show nT h<=65536;simp only[nT];omega
  ·show 1<=65536;omega
 rw[hcat] at hB ⊢
 have e03:=e2.thenExt e3
 have hl3:(x++h.th++[UInt64.ofNat t]).length<=h.step.regs.toNat:=by simp;simp only[nX] at hxl;omega
 refine c205p (b1.ext e03).row (by omega) ok.step hB.row hl3 fun H4 q4 o4 e4 hq4=>⟨_,_,_,_,rfl,fun h'=>(h' rfl).elim,fun _=>?_⟩
 have e04:=e03.thenExt e4
 have r4:rd H4 bc (0+4)=some (.int .i64 (nX h:Int)):=by rw[Nat.zero_add];exact e04.rd (by simp) (o.rd 4 rfl)
 refine⟨_,r4,_,r4,⟨⟨by omega,by simp only[nX];omega⟩,by omega,by omega⟩,?_⟩
 rw[Int.toNat_natCast]
 exact k q4 _ H4 o4 (by have:=e03.1;omega) e04
structure StatesAt (H:Heap)(n m:Nat)(h:Hdr)(a:Option Addr)(l:Nat):Prop where
 row:∃b sl,a=some ⟨b,0,none⟩/\n<=b/\b<m/\List.length sl=l/\RdL H b 0 sl/\∀i v,sl[i]?=some v->∃q c,v=.slice (some ⟨q,0,none⟩) (nX h) c/\n<=q/\q<m/\RowU H (some ⟨q,0,none⟩) (nX h) (st h i)
theorem StatesAt.mod {S:List Nat}{H H':Heap}{n m l:Nat}{h:Hdr}{a:Option Addr}(w:StatesAt H n m h a l)(e:Mod S H H')(hS:∀x∈S,x<n\/m<=x):StatesAt H' n m h a l:=by
 obtain⟨b,sl,e1,g1,g2,hl,hr,hs⟩:=w
 have off:∀q,n<=q->q<m->q∉S:=fun q h1 h2 hm=>by have:=hS q hm;omega
 refine⟨b,sl,e1,g1,g2,hl,e.rdL (off b g1 g2) hr,fun i v hv=>?_⟩
 obtain⟨q,c,hq,h1,h2,h3⟩:=hs i v hv
 exact⟨q,c,hq,h1,h2,e.row (off_one (off q h1 h2)) h3⟩
theorem StatesAt.at {H:Heap}{n m l:Nat}{h:Hdr}{a:Option Addr}(w:StatesAt H n m h a l){i:Nat}(hi:i<l):∃b,a=some ⟨b,0,none⟩/\∃q c,rd H b (0+i)=some (.slice (some ⟨q,0,none⟩) (nX h) c)/\RowU H (some ⟨q,0,none⟩) (nX h) (st h i):=by
 obtain⟨b,sl,e1,g1,g2,hl,hr,hs⟩:=w
 have hv:=List.getElem?_eq_getElem (show i<sl.length by omega)
 obtain⟨q,c,hq,h1,h2,h3⟩:=hs i _ hv
 exact⟨b,e1,q,c,by rw[rdL_get' hr hv,hq],h3⟩
structure GrowS (H:Heap)(n m pr:Nat)(h:Hdr)(l:Nat):Prop where
 cell:∃a c sl,Own H pr [.slice a l c]/\Buf 1 H n a l c sl/\(0<c->∀b,a=some ⟨b,0,none⟩->b≠pr/\b<m)/\∀i v,sl[i]?=some v->∃q c',v=.slice (some ⟨q,0,none⟩) (nX h) c'/\n<=q/\q<m/\q≠pr/\(0<c->∀b,a=some ⟨b,0,none⟩->b≠q)/\RowU H (some ⟨q,0,none⟩) (nX h) (st h i)
 ge:n<=pr
theorem GrowS.ext {H H':Heap}{n m pr l:Nat}{h:Hdr}(w:GrowS H n m pr h l)(e:Ext H H'):GrowS H' n m pr h l:=by
 obtain⟨⟨a,c,sl,o,hb,hp,hs⟩,ge⟩:=w
 exact⟨⟨a,c,sl,o.mod e (by simp),hb.ext e,hp,fun i v hv=>by obtain⟨q,c',h1,h2,h3,h4,h5,h6⟩:=hs i v hv;exact⟨q,c',h1,h2,h3,h4,h5,Ext.row e h6⟩⟩,ge⟩
theorem c71 {n m pr l q c:Nat}{h:Hdr}(w:GrowS H n m pr h l)(hm:m<=H.size)(hnm:n<=m)(hl:l<=65536)(hx:RowU H (some ⟨q,0,none⟩) (nX h) (st h l))(hX:1<=nX h)(hq:m<=q)(hqp:q≠pr)
  (k:∀H',GrowS H' n H'.size pr h (l+1)->RowU H' (some ⟨q,0,none⟩) (nX h) (st h l)->(∀H0:Heap,H0.size<=n->Ext H0 H->Ext H0 H')->R (.tuple #[]) H'):Ru 71 [.pointer (some ⟨pr,0,none⟩),.slice (some ⟨q,0,none⟩) (nX h) c] H R:=by
 obtain⟨⟨a,ca,sl,o,hb,hp,hs⟩,ge⟩:=w
 have hprl:=o.lt (by simp)
 have hqH:q<H.size:=by
  obtain⟨b',o',e',hr'⟩:=hx.at (by omega)
  cases e'
  have:(st h l).length=nX h:=hx.len
  cases hst:st h l with
  | nil=>rw[hst] at this;simp at this;omega
  | cons y ys=>rw[hst] at hr';exact rd_lt hr'.1
 refine v71 _ _ _ _ _ ⟨_,_,_,o.rd 0 rfl,fun H1 q1 n1=>⟨[.slice (some ⟨q,0,none⟩) (nX h) c],rfl,.inr ⟨q1,0,rfl,n1.rdL⟩,?_⟩⟩
 have hn1:=n1.mod.1
 refine (hb.ext n1.mod).app' (by omega) rfl rfl (fun v hv=>by simp at hv;subst hv;trivial) (by omega) (by omega) fun a' c' H2 S hb2 m2 hS hnew=>?_
 have hSq:∀b∈S,b≠pr/\b<m/\b≠q/\n<=b:=fun b hb'=>by
  obtain⟨h1,h2,h3⟩:=hS b hb'
  obtain⟨h4,h5⟩:=hp h2 b h3
  exact⟨h4,h5,by omega,h1⟩
 have o2:=(o.mod n1.mod (by simp)).mod m2 (fun hm'=>(hSq pr hm').1 rfl)
 refine⟨o2.w 0 1 rfl,fun H3 h3=>?_⟩
 have o3:=o2.wr 0 (.slice a' (l+1) c')
 rw[<-h3] at o3
 have m3:Mod [pr] H2 H3:=by rw[h3];exact Mod.refl.wr (.inl (by simp))
 have hz2:=m2.1;have hz3:=m3.1
 have hqS:q∉S:=fun hm'=>(hSq q hm').2.2.1 rfl
 have row3:RowU H3 (some ⟨q,0,none⟩) (nX h) (st h l):=m3.row (off_one (by simpa using hqp)) (m2.row (off_one hqS) (Ext.row n1.mod hx))
 have hnew':0<c'->∀b,a'=some ⟨b,0,none⟩->b≠pr/\b<H3.size/\b≠q/\∀(i:Nat) (v:Value),sl[i]?=some v->∀(q' cc:Nat),v=Value.slice (some ⟨q',0,none⟩) (nX h) cc->b≠q':=by
  intro hc b e
  rcases hnew with ⟨rfl,rfl⟩|⟨p',e',hp'⟩
  ·obtain⟨h4,h5⟩:=hp hc b e
   refine⟨h4,by omega,by omega,fun i v hv q' cc hv'=>?_⟩
   obtain⟨q2,c2,g1,g2,g3,g4,g5,g6⟩:=hs i v hv
   rw[g1] at hv';cases hv'
   exact g5 hc b e
  ·rw[e] at e';cases e'
   rw[e] at hb2
   have hlt:=hb2.lt (by omega) (by omega)
   refine⟨by omega,by omega,by omega,fun i v hv q' cc hv'=>?_⟩
   obtain⟨q2,c2,g1,g2,g3,g4,g5,g6⟩:=hs i v hv
   rw[g1] at hv';cases hv'
   omega
 have hslen:sl.length=l:=by have:=hb.len;omega
 refine k H3 ⟨⟨a',c',sl++[Value.slice (some ⟨q,0,none⟩) (nX h) c],by simpa using o3,?_,fun hc b e=>⟨(hnew' hc b e).1,(hnew' hc b e).2.1⟩,fun i v hv=>?_⟩,ge⟩ row3 fun H0 h0 e0=>?_
 ·refine⟨hb2.len,hb2.le,hb2.ok.imp id ?_⟩
  rintro⟨b,e,h1,h2,h4⟩
  rcases Nat.eq_zero_or_pos c' with hc|hc
  ·have:=hb2.le;omega
  ·have:=(hnew' hc b e).1
   exact⟨b,e,h1,m3.rdL (by simpa using this) h2,m3.wok (by simpa using this) h4⟩
 ·rcases Nat.lt_or_ge i l with hi|hi
  ·rw[List.getElem?_append_left (by omega)] at hv
   obtain⟨q2,c2,g1,g2,g3,g4,g5,g6⟩:=hs i v hv
   have hq2S:q2∉S:=fun hm'=>by
    obtain⟨h1,h2,h3⟩:=hS q2 hm'
    exact g5 h2 q2 h3 rfl
   exact⟨q2,c2,g1,g2,by omega,g4,fun hc b e=>(hnew' hc b e).2.2.2 i v hv q2 c2 g1,m3.row (off_one (by simpa using g4)) (m2.row (off_one hq2S) (Ext.row n1.mod g6))⟩
  ·rw[List.getElem?_append_right (by omega),hslen] at hv
   have hil:i=l:=by
    have:=(List.getElem?_eq_some_iff.1 hv).1
    simp at this;omega
   subst hil
   rw[Nat.sub_self] at hv
   simp at hv
   subst hv
   exact⟨q,c,rfl,by omega,by omega,hqp,fun hc b e=>(hnew' hc b e).2.2.1,row3⟩
 ·exact ((e0.new n1).trans_new m2 (fun x hx'=>.inr (by have:=(hSq x hx').2.2.2;omega))).trans_new m3 (by simp;omega)
theorem c70 {nc bc pr:Nat}{h:Hdr}(w:ChainAt H nc bc h)(ok:OkH h)(L:Nat)(hL:L<65536){a:Option Addr}{c:Nat}(hx:RowU H a (nX h) h.x){n:Nat}(g:GrowS H n H.size pr h 0){H0:Heap}(h0:H0.size<=n)(e0:Ext H0 H)(wc:ChainAt H0 nc bc h)
  (k:∀H',GrowS H' n H'.size pr h (L+1)->Ext H0 H'->R (.int .i64 0) H'):Ru 70 [.pointer (some ⟨bc,0,none⟩),.slice a (nX h) c,.int .i64 (L:Int),.func (.func 71) #[.pointer (some ⟨pr,0,none⟩)] #[]] H R:=by
 have hd:=ok.dims
 obtain⟨d1,d2,d3,d4,d5⟩:=ok.dims
 have hX:1<=nX h:=by simp only[nX];omega
 have hnH:n<=H.size:=by
  obtain⟨⟨a,c,sl,o,_⟩,ge⟩:=g
  have:=o.lt (by simp);omega
 refine v70 _ _ _ _ _ _ _ (c135 w (L:Int) (by omega) ⟨_,rfl,fun h'=>(h' rfl).elim,fun _=>c69 hx (by simp only[nX];omega) fun a1 c1 H1 hB1 e1=>⟨_,_,_,rfl,71,_,_,rfl,by kernel_rfl,?_⟩⟩)
 obtain⟨q1,rfl,hq1,o1⟩:=hB1.own (by omega)
 have hprH:pr<H.size:=by obtain⟨⟨a,c,sl,o,_⟩,ge⟩:=g;exact o.lt (by simp)
 refine c71 (g.ext e1) (by have:=e1.1;omega) hnH (by omega) hB1.row hX hq1 (by omega) fun H2 g2 r2 x2=>?_
 refine⟨fun a l c t H'=>∃(i q:Nat),t=i/\i<=L/\a=some ⟨q,0,none⟩/\l=nX h/\RowU H' (some ⟨q,0,none⟩) (nX h) (st h i)/\GrowS H' n H'.size pr h (i+1)/\Ext H0 H',fun _ _ _ t _=>(L-t).toNat,⟨0,q1,rfl,by omega,rfl,rfl,r2,g2,x2 H0 h0 (e0.thenExt e1)⟩,?_⟩
 rintro H3 a3 l3 c3 t ⟨i,q,rfl,hi,rfl,rfl,hr,g3,e3⟩
 have hprH3:pr<H3.size:=by obtain⟨⟨a,c,sl,o,_⟩,ge⟩:=g3;exact o.lt (by simp)
 have hnH3:n<=H3.size:=by have:=g3.ge;omega
 refine⟨fun hlt=>?_,fun hge=>?_⟩
 ·refine c136 (wc.ext e3) ok i (by omega) hr fun q4 c4 H4 o4 hq4 e4=>⟨_,_,_,_,rfl,71,_,_,rfl,by kernel_rfl,?_⟩
  have hrow4:RowU H4 (some ⟨q4,0,none⟩) (nX h) (st h (i+1)):=o4.rowT (l:=nX h) (by rw[stepOut_length hd (st_length hd i)];simp only[nX,nS];omega)
  refine c71 (g3.ext e4) e4.1 hnH3 (by omega) hrow4 hX hq4 (by omega) fun H5 g5 r5 x5=>⟨by unfold I64;omega,⟨i+1,q4,by omega,by omega,rfl,rfl,r5,g5,x5 H0 h0 (e3.thenExt e4)⟩,by dsimp only;omega⟩
 ·have:i=L:=by omega
  subst this
  exact k H3 g3 e3
theorem c28 {nc bc:Nat}{h:Hdr}(w:ChainAt H nc bc h)(ok:OkH h)(L:Nat)(hL:L<65536){a:Option Addr}{c:Nat}(hx:RowU H a (nX h) h.x)
  (k:∀a' c' H',StatesAt H' H.size H'.size h a' (L+1)->Ext H H'->R (.tuple #[.slice a' (L+1) c',.int .i64 0]) H'):Ru 28 [.pointer (some ⟨bc,0,none⟩),.slice a (nX h) c,.int .i64 (L:Int)] H R:=by
 refine v28 _ _ _ _ _ _ fun H1 p n1=>?_
 have g:GrowS H1 H.size H1.size p h 0:=⟨⟨none,0,[],n1.own,Buf.nil,fun h'=>by omega,fun i v hv=>by simp at hv⟩,n1.ge⟩
 refine c70 (w.ext n1.mod) ok L hL (Ext.row n1.mod hx) g (Nat.le_refl _) n1.mod w fun H2 g2 e2=>?_
 obtain⟨⟨a2,c2,sl,o,hb,hp,hs⟩,ge⟩:=g2
 refine⟨_,rfl,_,_,_,o.rd 0 rfl,?_⟩
 refine k a2 c2 H2 ⟨?_⟩ e2
 rcases hb.ok with h0|⟨b,e,h1,h2,h3⟩
 ·have:=hb.le;omega
 ·have hc:0<c2:=by have:=hb.le;omega
  refine⟨b,sl,e,h1,(hp hc b e).2,by have:=hb.len;omega,h2,fun i v hv=>?_⟩
  obtain⟨q,c',g1,g2,g3,g4,g5,g6⟩:=hs i v hv
  exact⟨q,c',g1,g2,g3,g6⟩
end Go.VC
namespace Go.VC
open Go Go.Proofs
def GB (N0 N1 NM x:Nat):Prop:=(N0<=x/\x<N1)\/NM<=x
def GMod (N0 N1 NM:Nat)(H H':Heap):Prop:=∃S,Mod S H H'/\∀x∈S,GB N0 N1 NM x
theorem GMod.andThen {N0 N1 NM:Nat}{H H' H'':Heap}(g:GMod N0 N1 NM H H'){S:List Nat}(m:Mod S H' H'')(hS:∀x∈S,GB N0 N1 NM x):GMod N0 N1 NM H H'':=by
 obtain⟨T,h1,h2⟩:=g
 exact⟨T++S,(h1.mono (by simp +contextual)).trans (m.mono (by simp +contextual)),fun x hx=>by rcases List.mem_append.1 hx with h|h;exact h2 x h;exact hS x h⟩
theorem GMod.ext {N0 N1 NM:Nat}{H H' H'':Heap}(g:GMod N0 N1 NM H H')(e:Ext H' H''):GMod N0 N1 NM H H'':=g.andThen e (by simp)
theorem GMod.refl {N0 N1 NM:Nat}{H:Heap}:GMod N0 N1 NM H H:=⟨[],Mod.refl,by simp⟩
structure Zone (N0 N1 NM NK N2:Nat):Prop where
 a:N0<=N1
 b:N1<=NM
 c:NM<=NK
 d:NK<=N2
structure W6 (N0 N1 NM NK N2:Nat)(Hs H:Heap)(h:Hdr)(bm:Nat)(am:Option Addr)(cm pk bt ns:Nat)(be:Nat)(b:DB)(d:DS)(tags:List Int)(ended:Bool)(ms:MS1)(ka:Int)(kt:List Int):Prop where
 z:Zone N0 N1 NM NK N2
 eng:∃s K post,EngG H be b h d tags ended false s K post
 ge:∀x∈[b.d,b.m,b.w,be],(N0<=x/\x<N1)\/N2<=x
 ap:∀S:List Nat,(∀x∈S,N1<=x/\x<N2)->DOff h b S/\be∉S
 mach:h.mode≠3->Mach H NM bm am cm ms
 mb:∀x,MachB bm am cm x->NM<=x/\x<NK
 keep:h.mode≠3->KeepAt H pk bt ka kt
 keep3:h.mode=3->Own H pk [.int .i64 ka,.int .i64 0,.slice (some ⟨bt,0,none⟩) ns ns]
 pkb:NK<=pk/\pk<N2/\NK<=bt/\bt<N2
 mod:GMod N0 N1 NM Hs H
section
variable {N0 N1 NM NK N2:Nat}{Hs H H':Heap}{h:Hdr}{bm:Nat}{am:Option Addr}{cm pk bt ns be:Nat}{b:DB}{d:DS}{tags:List Int}{ended:Bool}{ms:MS1}{ka:Int}{kt:List Int}
theorem W6.eng' (w:W6 N0 N1 NM NK N2 Hs H h bm am cm pk bt ns be b d tags ended ms ka kt){d':DS}{tags':List Int}{ended':Bool}{s:PS}{K post:List UInt64}{S:List Nat}(e:EngG H' be b h d' tags' ended' false s K post)(m:Mod S H H')(hS:∀x∈S,x∈[b.d,b.m,b.w,be]) :
  W6 N0 N1 NM NK N2 Hs H' h bm am cm pk bt ns be b d' tags' ended' ms ka kt:=by
 obtain⟨z,eng,ge,ap,mach,mb,keep,keep3,pkb,mod⟩:=w
 have hz1:=z.a;have hz2:=z.b;have hz3:=z.c;have hz4:=z.d
 have hg:∀x∈S,(N0<=x/\x<N1)\/N2<=x:=fun x hx=>ge x (hS x hx)
 have n1:pk∉S:=fun hx=>by have:=hg _ hx;omega
 have n2:bt∉S:=fun hx=>by have:=hg _ hx;omega
 refine⟨z,⟨_,_,_,e⟩,ge,ap,fun h3=>(mach h3).keep m fun x hx hb=>?_,mb,fun h3=>(keep h3).mod m n1 n2,fun h3=>(keep3 h3).mod m n1,pkb,mod.andThen m fun x hx=>?_⟩
 ·have:=hg x hx;have:=mb x hb;omega
 ·have:=hg x hx;unfold GB;omega
theorem W6.ext (w:W6 N0 N1 NM NK N2 Hs H h bm am cm pk bt ns be b d tags ended ms ka kt)(e:Ext H H'):W6 N0 N1 NM NK N2 Hs H' h bm am cm pk bt ns be b d tags ended ms ka kt:=by
 obtain⟨s,K,post,g⟩:=w.eng
 exact w.eng' (g.ext e) e (by simp)
theorem W6.mach' (w:W6 N0 N1 NM NK N2 Hs H h bm am cm pk bt ns be b d tags ended ms ka kt){ms':MS1}(mc:Mach H' NM bm am cm ms')(mm:MMod bm am cm H H'):W6 N0 N1 NM NK N2 Hs H' h bm am cm pk bt ns be b d tags ended ms' ka kt:=by
 obtain⟨z,⟨s,K,post,e⟩,ge,ap,mach,mb,keep,keep3,pkb,mod⟩:=w
 have hz1:=z.a;have hz2:=z.b;have hz3:=z.c;have hz4:=z.d
 obtain⟨S,m,hS⟩:=mm
 have hb:∀x∈S,NM<=x/\x<NK:=fun x hx=>mb x (hS x hx)
 have n1:pk∉S:=fun hx=>by have:=hb _ hx;omega
 have n2:bt∉S:=fun hx=>by have:=hb _ hx;omega
 obtain⟨a1,a2⟩:=ap S fun x hx=>by have:=hb x hx;omega
 exact⟨z,⟨_,_,_,e.keep m a2 a1⟩,ge,ap,fun _=>mc,mb,fun h3=>(keep h3).mod m n1 n2,fun h3=>(keep3 h3).mod m n1,pkb,mod.andThen m fun x hx=>.inr (hb x hx).1⟩
theorem W6.keep' (w:W6 N0 N1 NM NK N2 Hs H h bm am cm pk bt ns be b d tags ended ms ka kt)(h3:h.mode≠3){ka':Int}{kt':List Int}(k:KeepAt H' pk bt ka' kt')(m:Mod [pk,bt] H H'):W6 N0 N1 NM NK N2 Hs H' h bm am cm pk bt ns be b d tags ended ms ka' kt':=by
 obtain⟨z,⟨s,K,post,e⟩,ge,ap,mach,mb,keep,keep3,pkb,mod⟩:=w
 have hz1:=z.a;have hz2:=z.b;have hz3:=z.c;have hz4:=z.d
 obtain⟨a1,a2⟩:=ap [pk,bt] (by simp;omega)
 refine⟨z,⟨_,_,_,e.keep m a2 a1⟩,ge,ap,fun h3=>(mach h3).keep m fun x hx hb=>?_,mb,fun _=>k,fun h'=>(h3 h').elim,pkb,mod.andThen m fun x hx=>?_⟩
 ·have:=mb x hb;simp at hx;omega
 ·simp at hx;unfold GB;omega
theorem W6.keep3' (w:W6 N0 N1 NM NK N2 Hs H h bm am cm pk bt ns be b d tags ended ms ka kt)(h3:h.mode=3){ka':Int}(k:Own H' pk [.int .i64 ka',.int .i64 0,.slice (some ⟨bt,0,none⟩) ns ns])(m:Mod [pk] H H'):W6 N0 N1 NM NK N2 Hs H' h bm am cm pk bt ns be b d tags ended ms ka' kt:=by
 obtain⟨z,⟨s,K,post,e⟩,ge,ap,mach,mb,keep,keep3,pkb,mod⟩:=w
 have hz1:=z.a;have hz2:=z.b;have hz3:=z.c;have hz4:=z.d
 obtain⟨a1,a2⟩:=ap [pk] (by simp;omega)
 refine⟨z,⟨_,_,_,e.keep m a2 a1⟩,ge,ap,fun h'=>(h' h3).elim,mb,fun h'=>(h' h3).elim,fun _=>k,pkb,mod.andThen m fun x hx=>?_⟩
 simp at hx;unfold GB;omega
theorem W6.thaw (w:W6 N0 N1 NM NK N2 Hs H h bm am cm pk bt ns be b d tags ended ms ka kt)(hn:N2<=Hs.size){be':Nat}{b':DB}{s:PS}{K post:List UInt64}(e:EngG H' be' b' h d tags ended false s K post)(di:DIn h b' H.size)(hb:H.size<=be')(x:Ext H H') :
  W6 N0 N1 NM NK N2 Hs H' h bm am cm pk bt ns be' b' d tags ended ms ka kt:=by
 obtain⟨z,_,ge,ap,mach,mb,keep,keep3,pkb,mod⟩:=w
 obtain⟨T,h1,h2⟩:=mod
 have hle:N2<=H.size:=Nat.le_trans hn h1.1
 refine⟨z,⟨_,_,_,e⟩,fun y hy=>.inr ?_,fun S hS=>⟨di.off fun y hy=>?_,fun hy=>?_⟩,fun h3=>(mach h3).ext x,mb,fun h3=>(keep h3).mod x (by simp) (by simp),fun h3=>(keep3 h3).mod x (by simp),pkb,GMod.ext ⟨T,h1,h2⟩ x⟩
 ·have:=di.d;have:=di.m;have:=di.w
  simp only[List.mem_cons,List.not_mem_nil,or_false] at hy
  omega
 ·have:=hS y hy;omega
 ·have:=hS _ hy;omega
theorem GMod.rdL {N0 N1 NM:Nat}{H H':Heap}(g:GMod N0 N1 NM H H'){x:Nat}{vs:List Value}(hx:x<N0\/(N1<=x/\x<NM))(r:RdL H x 0 vs)(hz:N0<=N1/\N1<=NM):RdL H' x 0 vs:=by
 obtain⟨S,m,hS⟩:=g
 exact m.rdL (fun hm=>by have:=hS x hm;unfold GB at this;omega) r
theorem GMod.extOf {N0 N1 NM:Nat}{H0 H H':Heap}(g:GMod N0 N1 NM H H')(e:Ext H0 H)(h0:H0.size<=N0/\N0<=NM):Ext H0 H':=by
 obtain⟨S,m,hS⟩:=g
 exact e.trans_new m fun x hx=>.inr (by have:=hS x hx;unfold GB at this;omega)
theorem GMod.states {N0 N1 NM n m':Nat}{H H':Heap}(g:GMod N0 N1 NM H H'){a:Option Addr}{l:Nat}(w:StatesAt H n m' h a l)(h1:N1<=n/\m'<=NM):StatesAt H' n m' h a l:=by
 obtain⟨S,m,hS⟩:=g
 exact w.mod m fun x hx=>by have:=hS x hx;unfold GB at this;omega
end
end Go.VC
namespace Go.VC
open Go Go.Proofs
theorem EngG.live {H:Heap}{be:Nat}{b:DB}{h:Hdr}{d:DS}{tags:List Int}{ended failed:Bool}{s:PS}{K post:List UInt64}(e:EngG H be b h d tags ended failed s K post) :
  s.st=st h d.at_.toNat/\d.live<=d.peak/\d.peak<=h.words/\(h.mode≠3->d.live=fixedOf h+slotOf h*(heldN tags:Int)/\MOk (dMS d tags)/\tags.length=(slotsOf h).toNat)/\0<=d.live/\0<=d.at_/\d.at_<=d.l/\-1<=d.pend/\d.pend<=d.l/\d.l<65536:=by
 have hfx:0<=fixedOf h:=(small_sum e.drv.ok.1 7).1
 rcases e.sem with ⟨hm,_,q⟩|⟨hm,_,q⟩
 ·have h1:=q.live
  have hs:=slot_eq hm
  have h2:=Int.mul_nonneg (show 0<=slotOf h by omega) (show (0:Int)<=(heldN tags:Int) by omega)
  have ⟨l0,l1,at0,at1,p0,p1,tg,few⟩:=q.mok
  dsimp only[dMS] at l0 l1 at0 at1 p0 p1
  exact⟨q.st,q.pk,q.pk2,fun _=>⟨h1,q.mok,q.len⟩,by omega,at0,at1,p0,p1,l1⟩
 ·have h1:=q.live
  have hb:=base_facts e.drv.ok hm
  have hs3:=slot3 hm e.drv.ok.1
  have h2:=Int.mul_nonneg (show 0<=slotOf h by omega) q.at0
  have:=q.l;have:=q.at1;have:=q.p0
  refine⟨q.st,q.pk,q.pk2,fun h3=>(h3 hm).elim,by omega,q.at0,q.at1,q.p0,?_,by omega⟩
  rcases Int.lt_or_le d.pend 0 with h0|h0
  ·have:=q.at0;omega
  ·have:=q.p1 h0;omega
theorem gcnt_step {h:Hdr}{d:DS}{tags:List Int}{k n B:Int}(c:DCnt d B)(hx:h.mode≠3->∃m,mstep (dMS d tags) k n=some m/\gact h d tags k n=(dact h d k n m,m.tags)):DCnt (gact h d tags k n).1 (B+65536):=by
 by_cases h3:h.mode=3
 ·rw[gact3 h3];exact (bcnt_step c).mono (by omega)
 ·obtain⟨m,h1,h2⟩:=hx h3
  rw[h2];exact (dcnt_step h1 c).mono (by omega)
theorem st_facts {h:Hdr}{L:Nat}{fed:Int}{d:DS}{tags:List Int}{ended:Bool}(w:St h L fed d tags ended):(h.mode≠2->d.l=L/\ended=false)/\(h.mode=2->ended=true\/d.pend<0)/\d.l<=L:=by
 rcases w with ⟨hm,rfl,hl,_⟩|⟨hm,rfl,ha,_,hl,hf⟩|⟨hm,rfl,_,hl,_⟩|⟨hm,rfl,hl,_⟩
 ·exact⟨fun _=>⟨hl,rfl⟩,fun h'=>by omega,by omega⟩
 ·exact⟨fun h'=>(h' hm).elim,fun _=>.inr (by have:=ha.pd;omega),by omega⟩
 ·exact⟨fun h'=>(h' hm).elim,fun _=>.inl rfl,by omega⟩
 ·exact⟨fun _=>⟨hl,rfl⟩,fun h'=>by omega,by omega⟩
theorem waits_iff {h:Hdr}{d:DS}{tags:List Int}{ended:Bool}:((gnext h d tags ended).isNone && decide (h.mode=2) && !ended)=true<->gnext h d tags ended=none/\h.mode=2/\ended=false:=by
 cases gnext h d tags ended<;>cases ended<;>simp
section
variable {N0 N1 NM NK N2:Nat}{Hs H:Heap}{h:Hdr}{bm:Nat}{am:Option Addr}{cm pk bt ns be:Nat}{b:DB}{d:DS}{tags:List Int}{ended:Bool}{ms:MS1}{ka:Int}{kt:List Int}{L:Nat}{p p1:Nat}{asl:Option Addr}{m1 m2:Nat}{Q:Value->Heap->Prop}
theorem W6.at0 (w:W6 N0 N1 NM NK N2 Hs H h bm am cm pk bt ns be b d tags ended ms ka kt):rd H pk 0=some (.int .i64 ka):=by
 by_cases hm3:h.mode=3
 ·exact (w.keep3 hm3).rd 0 rfl
 ·obtain⟨kt0,ko1,_⟩:=(w.keep hm3).cell
  exact ko1.rd 0 rfl
theorem c6_tail (w:W6 N0 N1 NM NK N2 Hs H h bm am cm pk bt ns be b d tags ended ms d.at_ kt)(st40:StatesAt H m1 m2 h asl (L+1))(rp:∀H',Ext H H'->rd H' p 8=some (.int .i64 h.words))(hdl:d.l<=L){Z:Heap->Prop}(hZ:∀H',Ext H H'->Z H') :
  ∃n_11,rd H pk 0=some (.int .i64 n_11)/\(n_11<(0:Int)->Q (.bool false) H)/\(¬n_11<(0:Int)->∃n_12,rd H pk 0=some (.int .i64 n_12)/\((L:Int)<n_12->Q (.bool false) H)/\(¬(L:Int)<n_12->∃n,rd H pk 0=some (.int .i64 n)/\∃b o,At asl b o/\((0:Int)<=n/\n<((L+1:Nat):Int))/\∃a l c,rd H b (o+n.toNat)=some (.slice a l c)/\Ru 38 [.pointer (some ⟨be,0,none⟩)] H fun r H'=>∃a_15 l_2 c_1,r=.slice a_15 l_2 c_1/\rd H' b (o+n.toNat)=some (.slice a l c)/\rd H' pk 0=some (.int .i64 n)/\Ru 37 [.slice a_15 l_2 c_1,.slice a l c] H' fun r H'=>∃c,r=.bool c/\((!c)=true->Q (.bool false) H')/\((!c)=false->∃n,rd H' p 8=some (.int .i64 n)/\Ru 36 [.pointer (some ⟨be,0,none⟩)] H' fun r H'=>∃n_13,r=.int .i64 n_13/\rd H' p 8=some (.int .i64 n)/\(n<n_13->Q (.bool false) H')/\(¬n<n_13->∃n,rd H' p 8=some (.int .i64 n)/\Ru 39 [.pointer (some ⟨be,0,none⟩)] H' fun r H'=>∃n_14,r=.int .i64 n_14/\rd H' p 8=some (.int .i64 n)/\(n<n_14->Q (.bool false) H')/\(¬n<n_14->Z H'))))):=by
 obtain⟨s40,K40,post40,eng40⟩:=w.eng
 obtain⟨u1,u2,u3,u4,u5,u6,u7,u8,u9,u10⟩:=eng40.live
 have k0:=w.at0
 have hdm:=eng40.drv.ok.1.dims
 obtain⟨dm1,dm2,dm3,dm4,dm5⟩:=hdm
 obtain⟨bs,hbs,qs,cs,hrd,hrow⟩:=st40.at (i:=d.at_.toNat) (by omega)
 rw[Nat.zero_add] at hrd
 refine⟨_,k0,fun h'=>by omega,fun _=>⟨_,k0,fun h'=>by omega,fun _=>⟨_,k0,bs,0,hbs,⟨by omega,by push_cast;omega⟩,_,_,_,by rw[Nat.zero_add];exact hrd,c38 eng40 fun a c H41 hB x41=>⟨_,_,_,rfl,by rw[Nat.zero_add];exact x41.rd (by simp) hrd,x41.rd (by simp) k0,c37 hB.row (Ext.row x41 hrow) (by simp only[nX];omega) ⟨_,rfl,fun h'=>?_,fun _=>?_⟩⟩⟩⟩⟩
 ·rw[decide_eq_true u1] at h';cases h'
 have eng41:=eng40.ext x41
 have r8:=rp H41 x41
 exact⟨_,r8,c36 eng41 ⟨_,rfl,r8,fun h'=>by omega,fun _=>⟨_,r8,c39 eng41 ⟨_,rfl,r8,fun h'=>by omega,fun _=>hZ H41 x41⟩⟩⟩⟩
theorem c6_mach {d2:DS}{tags2:List Int}(w:W6 N0 N1 NM NK N2 Hs H h bm am cm pk bt ns be b d2 tags2 ended ⟨d.at_,d.pend,(L:Int),d.plain,tags⟩ d.at_ tags)(hm3:h.mode≠3){kk nn:Int}{m:MS1}(hd:(d2,tags2)=(dact h d kk nn m,m.tags))(hlift:mstep ⟨d.at_,d.pend,(L:Int),d.plain,tags⟩ kk nn=some ⟨m.at_,m.pend,(L:Int),if kk=1 then d.plain+nn else d.plain,m.tags⟩)(hL65:L<65536)(hdl:d.l<=L)(mok0:MOk (dMS d tags))(hpl:0<=d.plain/\d.plain<=4611686018427387904)
  {pa:Nat} (oa:Own H pa (actC kk nn)) (hpa:NK<=pa) (rl:∀{H'},GMod N0 N1 NM Hs H'->RdL H' p1 0 (i64s (planL h))) :
  ∃cs:List Value,cs.length=2/\RdL H pa 0 cs/\Ru 34 [.pointer (some ⟨bm,0,none⟩),.agg cs.toArray] H fun r H'=>∃n,r=.int .i64 n/\(¬n=0->Q (.bool false) H')/\(¬¬n=0->∃cs:List Value,cs.length=2/\RdL H' pa 0 cs/\Ru 35 [.pointer (some ⟨pk,0,none⟩),.agg cs.toArray] H' fun r H'=>∃n,rd H' pk 1=some (.int .i64 n)/\∃n_11,rd H' p1 3=some (.int .i64 n_11)/\(n_11<n->Q (.bool false) H')/\(¬n_11<n->∃n,rd H' p1 0=some (.int .i64 n)/\∃n_12,rd H' p1 2=some (.int .i64 n_12)/\∃n_13,rd H' pk 1=some (.int .i64 n_13)/\I64 (n_12*n_13)/\I64 (n+n_12*n_13)/\Ru 36 [.pointer (some ⟨be,0,none⟩)] H' fun r H'=>∃n_14,r=.int .i64 n_14/\rd H' pk 1=some (.int .i64 n_13)/\rd H' p1 2=some (.int .i64 n_12)/\rd H' p1 0=some (.int .i64 n)/\(¬n_14=n+n_12*n_13->Q (.bool false) H')/\(¬¬n_14=n+n_12*n_13->
   ∃ms ka kt,W6 N0 N1 NM NK N2 Hs H' h bm am cm pk bt ns be b d2 tags2 ended ms ka kt/\(h.mode≠3->ms=⟨d2.at_,d2.pend,L,d2.plain,tags2⟩/\ka=d2.at_/\kt=tags2)/\ka=d2.at_))):=by
 obtain⟨rfl,rfl⟩:d2=dact h d kk nn m/\tags2=m.tags:=by cases hd;exact⟨rfl,rfl⟩
 have mok:MOk ⟨d.at_,d.pend,(L:Int),d.plain,tags⟩:=by
  have ⟨m1,m2,m3,m4,m5,m6,m7,m8⟩:=mok0
  dsimp only[dMS] at m1 m2 m3 m4 m5 m6 m7 m8
  exact⟨by dsimp only;omega,by dsimp only;omega,m3,by dsimp only;omega,m5,by dsimp only;omega,fun t ht=>by have:=m7 t ht;dsimp only;omega,m8⟩
 refine⟨actC kk nn,rfl,oa.1,c34 (w.mach hm3) mok hpl kk nn ⟨fun s' H34 hs' mc mm=>⟨0,rfl,fun h'=>(h' rfl).elim,fun _=>?_⟩,fun e H' hnone=>by rw[hlift] at hnone;cases hnone⟩⟩
 rw[hlift] at hs'
 have w34:=w.mach' mc mm
 obtain⟨S,mS,hS⟩:=mm
 have opa:=oa.mod mS fun hx=>by have:=w.mb pa (hS pa hx);omega
 refine⟨actC kk nn,rfl,opa.1,c35 (s:=⟨d.at_,d.pend,(L:Int),d.plain,tags⟩) (w34.keep hm3) hlift mok fun H35 kp m35=>?_⟩
 have w35:=w34.keep' hm3 kp m35
 cases hs'
 dsimp only at w35 kp
 obtain⟨s35,K35,post35,eng35⟩:=w35.eng
 obtain⟨u1,u2,u3,u4,u5,u6,u7,u8,u9,u10⟩:=eng35.live
 obtain⟨u41,u42,u43⟩:=u4 hm3
 obtain⟨kt0,ko1,ko2,_⟩:=kp.cell
 have k1:=ko1.rd 1 rfl
 have ok:=eng35.drv.ok
 have rpl:=rl w35.mod
 have rl:∀i v,(i64s (planL h))[i]?=some v->rd H35 p1 i=some v:=fun i v hv=>by have:=rdL_get' rpl hv;rwa [Nat.zero_add] at this
 have hhn:=heldN_le m.tags
 have hfx:0<=fixedOf h:=(small_sum ok.1 7).1
 have hwd:=ok.1.words
 obtain⟨sl0,sl1,sl2,sl3⟩:=slots_small ok
 have hso:=slot_eq hm3
 have hmn:=Int.mul_nonneg (show 0<=slotOf h by omega) (show (0:Int)<=(heldN m.tags:Int) by omega)
 exact⟨_,k1,_,rl 3 _ rfl,fun h'=>by omega,fun _=>⟨_,rl 0 _ rfl,_,rl 2 _ rfl,_,k1,by unfold I64;omega,by unfold I64;omega,c36 eng35 ⟨_,rfl,k1,rl 2 _ rfl,rl 0 _ rfl,fun hne=>(hne u41).elim,fun _=>⟨_,_,_,w35,fun _=>⟨rfl,rfl,rfl⟩,rfl⟩⟩⟩⟩
structure Env6 (N0 N1 NM NK N2:Nat)(Hs:Heap)(h:Hdr)(hp:HAt)(L p p1:Nat)(asl:Option Addr)(m1 m2:Nat):Prop where
 ok:PlanOk h
 hL65:L<65536
 hLen:h.mode≠2->h.len=L
 hn:N2<=Hs.size
 gx:∀{H':Heap},GMod N0 N1 NM Hs H'->RdL H' p 0 (hdrC h hp)/\RdL H' p1 0 (i64s (planL h))/\HRows H' h hp/\StatesAt H' m1 m2 h asl (L+1)
theorem Env6.rp {hp:HAt}(env:Env6 N0 N1 NM NK N2 Hs h hp L p p1 asl m1 m2)(g:GMod N0 N1 NM Hs H)(i:Nat)(v:Value)(hv:(hdrC h hp)[i]?=some v):rd H p i=some v:=by
 have:=rdL_get' (env.gx g).1 hv;rwa [Nat.zero_add] at this
def Rel6 (h:Hdr)(L:Nat)(d:DS)(tags:List Int)(ms:MS1)(ka:Int)(kt:List Int):Prop:=h.mode≠3->ms=⟨d.at_,d.pend,L,d.plain,tags⟩/\ka=d.at_/\kt=tags
theorem c6_step {hp:HAt}(env:Env6 N0 N1 NM NK N2 Hs h hp L p p1 asl m1 m2)(w:W6 N0 N1 NM NK N2 Hs H h bm am cm pk bt ns be b d tags ended ms ka kt)(rel:Rel6 h L d tags ms ka kt){fed:Int}(st1:St h L fed d tags ended){B:Int}(cnt1:DCnt d B)(hB:B<=2305843009213693952){kk nn:Int}(hsome:gnext h d tags ended=some (kk,nn)){Z:Heap->Prop}
  (hZ:∀d2 tags2 ms2 ka2 kt2 H',W6 N0 N1 NM NK N2 Hs H' h bm am cm pk bt ns be b d2 tags2 ended ms2 ka2 kt2->Rel6 h L d2 tags2 ms2 ka2 kt2->St h L fed d2 tags2 ended->stM h L d2 tags2 ended<stM h L d tags ended->DCnt d2 (B+65536)->Z H') :
  Ru 31 [.pointer (some ⟨be,0,none⟩)] H fun r H'=>∃c,r=.bool c/\(c=true->Q (.bool false) H')/\(c=false->Ru 12 [.pointer (some ⟨be,0,none⟩)] H' fun r H'=>∃cs:List Value,cs.length=2/\∃c n_10,r=.tuple #[.agg cs.toArray,.bool c,.int .i64 n_10]/\∀H'_3 p_3,New H' [.int .i64 0,.int .i64 0] 39 H'_3 p_3->cs.length=2/\(∀v∈cs,One v)/\WOk H'_3 p_3 0 2/\∀H',H'=wrL H'_3 p_3 0 cs->∃(J:Heap->Prop),(((!c)=true->Q (.bool false) H')/\((!c)=false->(¬n_10=0->Q (.bool false) H')/\(¬¬n_10=0->J H')))/\∀H_3,J H_3->∃(J:Heap->Prop),(∃n,rd H_3 p 0=some (.int .i64 n)/\(n=(3:Int)->Ru 16 [.pointer (some ⟨be,0,none⟩)] H_3 fun r H'=>∃cs:List Value,cs.length=3/\r=.agg cs.toArray/\True/\∃(v:Value),cs[0]?=some v/\∃n,v=.int .i64 n/\WOk H' pk 0 1/\∀H'_4,H'_4=wr H' pk 0 (.int .i64 n)->J H'_4)/\(¬n=3->∃cs:List Value,cs.length=2/\RdL H_3 p_3 0 cs/\Ru 34 [.pointer (some ⟨bm,0,none⟩),.agg cs.toArray] H_3 fun r H'=>∃n,r=.int .i64 n/\(¬n=0->Q (.bool false) H')/\(¬¬n=0->∃cs:List Value,cs.length=2/\RdL H' p_3 0 cs/\Ru 35 [.pointer (some ⟨pk,0,none⟩),.agg cs.toArray] H' fun r H'=>∃n,rd H' pk 1=some (.int .i64 n)/\∃n_11,rd H' p1 3=some (.int .i64 n_11)/\(n_11<n->Q (.bool false) H')/\(¬n_11<n->∃n,rd H' p1 0=some (.int .i64 n)/\∃n_12,rd H' p1 2=some (.int .i64 n_12)/\∃n_13,rd H' pk 1=some (.int .i64 n_13)/\I64 (n_12*n_13)/\I64 (n+n_12*n_13)/\Ru 36 [.pointer (some ⟨be,0,none⟩)] H' fun r H'=>∃n_14,r=.int .i64 n_14/\rd H' pk 1=some (.int .i64 n_13)/\rd H' p1 2=some (.int .i64 n_12)/\rd H' p1 0=some (.int .i64 n)/\(¬n_14=n+n_12*n_13->Q (.bool false) H')/\(¬¬n_14=n+n_12*n_13->J H')))))/\∀H_4,J H_4->∃n_11,rd H_4 pk 0=some (.int .i64 n_11)/\(n_11<(0:Int)->Q (.bool false) H_4)/\(¬n_11<(0:Int)->∃n_12,rd H_4 pk 0=some (.int .i64 n_12)/\((L:Int)<n_12->Q (.bool false) H_4)/\(¬(L:Int)<n_12->∃n,rd H_4 pk 0=some (.int .i64 n)/\∃b o,At asl b o/\((0:Int)<=n/\n<((L+1:Nat):Int))/\∃a l c,rd H_4 b (o+n.toNat)=some (.slice a l c)/\Ru 38 [.pointer (some ⟨be,0,none⟩)] H_4 fun r H'=>∃a_15 l_2 c_1,r=.slice a_15 l_2 c_1/\rd H' b (o+n.toNat)=some (.slice a l c)/\rd H' pk 0=some (.int .i64 n)/\Ru 37 [.slice a_15 l_2 c_1,.slice a l c] H' fun r H'=>∃c,r=.bool c/\((!c)=true->Q (.bool false) H')/\((!c)=false->∃n,rd H' p 8=some (.int .i64 n)/\Ru 36 [.pointer (some ⟨be,0,none⟩)] H' fun r H'=>∃n_13,r=.int .i64 n_13/\rd H' p 8=some (.int .i64 n)/\(n<n_13->Q (.bool false) H')/\(¬n<n_13->∃n,rd H' p 8=some (.int .i64 n)/\Ru 39 [.pointer (some ⟨be,0,none⟩)] H' fun r H'=>∃n_14,r=.int .i64 n_14/\rd H' p 8=some (.int .i64 n)/\(n<n_14->Q (.bool false) H')/\(¬n<n_14->Z H')))))):=by
 obtain⟨s1,K1,post1,eng1⟩:=w.eng
 refine g31 eng1 fun H29 x29=>⟨_,rfl,fun hc=>?_,fun _=>?_⟩
 ·rw[hsome] at hc;simp at hc
 have w29:=w.ext x29
 obtain⟨q1,q2,q3⟩:=st_next st1 hsome
 obtain⟨tf1,tf2,tf3⟩:=st_facts st1
 obtain⟨lv1,lv2,lv3,lv4,lv5⟩:=eng1.live
 have hpl:0<=d.plain/\d.plain<=4611686018427387904:=⟨cnt1.p.1,by have:=cnt1.p.2;omega⟩
 have cnt2:=gcnt_step (h:=h) (tags:=tags) (k:=kk) (n:=nn) cnt1 fun h3=>by obtain⟨m,a1,a2,_⟩:=q1 h3;exact⟨m,a1,a2⟩
 refine g12 (eng1.ext x29) (cnt1.mono hB) (fun h3 k' n' hx=>by rw[hsome] at hx;cases hx;obtain⟨m,hm,_⟩:=q1 h3;exact⟨m,hm⟩) (fun hnone=>by rw[hsome] at hnone;cases hnone) fun k' n' hx H30 s30 K30 e30 m30=>?_
 rw[hsome] at hx
 cases hx
 refine⟨_,rfl,_,_,rfl,fun H31 pa n31=>⟨rfl,act_one,n31.own.w 0 2 rfl,fun H32 h32=>?_⟩⟩
 obtain⟨x32,oa⟩:=tmpE (cs:=actC kk nn) n31 rfl h32
 clear h32
 refine⟨fun H'=>H'=H32,⟨fun h'=>by simp at h',fun _=>⟨fun h'=>(h' rfl).elim,fun _=>rfl⟩⟩,?_⟩
 intro H33 h33
 subst h33
 have w30:=w29.eng' e30 m30 (by simp +contextual)
 have w33:=w30.ext x32
 have eng33:=e30.ext x32
 have hpa:NK<=pa:=by
  have h1:=n31.ge;have h2:=env.hn;have h3:=w.z.d
  obtain⟨S,m,_⟩:=w30.mod
  have h4:=m.1
  omega
 clear cnt1 hsome m30 e30 w29 w30
 refine⟨fun H'=>∃ms ka kt,W6 N0 N1 NM NK N2 Hs H' h bm am cm pk bt ns be b (gact h d tags kk nn).1 (gact h d tags kk nn).2 ended ms ka kt/\Rel6 h L (gact h d tags kk nn).1 (gact h d tags kk nn).2 ms ka kt/\ka=(gact h d tags kk nn).1.at_,⟨_,env.rp w33.mod 0 _ rfl,fun hm3=>?_,fun hm3=>?_⟩,?_⟩
 ·refine g16 eng33 fun a c H34 _ x34=>⟨_,rfl,rfl,trivial,_,rfl,_,rfl,((w33.ext x34).keep3 hm3).w 0 1 rfl,fun H35 h35=>?_⟩
  have o35:=((w33.ext x34).keep3 hm3).wr 0 (.int .i64 (gact h d tags kk nn).1.at_)
  rw[<-h35] at o35
  exact⟨_,_,_,(w33.ext x34).keep3' hm3 o35 (wrM h35),fun h3=>(h3 hm3).elim,rfl⟩
 ·obtain⟨m,hm,hg,hlift⟩:=q1 hm3
  obtain⟨r1,r2,r3⟩:=rel hm3
  rw[r1,r2,r3] at w33
  exact c6_mach w33 hm3 hg hlift env.hL65 tf3 (lv4 hm3).2.1 hpl oa hpa fun g=>(env.gx g).2.1
 rintro H40 ⟨ms2,ka2,kt2,w40,rel40,rfl⟩
 exact c6_tail w40 (env.gx w40.mod).2.2.2 (fun H' x=>env.rp (w40.ext x).mod 8 _ rfl) (st_facts q2).2.2 fun H' x=>hZ _ _ _ _ _ H' (w40.ext x) rel40 q2 q3 cnt2
end
end Go.VC
namespace Go.VC
open Go Go.Proofs
def In6 (N0 N1 NM NK N2:Nat)(Hs:Heap)(h:Hdr)(bm:Nat)(am:Option Addr)(cm pk bt ns be:Nat)(b:DB)(L:Nat)(G:DS->List Int->Bool->Prop)(M B fed:Int)(H:Heap):Prop:=
 ∃d tags ended ms ka kt,W6 N0 N1 NM NK N2 Hs H h bm am cm pk bt ns be b d tags ended ms ka kt/\Rel6 h L d tags ms ka kt/\St h L fed d tags ended/\stM h L d tags ended<=M/\DCnt d B/\G d tags ended
def GoOn (h:Hdr)(d:DS)(tags:List Int)(ended:Bool):Prop:=∃kk nn,gnext h d tags ended=some (kk,nn)
def Maybe (h:Hdr)(d:DS)(tags:List Int)(ended:Bool):Prop:=gnext h d tags ended=none->h.mode=2/\ended=false
section
variable {N0 N1 NM NK N2:Nat}{Hs H:Heap}{h:Hdr}{hp:HAt}{bm:Nat}{am:Option Addr}{cm pk bt ns be:Nat}{b:DB}{d:DS}{tags:List Int}{ended:Bool}{ms:MS1}{ka:Int}{kt:List Int}{L:Nat}{p p1:Nat}{asl:Option Addr}{m1 m2:Nat}{Q:Value->Heap->Prop}
theorem c6_feed (env:Env6 N0 N1 NM NK N2 Hs h hp L p p1 asl m1 m2){M B fed:Int}(hI:In6 N0 N1 NM NK N2 Hs h bm am cm pk bt ns be b L (Maybe h) M B fed H) :
  Ru 11 [.pointer (some ⟨be,0,none⟩)] H fun r H'=>∃c,r=.bool c/\(c=true->I64 (fed+(1:Int))/\I64 ((L:Int)+(1:Int))/\((L:Int)+(1:Int)<fed+(1:Int)->Q (.bool false) H')/\(¬(L:Int)+(1:Int)<fed+(1:Int)->Ru 14 [.pointer (some ⟨be,0,none⟩),.bool (decide (fed+(1:Int)<=(L:Int)))] H' fun r H'=>∃n,r=.int .i64 n/\(¬n=0->Q (.bool false) H')/\(¬¬n=0->In6 N0 N1 NM NK N2 Hs h bm am cm pk bt ns be b L (Maybe h) M B (fed+(1:Int)) H'/\(L+2-(fed+(1:Int))).toNat<(L+2-fed).toNat)))/\
   (c=false->In6 N0 N1 NM NK N2 Hs h bm am cm pk bt ns be b L (GoOn h) M B fed H'):=by
 obtain⟨d1,tags1,ended1,ms1,ka1,kt1,w1,rel1,st1,le1,cnt1,g1⟩:=hI
 obtain⟨s1,K1,post1,eng1⟩:=w1.eng
 have hL65:=env.hL65
 refine g11 eng1 fun H26 x26=>⟨_,rfl,fun hc=>?_,fun hc=>⟨d1,tags1,ended1,ms1,ka1,kt1,w1.ext x26,rel1,st1,le1,cnt1,?_⟩⟩
 rotate_left
 ·cases hh:gnext h d1 tags1 ended1 with
  | none=>
   obtain⟨a1,a2⟩:=g1 hh
   rw[waits_iff.2 ⟨hh,a1,a2⟩] at hc;cases hc
  | some q=>exact⟨q.1,q.2,hh⟩
 obtain⟨hnone,hm,rfl⟩:=waits_iff.1 hc
 rcases st_none env.ok env.hLen st1 hnone with ⟨_,_,ahd,full,hpl,hfd,hfl⟩|⟨h',_⟩
 rotate_left
 ·rcases h' with h'|h'
  ·exact (h' hm).elim
  ·cases h'
 have l0:=ahd.inv.mok.l0
 dsimp only at l0
 refine⟨by unfold I64;omega,by unfold I64;omega,fun h'=>by omega,fun _=>?_⟩
 have engS:=(eng1.ext x26).s (by omega)
 have hwn:enext h d1 tags1 false=none:=by rw[gnext_s (by omega)] at hnone;exact hnone
 refine c14 engS hm ahd.pd hwn (decide (fed+1<=(L:Int))) (fun hmore H27 e27 m27=>⟨0,rfl,fun h'=>(h' rfl).elim,fun _=>?_⟩) (fun hmore hl65 H27 e27 m27=>⟨0,rfl,fun h'=>(h' rfl).elim,fun _=>?_⟩) (fun hmore hl65=>?_)
 ·have hfe:¬fed+1<=(L:Int):=by simpa using hmore
  obtain⟨se1,se2,se3⟩:=st_end (fed':=fed+1) hm ahd full hpl (show d1.l=L by omega)
  exact⟨⟨d1,tags1,true,ms1,ka1,kt1,(w1.ext x26).eng' (e27.g (by omega)) m27 (by simp),rel1,se1,Int.le_trans se2 le1,cnt1,fun hh=>by rw[se3] at hh;cases hh⟩,by omega⟩
 ·have hfe:fed+1<=(L:Int):=by simpa using hmore
  obtain⟨sm1,sm2⟩:=st_more hL65 hm ahd full hpl (show d1.l+1<=L by omega)
  refine⟨⟨{ d1 with l:=d1.l+1 },tags1,false,ms1,ka1,kt1,(w1.ext x26).eng' (e27.g (by omega)) m27 (by simp +contextual),rel1,?_,Int.le_trans sm2 le1,⟨cnt1.p,cnt1.t,cnt1.l,cnt1.s⟩,fun _=>⟨hm,rfl⟩⟩,by omega⟩
  have e:fed+1=d1.l+1:=by omega
  rw[e];exact sm1
 ·have hfe:fed+1<=(L:Int):=by simpa using hmore
  omega
theorem c6_thaw (env:Env6 N0 N1 NM NK N2 Hs h hp L p p1 asl m1 m2)(w:W6 N0 N1 NM NK N2 Hs H h bm am cm pk bt ns be b d tags ended ms ka kt){fed B:Int}(stt:St h L fed d tags ended)(cnt:DCnt d B)(hB:B<=2305843009213693952) :
  Ru 32 [.pointer (some ⟨be,0,none⟩)] H fun r H'=>∃a l c n,r=.tuple #[.slice a l c,.int .i64 n]/\∃cs:List Value,cs.length=9/\RdL H' p 0 cs/\Ru 33 [.agg cs.toArray,.slice a l c] H' fun r H'=>∃v n_9,r=.tuple #[v,.int .i64 n_9]/\(¬n=0->Q (.bool false) H')/\(¬¬n=0->(¬n_9=0->Q (.bool false) H')/\(¬¬n_9=0->∃a,v=.pointer a/\(a=none->Q (.bool false) H')/\(¬a=none->
   ∃be b ms' ka' kt',v=.pointer (some ⟨be,0,none⟩)/\W6 N0 N1 NM NK N2 Hs H' h bm am cm pk bt ns be b d tags ended ms' ka' kt'/\(Rel6 h L d tags ms ka kt->Rel6 h L d tags ms' ka' kt')))):=by
 obtain⟨sf1,sf2,sf3⟩:=st_facts stt
 have hL65:=env.hL65
 obtain⟨s,K,post,eng21⟩:=w.eng
 obtain⟨lv1,lv2,lv3,lv4,lv5,lv6,lv7,lv8,lv9,lv10⟩:=eng21.live
 have hwd:=eng21.drv.ok.1.words
 have hwp:=eng21.drv.words
 have hwt:=eng21.drv.tot
 refine c32 eng21 ⟨by omega,by omega⟩ fun a c H22 hB e22=>⟨_,_,_,_,rfl,hdrC h hp,rfl,(env.gx (w.ext e22).mod).1,?_⟩
 have hle:=hB.le
 have hrow:=hB.row
 obtain⟨q,rfl,hq,o⟩:=hB.own (by omega)
 exact c33 (env.gx (w.ext e22).mod).2.2.1 eng21.drv ⟨eng21.sem⟩ ⟨by omega,by omega,by omega,by omega,by omega,cnt.mono (by assumption),fun h2=>by rw[(sf1 h2).1,env.hLen h2]⟩ (fun h2=>(sf1 h2).2) sf2 hle hrow fun H23 be' b' eng23 di hbe _ e23=>⟨_,_,rfl,fun h'=>(h' rfl).elim,fun _=>⟨fun h'=>(h' rfl).elim,fun _=>⟨_,rfl,(fun h'=>by cases h'),fun _=>⟨be',b',ms,ka,kt,rfl,(w.ext e22).thaw env.hn eng23 di hbe e23,id⟩⟩⟩⟩
theorem c6_tell (env:Env6 N0 N1 NM NK N2 Hs h hp L p p1 asl m1 m2)(hns:slotsOf h=ns)(w:W6 N0 N1 NM NK N2 Hs H h bm am cm pk bt ns be b d tags ended ms ka kt)
  (hdl:d.l=L) (hc1:h.mode=1->d.plain=lo (repsOf L (slotsOf h).toNat) L (slotsOf h).toNat/\d.tapd=L/\d.losses=1/\d.sweeps=L+1) (hc2:h.mode=2->d.plain=(L:Int)+(modS (DD d.l tags) L:Int)) (k:∀H',GMod N0 N1 NM Hs H'->Q (.bool true) H') :
  ∃cs:List Value,cs.length=9/\RdL H p 0 cs/\∃n_10,rd H p1 3=some (.int .i64 n_10)/\Ru 42 [.pointer (some ⟨be,0,none⟩)] H fun r H'=>∃cs_4:List Value,cs_4.length=4/\r=.agg cs_4.toArray/\rd H' p1 3=some (.int .i64 n_10)/\RdL H' p 0 cs/\Ru 41 [.agg cs.toArray,.int .i64 (L:Int),.int .i64 n_10,.agg cs_4.toArray] H' fun r H'=>∃c,r=.bool c/\(c=true->∃n,rd H' p 8=some (.int .i64 n)/\Ru 30 [.pointer (some ⟨be,0,none⟩)] H' fun r H'=>∃a l c,r=.slice a l c/\rd H' p 8=some (.int .i64 n)/\((↑l:Int)=n->Ru 10 [] H' fun r H'=>∃c,r=.bool c/\Q (.bool c) H')/\(¬(↑l:Int)=n->Q (.bool false) H'))/\(c=false->Q (.bool false) H'):=by
 obtain⟨s,K,post,eng⟩:=w.eng
 obtain⟨lv1,lv2,lv3,lv4,_⟩:=eng.live
 obtain⟨sl0,sl1,sl2,sl3⟩:=slots_small env.ok
 have r3:∀{H'},Ext H H'->rd H' p1 3=some (.int .i64 (ns:Int)):=fun {H'} x=>by
  have h1:=rdL_get' (env.gx (w.ext x).mod).2.1 (show (i64s (planL h))[3]?=some (.int .i64 (slotsOf h)) from rfl)
  rwa [Nat.zero_add,hns] at h1
 have hnt:(slotsOf h).toNat=ns:=by omega
 rw[hnt] at hc1
 refine⟨hdrC h hp,rfl,(env.gx w.mod).1,_,r3 Mod.refl,c42 eng fun H1 x1=>⟨_,rfl,rfl,r3 x1,(env.gx (w.ext x1).mod).1,c41 L ns d env.hL65 (fun h3=>by have:=slots_pos env.ok h3;omega) (by omega) hc1 (fun h2=>?_) fun H2 x2=>⟨_,rfl,fun _=>?_,fun h'=>by cases h'⟩⟩⟩
 ·have:=hc2 h2
  unfold DD at this
  rw[(lv4 (by omega)).2.2,hnt,hdl,Int.toNat_natCast] at this
  exact this
 have x12:=x1.thenExt x2
 refine⟨_,env.rp (w.ext x12).mod 8 _ rfl,c30 (eng.ext x12) fun a c H3 _ x3=>⟨_,_,_,rfl,env.rp ((w.ext x12).ext x3).mod 8 _ rfl,fun _=>c10 fun H4 x4=>⟨_,rfl,k H4 ((((w.ext x12).ext x3).ext x4).mod)⟩,fun hne=>(hne eng.drv.tot).elim⟩⟩
end
end Go.VC
namespace Go.VC
open Go Go.Proofs
theorem c6 {H:Heap}{R:Value->Heap->Prop}(h:Hdr)(hp:HAt)(r:HRows H h hp)(x1:Int)(hx1:0<=x1/\x1<=65535)(x2:Int)(k:∀H',Ext H H'->R (.bool true) H'):Ru 6 [.agg (hdrC h hp).toArray,.int .u16 x1,.int .i64 x2] H R:=by
 refine v6 (hdrC h hp) x1 x2 fun H1 p n1=>⟨hdrC h hp,rfl,n1.rdL,?_⟩
 have e1:=n1.mod
 have hpl:=n1.lt
 have hpg:=n1.ge
 refine c8 h hp (r.ext e1) (fun ok H2 e2=>⟨i64s (planL h),rfl,_,rfl,fun H3 p1 n3=>⟨rfl,i64s_one,n3.own.w 0 4 rfl,fun H4 h4=>?_⟩⟩) (fun n H2 hn hno e2=>⟨i64s [0,0,0,0],rfl,_,rfl,fun H3 p1 n3=>⟨rfl,i64s_one,n3.own.w 0 4 rfl,fun H4 h4=>?_⟩⟩)
 rotate_left
 ·obtain⟨e4,o4⟩:=tmpE (cs:=i64s [0,0,0,0]) n3 rfl h4
  have e14:=e2.thenExt e4
  refine⟨_,rfl,e14.rdL (by simp) n1.rdL,g9 h hp (r.ext (e1.thenExt e14)) (fun hok _ _ _ _ _ _ _ _ _ _ _=>(hno hok).elim) fun n' H5 hn' _ e5=>⟨_,_,rfl,fun _=>⟨fun _=>⟨none,rfl,fun _=>c10 fun H6 e6=>⟨_,rfl,k H6 (((e1.thenExt e14).thenExt e5).thenExt e6)⟩,fun h'=>(h' rfl).elim⟩,fun h'=>(h' hn').elim⟩,fun h'=>(h' hn).elim⟩⟩
 obtain⟨e4,o4⟩:=tmpE (cs:=i64s (planL h)) n3 rfl h4
 clear h4
 have e14:=e2.thenExt e4
 have e04:=e1.thenExt e14
 have hp1g:=n3.ge
 have hp1l:p1<H4.size:=o4.lt (by simp[i64s,planL])
 have z14:=e14.1
 have z01:=e1.1
 have z12:=e2.1
 have rp4:RdL H4 p 0 (hdrC h hp):=e14.rdL (by simp) n1.rdL
 obtain⟨sl0,sl1,sl2,sl3⟩:=slots_small ok
 have okH:=ok.1
 have hmode:=okH.mode
 have hwd:=okH.words
 obtain⟨dm1,dm2,dm3,dm4,dm5⟩:=okH.dims
 refine⟨_,rfl,rp4,g9 h hp (r.ext e04) (fun _ H5 be0 b0 tg htg eng0 di0 hbe0 hbe1 e5 offA=>⟨_,_,rfl,fun h'=>(h' rfl).elim,fun _=>⟨hdrC h hp,rfl,e5.rdL (by simp) rp4,?_⟩⟩) fun n H' _ hno _=>(hno ok).elim⟩
 obtain⟨L,hL⟩:∃L:Nat,(if h.mode=2 then x1 else h.len)=(L:Int):=⟨(if h.mode=2 then x1 else h.len).toNat,by
  have hl:=okH.len
  unfold lenOk at hl
  split
  ·omega
  ·rw[if_neg (by assumption)] at hl;omega⟩
 have hL65:L<65536:=by
  have hl:=okH.len
  unfold lenOk at hl
  split at hL
  ·omega
  ·rw[if_neg (by assumption)] at hl;omega
 have hLen:h.mode≠2->h.len=L:=fun hm=>by rw[if_neg hm] at hL;exact hL
 refine c24 x1 hx1 fun H6 e6=>⟨_,rfl,?_⟩
 rw[hL]
 have rpE:∀{H':Heap},RdL H' p 0 (hdrC h hp)->∀i v,(hdrC h hp)[i]?=some v->rd H' p i=some v:=fun hr i v hv=>by have:=rdL_get' hr hv;rwa [Nat.zero_add] at this
 have rp6:=(e5.thenExt e6).rdL (S:=[]) (by simp) rp4
 refine⟨progC h.step hp.sa h.step.ops.length hp.sc,rfl,⟨rpE rp6 3 _ rfl,rpE rp6 4 _ rfl,trivial⟩,progC h.loss hp.la h.loss.ops.length hp.lc,rfl,⟨rpE rp6 5 _ rfl,rpE rp6 6 _ rfl,trivial⟩,_,_,_,rpE rp6 1 _ rfl,_,_,_,rpE rp6 2 _ rfl,?_⟩
 have e06:=e04.thenExt (e5.thenExt e6)
 refine c27 h hp (r.ext e06) okH fun bc H7 ch7 e7=>⟨_,_,rfl,?_⟩
 have rp7:=e7.rdL (S:=[]) (by simp) rp6
 have e07:=e06.thenExt e7
 refine⟨_,_,_,rpE rp7 1 _ rfl,c28 ch7 okH L hL65 (r.ext e07).x fun asl cs8 H8 st8 e8=>⟨_,_,_,_,rfl,?_⟩⟩
 have e48:Ext H4 H8:=(e5.thenExt e6).thenExt (e7.thenExt e8)
 have o48:=o4.mod e48 (by simp)
 refine⟨_,o48.rd 3 rfl,c29 L (slotsOf h) (by omega) (by omega) fun H9 bm am cm mach9 e9=>⟨_,_,rfl,fun H'=>Ext H9 H',?_,?_⟩⟩
 ·have x59:Ext H5 H9:=(e6.thenExt e7).thenExt (e8.thenExt e9)
  have rp9:=((e5.thenExt e6).thenExt (e7.thenExt (e8.thenExt e9))).rdL (S:=[]) (by simp) rp4
  refine⟨fun h'=>(h' rfl).elim,fun _=>⟨_,rfl,(fun h'=>by cases h'),fun _=>⟨fun h'=>(h' rfl).elim,fun _=>⟨fun h'=>(h' rfl).elim,fun _=>⟨fun h'=>(h' rfl).elim,fun _=>⟨_,rfl,(fun h'=>by cases h'),fun _=>⟨by unfold I64;omega,fun hne=>(hne (by push_cast;rfl)).elim,fun _=>⟨_,rpE rp9 8 _ rfl,c30 (eng0.ext x59) fun a c H10 _ e10=>⟨_,_,_,rfl,e10.rd (by simp) (rpE rp9 8 _ rfl),fun hne=>(hne eng0.drv.tot).elim,fun _=>e10⟩⟩⟩⟩⟩⟩⟩⟩⟩
 intro H10 e10
 have e410:Ext H4 H10:=e48.thenExt (e9.thenExt e10)
 refine⟨_,(o4.mod e410 (by simp)).rd 3 rfl,⟨by omega,by omega,by omega,by unfold I64;omega⟩,fun H11 bt n11 H12 pk n12=>?_⟩
 obtain⟨ns,hns⟩:∃ns:Nat,slotsOf h=ns:=⟨(slotsOf h).toNat,by omega⟩
 rw[hns,Int.toNat_natCast] at n11 n12
 rw[rep_i64] at n11
 rw[hns,Int.toNat_natCast] at mach9
 have e1012:=n11.mod.new n12
 have e412:=e410.thenExt e1012
 have e512:Ext H5 H12:=(e6.thenExt e7).thenExt ((e8.thenExt (e9.thenExt e10)).thenExt e1012)
 have zz5:=e5.1;have zz56:=e6.1;have zz67:=e7.1;have zz78:=e8.1;have zz89:=e9.1;have zz910:=e10.1;have zz1011:=n11.mod.1;have zz1112:=n12.mod.1
 have hbt:=n11.ge;have hbtl:=n11.lt;have hpk:=n12.ge;have hpkl:=n12.lt
 have ht0:h.mode≠3->tg=tags0 h:=htg
 have ht0':tags0 h=List.replicate ns (-1):=by unfold tags0;rw[hns,Int.toNat_natCast]
 have w0:W6 H4.size H5.size H8.size H10.size H12.size H12 H12 h bm am cm pk bt ns be0 b0 (d0 h (fixedOf h)) tg false ⟨0,-1,L,0,List.replicate ns (-1)⟩ 0 (List.replicate ns (-1)):=by
  refine⟨⟨by omega,by omega,by omega,by omega⟩,⟨_,_,_,eng0.ext e512⟩,?_,fun S hS=>⟨offA S fun x hx=>(hS x hx).1,fun hb=>by have:=(hS _ hb).1;omega⟩,fun _=>(mach9.ext (e10.thenExt e1012)),fun x hx=>⟨mach9.ge hx,by have:=mach9.lt hx;omega⟩,fun _=>⟨⟨List.replicate ns 0,?_,?_,by simp,fun i hi h0=>?_⟩,by omega⟩,fun _=>?_,⟨by omega,by omega,by omega,by omega⟩,GMod.refl⟩
  ·intro x hx
   simp only[List.mem_cons,List.not_mem_nil,or_false] at hx
   have h1:=eng0.drv.top.lt (by unfold drvC;simp[i64s,planL])
   have h2:=eng0.drv.met.lt (by simp[meterC])
   have h3:=eng0.drv.ar.row.lt (u64s_ne eng0.drv.words)
   have:=di0.d;have:=di0.m;have:=di0.w
   left;omega
  ·have:heldN (List.replicate ns (-1:Int))=0:=by simp[heldN,List.countP_replicate]
   rw[this,List.length_replicate];exact n12.own
  ·exact n11.own.mod n12.mod (by simp)
  ·have:gt (List.replicate ns (-1:Int)) i = -1:=by have:=gt_mem hi;simp at this;exact this.2
   omega
  ·exact n12.own
 have env:Env6 H4.size H5.size H8.size H10.size H12.size H12 h hp L p p1 asl H7.size H8.size:=by
  refine⟨ok,hL65,hLen,Nat.le_refl _,fun {H'} g=>?_⟩
  exact⟨g.rdL (.inl (by omega)) (e412.rdL (by simp) rp4) ⟨by omega,by omega⟩,g.rdL (.inl (by omega)) (e412.rdL (by simp) o4.1) ⟨by omega,by omega⟩,r.ext (g.extOf (e04.thenExt e412) ⟨by have:=e04.1;omega,by omega⟩),g.states (st8.mod (e9.thenExt (e10.thenExt e1012)) (by simp)) ⟨by omega,by omega⟩⟩
 have gk:∀H',GMod H4.size H5.size H8.size H12 H'->R (.bool true) H':=fun H' g=>k H' (g.extOf (e04.thenExt e412) ⟨by have:=e04.1;omega,by omega⟩)
 have hext:∀{H'},GMod H4.size H5.size H8.size H12 H'->Ext H H':=fun g=>g.extOf (e04.thenExt e412) ⟨by have:=e04.1;omega,by omega⟩
 clear e04 e412 e1012 e512 e410 e48 e07 e06 e1 e2 e4 e5 e6 e7 e8 e9 e10 n11 n12 o4 rp4 rp6 rp7 n1 n3
 clear zz5 zz56 zz67 zz78 zz89 zz910 zz1011 zz1112 hbt hbtl hpk hpkl z14 z01 z12 hp1g hp1l hpl hpg
 generalize H4.size=N0 at *
 generalize H5.size=N1 at *
 generalize H8.size=NM at *
 generalize H10.size=NK at *
 generalize H12.size=N2 at *
 generalize H7.size=M1 at *
 let W:=W6 N0 N1 NM NK N2 H12
 let J:Nat->Value->Int->Int->Heap->Prop:=fun N v fed n H'=>∃be b d tags ended ms ka kt,v=.pointer (some ⟨be,0,none⟩)/\W H' h bm am cm pk bt ns be b d tags ended ms ka kt/\Rel6 h L d tags ms ka kt/\St h L fed d tags ended/\N=(stM h L d tags ended).toNat/\0<=n/\n+stM h L d tags ended<=274877906944/\DCnt d (65536*n)
 let Fin:Value->Heap->Prop:=fun v H'=>∃be b d tags ended ms ka kt fed,v=.pointer (some ⟨be,0,none⟩)/\W H' h bm am cm pk bt ns be b d tags ended ms ka kt/\Rel6 h L d tags ms ka kt/\St h L fed d tags ended/\gnext h d tags ended=none/\d.pend=0
 have first:J (stM h L (d0 h (fixedOf h)) tg false).toNat (.pointer (some ⟨be0,0,none⟩)) 0 0 H12:=by
  have hst:=st_first (L:=L) ok hLen ht0
  have:=stM_bound hL65 hst
  exact⟨be0,b0,d0 h (fixedOf h),tg,false,_,_,_,rfl,w0,fun h3=>⟨by rw[ht0 h3,ht0'];rfl,rfl,by rw[ht0 h3,ht0']⟩,hst,rfl,Int.le_refl _,by omega,d0_cnt _ _⟩
 refine⟨Fin,⟨fun v fed n H'=>∃N,J N v fed n H',fun v fed n H'=>least fun N=>J N v fed n H',⟨_,first⟩,?_⟩,?_⟩
 ·clear first w0 gk
  rintro H20 v fed n ⟨N,hJ⟩
  obtain⟨be,b,d,tags,ended,ms,ka,kt,rfl,w,rel,stt,hN,n0,nle,cnt⟩:=least_spec (p:=fun N=>J N v fed n H20) hJ
  clear hJ N
  have hM:=(stM_bound hL65 stt).1
  obtain⟨s,K,post,eng⟩:=w.eng
  refine g31 eng fun H21 x21=>⟨_,rfl,fun hc=>?_,fun hc=>?_⟩
  rotate_left
  ·have hc':gnext h d tags ended=none/\d.pend=0:=by
    cases hh:gnext h d tags ended with
    | none=>rw[hh] at hc;simpa using hc
    | some q=>rw[hh] at hc;simp at hc
   exact⟨be,b,d,tags,ended,ms,ka,kt,fed,rfl,w.ext x21,rel,stt,hc'.1,hc'.2⟩
  have hnd:Maybe h d tags ended:=fun hh=>by
   rcases st_none ok hLen stt hh with ⟨h1,h2,_⟩|⟨_,h2,_⟩
   ·exact⟨h1,h2⟩
   ·rw[hh,h2] at hc;simp at hc
  clear eng hc
  have w21:=w.ext x21
  refine⟨fun v' H'=>∃be b ms ka kt,v'=.pointer (some ⟨be,0,none⟩)/\W H' h bm am cm pk bt ns be b d tags ended ms ka kt/\Rel6 h L d tags ms ka kt,⟨fun _=>Runs.mono (c6_thaw (Q:=R) env w21 stt cnt (by omega)) ?_,fun _=>⟨be,b,ms,ka,kt,rfl,w21,rel⟩⟩,?_⟩
  ·rintro rr H22 ⟨a,l,c,e,hr,cs,hcs,hrd,hru⟩
   refine⟨a,l,c,e,hr,cs,hcs,hrd,Runs.mono hru ?_⟩
   rintro rr H23 ⟨v,e2,hr2,f1,f2⟩
   refine⟨v,e2,hr2,f1,fun q1=>⟨(f2 q1).1,fun q2=>?_⟩⟩
   obtain⟨a2,hv,f3,f4⟩:=(f2 q1).2 q2
   refine⟨a2,hv,f3,fun q3=>?_⟩
   obtain⟨be',b',ms',ka',kt',hv',w',hrel⟩:=f4 q3
   exact⟨be',b',ms',ka',kt',hv',w',hrel rel⟩
  rintro H24 v3 ⟨be2,b2,ms2,ka2,kt2,rfl,w2,rel2⟩
  refine⟨In6 N0 N1 NM NK N2 H12 h bm am cm pk bt ns be2 b2 L (GoOn h) (stM h L d tags ended) (65536*n),⟨In6 N0 N1 NM NK N2 H12 h bm am cm pk bt ns be2 b2 L (Maybe h) (stM h L d tags ended) (65536*n),fun fed' _=>(L+2-fed').toNat,⟨d,tags,ended,ms2,ka2,kt2,w2,rel2,stt,Int.le_refl _,cnt,hnd⟩,fun H25 fed' hI=>c6_feed env hI⟩,?_⟩
  rintro H28 fed' ⟨d1,tags1,ended1,ms1,ka1,kt1,w1,rel1,st1,le1,cnt1,kk,nn,hsome⟩
  refine c6_step env w1 rel1 st1 cnt1 (by omega) hsome fun d2 tags2 ms3 ka3 kt3 H41 w3 rel3 st3 hlt cnt3=>?_
  have hM2:=(stM_bound hL65 st3).1
  have hJ':J (stM h L d2 tags2 ended1).toNat (.pointer (some ⟨be2,0,none⟩)) fed' (n+1) H41:=⟨be2,b2,d2,tags2,ended1,ms3,ka3,kt3,rfl,w3,rel3,st3,rfl,by omega,by omega,cnt3.mono (by omega)⟩
  refine⟨by unfold I64;omega,⟨_,hJ'⟩,?_⟩
  exact Nat.lt_of_lt_of_eq (least_lt (p:=fun N=>J N (.pointer (some ⟨be2,0,none⟩)) fed' (n+1) H41) hJ' (show (stM h L d2 tags2 ended1).toNat<(stM h L d tags ended).toNat by omega)) hN.symm
 ·clear first w0
  rintro H20 v ⟨be,b,d,tags,ended,ms,ka,kt,fed,rfl,w,rel,stt,hnone,hpend⟩
  obtain⟨s,K,post,eng⟩:=w.eng
  rcases st_none ok hLen stt hnone with ⟨_,_,ahd,_⟩|⟨hend,_,hdl,hc1,hc2⟩
  ·have:=ahd.pd;omega
  obtain⟨g1,g2,g3⟩:=EDone.grad (l:=L) ⟨eng,hpend,hnone,hdl,hend⟩
  have hg:∀{H':Heap},Ext H20 H'->GMod N0 N1 NM H12 H':=fun x=>(w.ext x).mod
  refine g18 eng hpend fun H21 a1 c1 a2 c2 bx bt' e21=>⟨_,rfl,_,rfl,fun H22 t1 n22=>⟨rfl,agg3_one,n22.own.w 0 3 rfl,fun H23 h23=>?_⟩⟩
  obtain⟨x23,o23⟩:=tmpE (cs:=[.int .u64 (d.loss.toNat:Int),.slice a1 (nX h) c1,.slice a2 (nT h) c2]) n22 rfl h23
  clear h23
  have e23:=e21.thenExt x23
  rw[g1] at bx
  rw[g2] at bt'
  rw[g3] at o23
  have rp23:=fun i v hv=>env.rp (hg e23) i v hv
  refine⟨progC h.step hp.sa h.step.ops.length hp.sc,rfl,⟨rp23 3 _ rfl,rp23 4 _ rfl,trivial⟩,progC h.loss hp.la h.loss.ops.length hp.lc,rfl,⟨rp23 5 _ rfl,rp23 6 _ rfl,trivial⟩,_,_,_,rp23 1 _ rfl,_,_,_,rp23 2 _ rfl,c19 h hp (env.gx (hg e23)).2.2.1 okH.dims okH.step okH.loss L hL65 hp.sc hp.lc hp.xc hp.tc fun H24 a3 c3 a4 c4 rx rt e24=>⟨_,rfl,_,rfl,fun H25 t2 n25=>⟨rfl,agg3_one,n25.own.w 0 3 rfl,fun H26 h26=>⟨fun _=>⟨fun _=>?_,fun h'=>(h' rfl).elim⟩,fun h'=>(h' rfl).elim⟩⟩⟩⟩
  obtain⟨x26,o26⟩:=tmpE (cs:=[.int .u64 ((lossOf h L).toNat:Int),.slice a3 (nX h) c3,.slice a4 (nT h) c4]) n25 rfl h26
  clear h26
  have e2326:=e24.thenExt x26
  have e26:=e23.thenExt e2326
  refine⟨_,rfl,(o23.mod e2326 (by simp)).1,_,rfl,o26.1,c20 (Ext.row (x23.thenExt e2326) bx.row) (Ext.row (x23.thenExt e2326) bt'.row) (Ext.row x26 rx) (Ext.row x26 rt) (by simp only[nX];omega) (by simp only[nT];omega) fun H27 e27=>⟨_,rfl,fun _=>?_,fun h'=>by cases h'⟩⟩
  have e27':=e26.thenExt e27
  have w27:=w.ext e27'
  refine⟨_,env.rp w27.mod 0 _ rfl,fun hm3=>c6_tell env hns w27 hdl hc1 hc2 gk,fun hm3=>c40 (w27.mach hm3) ⟨_,rfl,fun _=>c6_tell env hns w27 hdl hc1 hc2 gk,fun h'=>?_⟩⟩
  rw[(rel hm3).1] at h'
  simp[hpend] at h'
end Go.VC
namespace Go.Proofs.YthenlgnbegeliaaGreat
open Go Go.VC Go.ChangeShapes Go.WideShapes Go.ChangeAt Go.RowKit Go.WideElems
set_option linter.unusedVariables false
theorem typs6:∀t∈[27,28,3],Tryz.prog.readableRec t=true/\t<Tryz.prog.types.size:=by
 intro t ht
 simp only[List.mem_cons,List.not_mem_nil,or_false] at ht
 rcases ht with rfl|rfl|rfl
 ·exact⟨by kernel_rfl,of_decide_eq_true (by kernel_rfl)⟩
 ·exact⟨by kernel_rfl,of_decide_eq_true (by kernel_rfl)⟩
 ·exact⟨by kernel_rfl,of_decide_eq_true (by kernel_rfl)⟩
set_option maxRecDepth 100000 in
theorem lifted6 (os:Os)(started:os.Started)(H:Type)(enc:TypeId × Value->H) :
  ReturnsInHanded {} Tryz.checked os 6 .any (Rows.topEnginesSpec.pre6 enc Tryz.prog Tryz.f6 Rows.topEnginesRow.domain false) (Rows.topEnginesSpec.post enc Tryz.prog Tryz.f6 false true false false):=by
 refine lift_gen started Tryz.func6 (by kernel_rfl)
  (ChangeSpec.witness6 (enc:=enc) (C:=Tryz.checked) false ⟨#[],#[.agg #[.int .i64 0,.slice none 0 0,.slice none 0 0,.int .i64 0,.slice none 0 0,.int .i64 0,.slice none 0 0,.int .i64 0,.int .i64 0],.int .u16 0,.int .i64 0],[]⟩ 8 (by kernel_rfl) (by kernel_rfl) (by kernel_rfl) (by kernel_rfl))
  rfl (by kernel_rfl) (by rw[Tryz.params6];exact typs6) (fun ds hl=>?_) ?_
 ·rw[Tryz.params6] at hl
  match ds,hl with
  | [d1,d2,d3],_=>rfl
 intro W base args ds before hA hval hwt
 rw[Tryz.params6] at hA hwt
 obtain⟨v0,vs0,d0,ds0,p0,q0,hargs,rfl,rfl,h0,r0⟩:=trodAll_cons hA
 obtain⟨v1,vs1,d1,ds1,p1,q1,rfl,rfl,rfl,h1,r1⟩:=trodAll_cons r0
 obtain⟨v2,vs2,d2,ds2,p2,q2,rfl,rfl,rfl,h2,r2⟩:=trodAll_cons r1
 obtain⟨rfl,rfl,rfl⟩:=trodAll_nil r2
 obtain rfl:args=#[v0,v1,v2]:=by cases args;simp_all
 obtain⟨hd,hp,rfl,hrows⟩:=open_hdr (fun t ht=>hval 0 t v0 (by rw[Tryz.params6,ht];rfl) rfl) h0
 obtain⟨n1,rfl,hd1,hp1,w1⟩:=open_int Tryz.underlying28 (hval 1 28 v1 (by rw[Tryz.params6];rfl) rfl) h1
 obtain⟨n2,rfl,hd2,hp2,w2⟩:=open_int Tryz.underlying3 (hval 2 3 v2 (by rw[Tryz.params6];rfl) rfl) h2
 simp only[DataW.weightsEach,List.all_append,Bool.and_eq_true] at hwt
 exact c6 (R:=fun r H'=>r=.bool true/\Ext W.heap H') hd hp (hrows hwt.1) n1 (by simpa [Lit.wf,IntKind.min,IntKind.max,IntKind.signed,IntKind.bits] using w1) n2 fun H' e=>⟨rfl,e⟩
end Go.Proofs.YthenlgnbegeliaaGreat
namespace Go.Proofs.YthenlgnbegeliaaGreat
open Go
theorem name6:Tryz.pinned.checked.prog.funcNamed Rows.topEnginesRow.func=some 6:=by kernel_rfl
theorem ft1_6:Rows.topEnginesRow.wf (OpenSpec.ofChange Rows.topEnginesSpec)=true:=by kernel_rfl
theorem ft2_6:laidOutB Tryz.prog=true:=by kernel_rfl
theorem ft3_6:mapsRowed Tryz.prog=true:=by kernel_rfl
theorem ft4_6:Tryz.f6.params.all (Tryz.prog.readableRec ·)=true:=by kernel_rfl
theorem ft5_6:namedTie Tryz.prog Rows.topEnginesRow.named Rows.topEnginesSpec.vars=true:=by kernel_rfl
theorem ft6_6:(Tryz.prog.stops == [])=true:=by kernel_rfl
theorem ft7_6:(Tryz.prog.stopKnobs == [])=true:=by kernel_rfl
theorem ft12_6:Tryz.prog.stopsHeard=true:=by kernel_rfl
theorem ft13_6:Tryz.prog.mayEnter=true:=by kernel_rfl
theorem ft14_6:(Rows.topEnginesRow.plainKeys == Tryz.prog.plainKeys)=true:=by kernel_rfl
theorem ft15_6:(Rows.topEnginesRow.lifted == Tryz.prog.liftsFinal)=true:=by kernel_rfl
theorem ft16_6:(Tryz.prog.make == some Rows.topEnginesRow.make)=true:=by kernel_rfl
end Go.Proofs.YthenlgnbegeliaaGreat
namespace Go.Proofs.YthenlgnbegeliaaGreat
open Go
theorem unf6:Tryz.prog.unfollowed 6=true:=by kernel_rfl
theorem ft8_6:(Rows.topEnginesRow.inPlace == Tryz.prog.inPlace 6)=true:=by kernel_rfl
theorem ft9_6:(Rows.topEnginesRow.unfollowed == Tryz.prog.unfollowed 6)=true:=by rw[unf6];rfl
theorem ft10_6:(Rows.topEnginesRow.recurses == Tryz.prog.recurses 6)=true:=by
 have h:Tryz.prog.recurses 6=true:=by unfold Program.recurses;rw[unf6,Bool.true_or]
 rw[h];rfl
theorem ft11_6:(Rows.topEnginesRow.named == Tryz.prog.varsNamed 6)=true:=by kernel_rfl
end Go.Proofs.YthenlgnbegeliaaGreat
namespace Go.Proofs.YthenlgnbegeliaaGreat
open Go
theorem facts6:joinedFacts Tryz.prog 6 Tryz.f6 Rows.topEnginesSpec Rows.topEnginesRow=true:=by
 simp only[joinedFacts,Bool.and_eq_true]
 exact⟨⟨⟨⟨⟨⟨⟨⟨⟨⟨⟨⟨⟨⟨⟨⟨⟨⟨⟨⟨⟨⟨⟨⟨⟨⟨⟨⟨⟨⟨⟨ft1_6,ft2_6⟩,ft3_6⟩,ft4_6⟩,ft5_6⟩,rfl⟩,ft6_6⟩,rfl⟩,ft7_6⟩,ft8_6⟩,ft9_6⟩,ft10_6⟩,ft11_6⟩,(by kernel_rfl)⟩,(by kernel_rfl)⟩,(by kernel_rfl)⟩,(by kernel_rfl)⟩,(by kernel_rfl)⟩,(by kernel_rfl)⟩,(by kernel_rfl)⟩,(by kernel_rfl)⟩,(by kernel_rfl)⟩,ft14_6⟩,rfl⟩,ft12_6⟩,ft13_6⟩,ft15_6⟩,ft16_6⟩,(by kernel_rfl)⟩,(by kernel_rfl)⟩,(by kernel_rfl)⟩,(by kernel_rfl)⟩
theorem inst6:decide (Tryz.f6.isInstance Tryz.prog Rows.topEnginesRow.origin Rows.topEnginesRow.targs)=true:=by kernel_rfl
theorem wrap6:Tryz.f6.isWrapper Tryz.prog Rows.topEnginesRow.wrapper Rows.topEnginesRow.mainSum:=by
 unfold Func.isWrapper;first|(rw[if_pos (by decide +kernel)];kernel_rfl)|(rw[if_neg (by decide +kernel)];exact⟨rfl,rfl⟩)
theorem over6:Rows.topEnginesRow.holds Tryz.pinned (OpenSpec.ofChange Rows.topEnginesSpec):=
 OpenClaim.holds_of_wide 6 Tryz.f6 rfl rfl rfl rfl rfl rfl rfl ⟨rfl,rfl,rfl,rfl,rfl⟩ rfl rfl rfl rfl rfl name6 Tryz.func6 facts6
  (of_decide_eq_true inst6) wrap6
  (fun os started H enc _=>lifted6 os started H enc)
theorem topEngines:Rows.TopEnginesSaid:=over6
end Go.Proofs.YthenlgnbegeliaaGreat
