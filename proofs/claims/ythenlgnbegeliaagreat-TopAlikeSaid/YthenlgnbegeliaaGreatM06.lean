/- TOPALIKE returns true, whatever came in, and what came in reads as it did. No condition. -/
import Derived.OpenShut
import Derived.ProofKit
import Derived.Test.YthenlgnbegeliaaGreatRows
import Derived.WalkKit
import Derived.Test.YthenlgnbegeliaaGreatM05
namespace Go.VC
open Go Go.Proofs Go.RowKit
theorem b3_one {a b:Option Addr}{l c l' c':Nat}{x:Int}:∀v∈[Value.slice a l c,.slice b l' c',.int .i64 x],One v:=by
 intro v hv;simp at hv;rcases hv with rfl|rfl|rfl<;>trivial
set_option maxRecDepth 100000 in
theorem tail200 {R:Value->Heap->Prop}{p4 p8 p10 q8 q10 n m D:Nat}{w f:List Bool}{cnt:Int}{z:List Value}{H:Heap}(h8:Own H p8 [.slice (some ⟨q8,0,none⟩) n n])(hw:Own H q8 (bls w))(hwl:w.length=n)(hn:n<=64)
  (h10:Own H p10 [.slice (some ⟨q10,0,none⟩) m m,.slice none 0 0,.int .i64 cnt]) (hf:Own H q10 (bls f)) (h4:Own H p4 z) (hz:z.length=3) (d1:p10≠q8) (d3:p4≠p10) (d4:p4≠q10) (d5:p10≠q10) (d6:D≠p4) (d7:D≠q10)
  (k:∀fa fl fc H',Own H' q10 (bls f)->Mod [p10,p4,D] H H'->R (.tuple #[.agg [.slice (some ⟨q10,0,none⟩) m m,.slice fa fl fc,.int .i64 cnt].toArray,.int .i64 0]) H') :
  S200 Tryz.prog [(4,.ptr p4 0),(8,.ptr p8 0),(10,.ptr p10 0)] H (fun H'=>Mod [p10,p4] H H') (fun H1 H2=>Mod [D] H1 H2) R:=by
 have hp10:p10<H.size:=h10.lt (by simp)
 refine s200 _ _ _ _ _ _ _ ⟨_,_,_,h8.rd 0 rfl,fun i H'=>∃j:Nat,i=j/\j<=n/\∃fa fl fc ys,Own H' p10 [.slice (some ⟨q10,0,none⟩) m m,.slice fa fl fc,.int .i64 cnt]/\Buf 1 H' H.size fa fl fc (i64s ys)/\fl<=j/\Mod [p10] H H',fun i _=>((n:Int)-i).toNat,⟨0,rfl,by omega,none,0,0,[],h10,Buf.nil,Nat.le_refl _,Mod.refl⟩,?_⟩
 rintro H1 _ ⟨j,rfl,hj,fa,fl,fc,ys,o1,hB,hfl,m1⟩
 have hz1:=m1.1
 refine⟨fun hlt=>?_,fun hge=>?_⟩
 ·have w1:=hw.mod m1 (by simpa using fun e=>d1 e.symm)
  refine⟨q8,0,rfl,⟨by omega,hlt⟩,w.getD j false,?_,fun hc=>⟨_,_,_,o1.rd 1 rfl,fun H2 q n2=>⟨[.int .i64 (j:Int)],rfl,.inr ⟨q,0,rfl,n2.rdL⟩,?_⟩⟩,fun hc=>⟨by unfold I64;omega,⟨j+1,by push_cast;rfl,by omega,fa,fl,fc,ys,o1,hB,by omega,m1⟩,by dsimp only;omega⟩⟩
  ·rw[Nat.zero_add,Int.toNat_natCast,List.getD_eq_getElem?_getD,List.getElem?_eq_getElem (by omega)]
   exact w1.rd _ (bls_get (by omega))
  ·have hz2:=n2.mod.1
   refine (hB.ext n2.mod).app (by omega) rfl rfl (by intro v hv;simp at hv;subst hv;trivial) (by omega) (by omega) fun a' c' H3 S b3 m3 hS=>?_
   have hS':p10∉S:=fun h=>by have:=hS _ h;omega
   have o3:=(o1.mod n2.mod (by simp)).mod m3 hS'
   refine⟨o3.w 1 1 rfl,fun H4 h4'=>⟨by unfold I64;omega,⟨j+1,by push_cast;rfl,by omega,a',fl+1,c',ys++[(j:Int)],?_,?_,by omega,?_⟩,by dsimp only;omega⟩⟩
   ·rw[h4'];exact o3.wr 1 _
   ·have e:i64s (ys++[(j:Int)])=i64s ys++[.int .i64 (j:Int)]:=by simp[i64s]
    rw[e];exact b3.mod (wrM h4') (by simpa using hp10)
   ·exact ((m1.thenExt n2.mod).trans_new m3 fun x hx=>.inr (hS x hx)).trans (wrM h4')
 ·have o4:=h4.mod m1 (by simpa using d3)
  refine⟨_,rfl,o1.1,rfl,b3_one,by have:=o4.2;rw[hz] at this;exact this,fun H2 h2=>?_⟩
  have o4':Own H2 p4 [.slice (some ⟨q10,0,none⟩) m m,.slice fa fl fc,.int .i64 cnt]:=by rw[h2];exact o4.swrL (by rw[hz];rfl)
  have m2:Mod [p10,p4] H H2:=(m1.mono (by simp)).trans ((wrLM h2).mono (by simp))
  refine⟨m2,fun H3 m3=>⟨_,rfl,(o4'.mod m3 (by simpa using fun e=>d6 e.symm)).1,k _ _ _ _ ?_ ((m2.mono (by simp)).trans (m3.mono (by simp)))⟩⟩
  exact (hf.mod m2 (by simp;exact⟨fun e=>d5 e.symm,fun e=>d4 e.symm⟩)).mod m3 (by simpa using fun e=>d7 e.symm)
noncomputable def C200:Code:=match nthC (flatC (bodyC Tryz.f200)) 1 with | .scope c=>c|c=>c
theorem shape200:flatC (bodyC Tryz.f200)=[nthC (flatC (bodyC Tryz.f200)) 0,.scope C200]:=by kernel_rfl
theorem shapeC200:flatC C200=[F200 0,F200 1,F200 2,F200 3,F200 4,F200 5,F200 6,F200 7,F200 8,F200 9,F200 10,.block 0 RF200,F200 12,F200 13,F200 14,F200 15]:=by kernel_rfl
theorem shapeR200:RF200=.rangeFunc (.tmp 44) #[45,46] (assignOfC RF200) (roundOfC RF200):=by kernel_rfl
theorem two_args (a:Array Value)(x y:Value):(#[45,46].zip #[x,y]).foldl (fun (t:Array Value) (x:Nat × Value)=>match x with|(p,v)=>t.setIfInBounds p v) a=(a.setIfInBounds 45 x).setIfInBounds 46 y:=by simp
set_option maxRecDepth 100000 in
set_option maxHeartbeats 1000000 in
theorem c200 {H:Heap}{R:Value->Heap->Prop}{p:Prog}{a:Option Addr}{c:Nat}(h:RowO H a p.ops.length p.ops){t:Tree}(g:GoodP p t){ao:Option Addr}{lo co:Nat}{outs:List Int}(hx:RowI H ao lo outs)(ho:∀x∈outs,0<=x/\x<p.regs)(hlo:lo<=1099511627776)
  (k:∀an cn fa fl fc cnt H',Row 1 H' an p.ops.length (bls (needL t p.regs.toNat outs))->Ext H H'->R (.tuple #[.agg [.slice an p.ops.length cn,.slice fa fl fc,.int .i64 cnt].toArray,.int .i64 0]) H'):Ru 200 [.agg (progC p a p.ops.length c).toArray,.slice ao lo co] H R:=by
 refine runs_marks (fn:=Tryz.f200) (c:=bodyC Tryz.f200) Tryz.func200 (by kernel_rfl) fun w hw=>?_
 subst hw
 have few:=g.form.1
 obtain⟨hr1,hr2,_⟩:=id g.regs
 have hrn:((p.regs.toNat:Nat):Int)=p.regs:=by omega
 have hWlen:(t.unrollT 0).length=t.size:=by have:=plcs_length t 0;simpa [plcs] using this
 refine wpIn_flat ?_
 rw[shape200]
 let s0:List Bool × List Bool:=(markL (List.replicate p.regs.toNat false) outs,List.replicate p.ops.length false)
 have hf:P200 Tryz.prog (entry 0 [.agg (progC p a p.ops.length c),.slc ao lo co]) w.heap R (fun p2 o2 p4 o4 p8 o8 p9 o9 p10 o10 v H'=>o2=0/\o4=0/\o8=0/\o9=0/\o10=0/\∃q8 q10 Bs ap cp,v=.func (.func 328) #[] #[.pointer (some ⟨Bs,0,none⟩)]/\
   Lk p a c p2 p8 p9 p10 q8 q10 s0 0 H'/\ApartL a p.ops.length p2 p8 p9 p10 q8 q10/\Own H' p4 [.slice none 0 0,.slice none 0 0,.int .i64 0]/\rd H' Bs 0=some (.slice ap (plcs (t.unrollT 0)).length cp)/\RowI H' ap (plcs (t.unrollT 0)).length (plcs (t.unrollT 0))/\
   Ext w.heap H'/\(∀x∈p4 ::six p2 p8 p9 p10 q8 q10,w.heap.size<=x/\x<Bs/\x∉blkL ap (plcs (t.unrollT 0)).length)/\p4∉six p2 p8 p9 p10 q8 q10/\w.heap.size<=Bs/\(∀x∈blkL ap (plcs (t.unrollT 0)).length,w.heap.size<=x)):=by
  refine p200 _ _ _ _ _ _ _ fun H1 p2 n1 H2 p4 n2=>⟨_,rfl,n2.mod.rdL (by simp) n1.rdL,c156 (Ext.row (n1.mod.new n2) h) (by omega) g fun _ _ H3 _ e3=>⟨_,_,_,_,rfl,fun h'=>(h' rfl).elim,fun _=>?_⟩⟩
  have e13:=n2.mod.thenExt e3
  have r2:=e13.rd (by simp) (n1.rd 0)
  refine⟨_,r2,⟨by omega,by omega,by omega,by unfold I64;omega⟩,fun H4 q8 n4 H5 p8 n5=>⟨n5.own.w 0 1 rfl,fun H6 h6=>?_⟩⟩
  rw[rep_bool] at n4
  have o6:=n5.own.wr 0 (.slice (some ⟨q8,0,none⟩) p.regs.toNat p.regs.toNat)
  rw[<-h6] at o6
  have m6:Mod [p8] H5 H6:=wrM h6
  intro H7 p9 n7
  refine⟨n7.own.w 0 1 rfl,fun H8 h8=>?_⟩
  have o8:=n7.own.wr 0 (.func (.func 255) #[] #[.pointer (some ⟨p8,0,none⟩)])
  rw[<-h8] at o8
  have m8:Mod [p9] H7 H8:=wrM h8
  clear h6 h8
  have g1:=n1.ge;have l1:=n1.lt;have g2:=n2.ge;have l2:=n2.lt;have g4:=n4.ge;have l4:=n4.lt;have g5:=n5.ge;have l5:=n5.lt;have g7:=n7.ge;have l7:=n7.lt
  have z3:=e3.1;have z6:=m6.1;have z8:=m8.1;have z2:=n2.mod.1;have z1:=n1.mod.1
  have z4:=n4.mod.1;have z5:=n5.mod.1;have z7:=n7.mod.1
  have e68:Ext H6 H8:=n7.mod.trans_new m8 (by simpa using g7)
  have e48:Ext H4 H8:=(n5.mod.trans_new m6 (by simpa using g5)).thenExt e68
  have e38:=n4.mod.thenExt e48
  have e18:=e13.thenExt e38
  have e08:=n1.mod.thenExt e18
  refine c187 (Ext.row e08 hx) (by omega) 256 #[] #[.pointer (some ⟨p2,0,none⟩)] (by kernel_rfl) (fun x=>decide (x<0\/p.regs<=x)) (fun H' o K e hmem hK=>c256 (e.rd (by simp) (e18.rd (by simp) (n1.rd 0))) (hK H' Mod.refl)) fun H9 e9=>⟨_,rfl,fun hc=>?_,fun _=>?_⟩
  ·exfalso
   rw[List.any_eq_true] at hc
   obtain⟨x,hxm,hxd⟩:=hc
   have:=ho x hxm
   simp at hxd;omega
  have z9:=e9.1
  have o9:=o8.mod e9 (by simp)
  have p8o:=o6.mod (e68.thenExt e9) (by simp)
  have w9:Own H9 q8 (bls (List.replicate p.regs.toNat false)):=n4.own.mod (e48.thenExt e9) (by simp)
  refine⟨_,o9.rd 0 rfl,255,#[],#[.pointer (some ⟨p8,0,none⟩)],rfl,by kernel_rfl,?_⟩
  refine c255 (p:=p8) (bw:=q8) (n:=p.regs.toNat) (w:=List.replicate p.regs.toNat false) (p8o.rd 0 rfl) (by omega) w9 (by simp) (Ext.row (e08.thenExt e9) hx) (fun h0=>(hx.fresh (by omega) h0 (S:=[q8]) (by simp;omega))) hlo (fun x hxm=>by have:=ho x hxm;omega) fun H10 w10 m10=>?_
  have z10:=m10.1
  have e1x:∀{b o:Nat} {v:Value},b≠q8->rd H9 b o=some v->rd H10 b o=some v:=fun hb hv=>m10.rd (by simpa using hb) hv
  have e010:Ext w.heap H10:=(e08.thenExt e9).trans_new m10 (by simp;omega)
  have e110:Ext H1 H10:=(e18.thenExt e9).trans_new m10 (by simp;omega)
  have r10:=e110.rd (by simp) (n1.rd 1)
  refine⟨_,_,_,r10,⟨by omega,by omega,by omega,by unfold I64;omega⟩,fun H11 q10 n11 H12 p10 n12=>⟨rfl,b3_one,n12.own.w 0 3 rfl,fun H13 h13=>?_⟩⟩
  rw[Int.toNat_natCast] at h13 n11
  rw[rep_bool] at n11
  obtain⟨e13',o13⟩:=tmpE (cs:=[.slice (some ⟨q10,0,none⟩) p.ops.length p.ops.length,.slice none 0 0,.int .i64 0]) n12 rfl h13
  clear h13
  have g11:=n11.ge;have l11:=n11.lt;have g12:=n12.ge;have z11:=n11.mod.1;have z13:=e13'.1
  have l13:p10<H13.size:=o13.lt (by simp)
  have e1013:=n11.mod.thenExt e13'
  have e113:=e110.thenExt e1013
  have r13:=e113.rd (by simp) (n1.rd 1)
  have e013:=e010.thenExt e1013
  refine⟨_,_,_,r13,c258 (Ext.row e013 h) (by omega) g.ok g.flat g.size g.few fun ap cp H14 hB e14=>⟨_,_,_,rfl,v257 _ _ _ fun H15 Bs n15=>?_⟩⟩
  have z14:=e14.1;have g15:=n15.ge
  have e1315:=e14.thenExt n15.mod
  have hsz:(plcs (t.unrollT 0)).length=t.size:=plcs_length t 0
  have hge:∀x∈blkL ap (plcs (t.unrollT 0)).length,H13.size<=x/\x<Bs:=fun x hxm=>by
   have hlt:=blkL_lt (by rw[hsz];exact hB.row) (by omega) x hxm
   refine⟨?_,by omega⟩
   rw[hsz] at hxm
   rcases hB.ok with h0|⟨b,e,hb,_,_⟩
   ·have h1:=hB.le
    have:t.size=0:=by omega
    rw[this] at hxm;simp[blkL] at hxm
   ·obtain⟨_,rfl⟩:=of_blkL e hxm
    exact hb
  have hsix:∀x∈p4 ::six p2 p8 p9 p10 q8 q10,w.heap.size<=x/\x<H13.size:=fun x hxm=>by
   simp only[six,List.mem_cons,List.not_mem_nil,or_false] at hxm
   rcases hxm with rfl|rfl|rfl|rfl|rfl|rfl|rfl<;>omega
  have hl:∀x∈blkL a p.ops.length,x<w.heap.size:=blkL_lt h (by omega)
  have d89:p8≠q8:=by omega
  have m1015:Ext H10 H15:=e1013.thenExt e1315
  refine⟨rfl,rfl,rfl,rfl,rfl,q8,q10,Bs,ap,cp,rfl,⟨?_,?_,?_,?_,?_,?_,?_,?_,?_⟩,⟨?_,?_⟩,?_,?_,?_,?_,?_,?_,?_,?_⟩
  ·exact n1.own.mod (e113.thenExt e1315) (by simp)
  ·exact Ext.row (e013.thenExt e1315) h
  ·exact (p8o.mod m10 (by simp;omega)).mod m1015 (by simp)
  ·exact (o9.mod m10 (by simp;omega)).mod m1015 (by simp)
  ·exact o13.mod e1315 (by simp)
  ·exact w10.mod m1015 (by simp)
  ·exact n11.own.mod (e13'.thenExt e1315) (by simp)
  ·show (markL _ _).length=_
   rw[markL_len];simp
  ·simp[s0]
  ·simp only[six,List.nodup_cons,List.mem_cons,List.not_mem_nil,or_false,not_or,List.nodup_nil,and_true,not_false_eq_true]
   omega
  ·intro x hxm hxa
   have:=hl x hxa
   have:=(hsix x (by simp[hxm])).1;omega
  ·exact n2.own.mod (((e3.thenExt e38).thenExt e9).trans_new m10 (by simp;omega)) (by simp) |>.mod m1015 (by simp)
  ·rw[hsz];exact n15.rd 0
  ·rw[hsz];exact Ext.row n15.mod hB.row
  ·exact e013.thenExt e1315
  ·intro x hxm
   have h1:=hsix x hxm
   exact⟨h1.1,by omega,fun h2=>by have:=hge x h2;omega⟩
  ·simp only[six,List.mem_cons,List.not_mem_nil,or_false,not_or];omega
  ·have:=e013.1;omega
  ·intro x hxm
   have:=hge x hxm;have:=e013.1;omega
 unfold P200 at hf
 have hA0:=start_agree (n:=90) (args:=[.agg (progC p a p.ops.length c),.slc ao lo co]) (by simp)
 have e0:[Value.agg (progC p a p.ops.length c).toArray,.slice ao lo co].toArray=(denL [.agg (progC p a p.ops.length c),.slc ao lo co]).toArray:=by simp[denL,SV.den]
 rw[e0]
 refine execL_sound (ro:=none) (n:=90) (ann:=nn) (w0:=w) (Z:=Zk [] []) [nthC (flatC (bodyC Tryz.f200)) 0] [.scope C200] (entry 0 [.agg (progC p a p.ops.length c),.slc ao lo co]) _ _ w _ (goods mixed (by kernel_rfl)) (zks (by kernel_rfl)) hf hA0 (Same.refl w) ⟨rfl,fun t u hu=>by simp[dl,look] at hu⟩ ?_
 intro e fr a0 w0 hk hA hS hz
 cases e with
 | exit id=>exact hk.elim
 | goto l=>exact hk.elim
 | ret=>exact hk.elim
 | normal=>
 refine wpIn_scope_straight (wpIn_flat ?_)
 rw[shapeC200]
 refine execL_sound (ro:=none) (n:=90) (ann:=nn) (w0:=w) (Z:=Zk [] []) [F200 0,F200 1,F200 2,F200 3,F200 4,F200 5,F200 6,F200 7,F200 8,F200 9,F200 10] [.block 0 RF200,F200 12,F200 13,F200 14,F200 15] fr _ a0 w0 _ (goods mixed (by kernel_rfl)) (zks (by kernel_rfl)) hk hA hS hz ?_
 intro e fr a1 w1 hk hA1 hS1 hz1
 cases e with
 | exit id=>exact hk.elim
 | goto l=>exact hk.elim
 | ret=>exact⟨.inr rfl,hS1,.inl ⟨hz1.1,fr,hA1.at_,hk⟩⟩
 | normal=>
 obtain⟨p2,o2,d2,hk⟩:=app_ptr hk
 obtain⟨p4,o4,d4,hk⟩:=app_ptr hk
 obtain⟨p8,o8,d8,hk⟩:=app_ptr hk
 obtain⟨p9,o9,d9,hk⟩:=app_ptr hk
 obtain⟨p10,o10,d10,hk⟩:=app_ptr hk
 obtain⟨v44,d44,hk⟩:=app_val hk
 obtain⟨rfl,rfl,rfl,rfl,rfl,q8,q10,Bs,ap,cp,rfl,lk,apt,own4,rBs,hC,e01,hsix,h4six,hBs0,hap0⟩:=hk
 have hw1:=e01.1
 have hsixl:∀x∈six p2 p8 p9 p10 q8 q10,x<w1.heap.size:=fun x hxm=>by
  have:=(hsix x (by simp[hxm])).2.1
  have:=rd_lt rBs;omega
 have p4l:p4<w1.heap.size:=own4.lt (by simp)
 refine wpIn_block ?_
 rw[shapeR200]
 refine wpIn_rf (n:=5) (a:=a1) (w:=w1) (S:=Bs ::blkL ap (plcs (t.unrollT 0)).length) (V0:=six p2 p8 p9 p10 q8 q10) (eval_tmp (hA1.at_ _ _ d44)) (fun args w=>callable_run (by kernel_rfl) args w)
  (it328 (zs:=plcs (t.unrollT 0)) (by rw[plcs_length];have:=g.few;omega) Bs ap cp) ⟨rBs,hC⟩ ?_ ?_ ?_ ?_ (J200 p a c p2 p8 p9 p10 q8 q10 (t.unrollT 0) s0) (J200_frame fun x hx=>by have:=blkL_lt h (by omega) x hx;omega) ?_ ?_ ?_
 ·rintro H1 H2 ⟨h1,h2⟩ hS
  refine⟨?_,row_stay h2 (by omega) fun b hb=>hS b (by simp[hb])⟩
  unfold rd at h1 ⊢
  rw[hS Bs (by simp)];exact h1
 ·intro b hb
  simp only[List.mem_cons] at hb
  rcases hb with rfl|hb
  ·exact rd_lt rBs
  ·exact blkL_lt hC (by omega) b hb
 ·intro x hxm
  simp only[backs,List.mem_map] at hxm
  obtain⟨o,_,rfl⟩:=hxm
  rfl
 ·intro v hv
  refine⟨hsixl v hv,fun hm=>?_⟩
  simp only[List.mem_cons] at hm
  obtain⟨_,h2,h3⟩:=hsix v (by simp[hv])
  rcases hm with rfl|hm
  ·omega
  ·exact h3 hm
 ·refine⟨rfl,0,Nat.le_refl _,?_⟩
  have e:(t.unrollT 0).drop ((t.unrollT 0).length-0)=[]:=by simp
  rw[e];exact lk
 ·
  intro lp k V W x hlp hlpl hlpV hxk hsW hj hV
  have hkl:k<(plcs (t.unrollT 0)).length:=by have:=(List.getElem?_eq_some_iff.1 hxk).1;rwa [backs_len] at this
  rw[backs_get hkl] at hxk
  have hkW:k<(t.unrollT 0).length:=by simpa [plcs] using hkl
  obtain⟨q,hq⟩:∃q,(t.unrollT 0)[(t.unrollT 0).length-1-k]?=some q:=⟨_,List.getElem?_eq_getElem (by omega)⟩
  have hpl:(plcs (t.unrollT 0)).length=(t.unrollT 0).length:=by simp[plcs]
  have hgd:(plcs (t.unrollT 0)).getD ((plcs (t.unrollT 0)).length-1-k) 0=(q.1:Int):=by
   rw[hpl,List.getD_eq_getElem?_getD]
   simp[plcs,hq]
  rw[hgd] at hxk
  cases hxk
  have hmem:=List.mem_of_getElem? hq
  obtain⟨q1,q2,q3⟩:=Tree.unrollT_lt t 0 q hmem
  rw[Nat.sub_zero,g.flat] at q3
  have hunr:q.2∈unr p:=by rw[unr_eq g,<-Tree.unrollT_snd t 0];exact List.mem_map.2 ⟨q,hmem,rfl⟩
  have hr:=round200 (lp:=lp) (y:=(((plcs (t.unrollT 0)).length-1-k:Nat):Int)) apt hkW hq q3 (unr_reg ⟨t,g⟩ hunr) (by omega) few (by rw[hWlen];exact g.few) hj hV hlpl hlpV (fun x hx=>by have:=blkL_lt h (by omega) x hx;omega)
  unfold R200 at hr
  have hAr:Agree 90 [(46,.int .i64 (q.1:Int)),(45,.int .i64 (((plcs (t.unrollT 0)).length-1-k:Nat):Int)),(2,.ptr p2 0),(8,.ptr p8 0),(9,.ptr p9 0),(10,.ptr p10 0)]
    { tmps:=(#[45,46].zip #[Value.int .i64 (((plcs (t.unrollT 0)).length-1-k:Nat):Int),.int .i64 (q.1:Int)]).foldl (fun t (p,v)=>t.setIfInBounds p v) a1.tmps,defers:=[] }:=by
   have hs:=hA1.size
   rw[two_args]
   have other:∀{s:Nat} {v x y:Value},a1.tmps[s]?=some v->s≠45->s≠46->((a1.tmps.setIfInBounds 45 x).setIfInBounds 46 y)[s]?=some v:=fun h1 h2 h3=>by
    rw[Array.getElem?_setIfInBounds_ne (fun e=>h3 e.symm),Array.getElem?_setIfInBounds_ne (fun e=>h2 e.symm)];exact h1
   refine agree_cons (agree_cons (agree_cons (agree_cons (agree_cons (agree_cons (agree_nil (by simp[hs])) (other (hA1.at_ _ _ d10) (by decide) (by decide))) (other (hA1.at_ _ _ d9) (by decide) (by decide))) (other (hA1.at_ _ _ d8) (by decide) (by decide))) (other (hA1.at_ _ _ d2) (by decide) (by decide))) ?_) ?_
   ·rw[Array.getElem?_setIfInBounds_ne (by decide),Array.getElem?_setIfInBounds_self_of_lt (by omega)];rfl
   ·rw[Array.getElem?_setIfInBounds_self_of_lt (by simp;omega)];rfl
  refine (good_all (ro:=some lp) (rm:=5-1-1) (n:=90) (ann:=nn) mixed w1 (assignOfC RF200) (wbC_wb (by kernel_rfl))).whole (Zk [] []) _ _ _ W _ (zk_zc (by kernel_rfl)) hr hAr hsW ⟨rfl,fun t u hu=>by simp[dl,look] at hu⟩ ?_
  intro e fr a2 w2 hk hA2 hS2 hz2
  cases e with
  | exit id=>exact hk.elim
  | goto l=>exact hk.elim
  | ret=>exact hk.elim
  | normal=>
  refine⟨hS2,hk.1,fun W2 hS3 m3=>?_⟩
  refine (good_all (ro:=some lp) (rm:=5-1-1) (n:=90) (ann:=nn) mixed w1 (roundOfC RF200) (wbC_wb (by kernel_rfl))).whole (Zk [] []) _ _ _ W2 _ (zk_zc (by kernel_rfl)) (hk.2 W2.heap m3) hA2 hS3 hz2 ?_
  intro e fr a3 w3 hk hA3 hS3 hz3
  cases e with
  | exit id=>exact hk.elim
  | goto l=>exact hk.elim
  | ret=>exact hk.elim
  | normal=>exact⟨rfl,hS3,hk.1,hk.2⟩
 ·
  intro D V W hD hDV hsW hj hM hV hDd
  obtain⟨rfl,cnt,_,lkW⟩:=hj
  rw[backs_len,plcs_length,hWlen,Nat.sub_self,List.drop_zero] at lkW
  have hnd:=apt.nd
  simp only[six,List.nodup_cons,List.mem_cons,List.not_mem_nil,or_false,not_or,List.nodup_nil,and_true,not_false_eq_true] at hnd
  obtain⟨⟨n1,n2,n3',n4,n5⟩,⟨n6,n7,n8,n9⟩,⟨n10,n11,n12⟩,⟨n13,n14⟩,n15⟩:=hnd
  have own4':=own4.mod hM h4six
  simp only[six,List.mem_cons,List.not_mem_nil,or_false,not_or] at h4six
  obtain⟨_,_,_,f4,_,f6⟩:=h4six
  have hq10l:q10<w1.heap.size:=hsixl q10 (by simp[six])
  have hwl:=lkW.l1
  have hnew:∀x∈six p2 p8 p9 p10 q8 q10,w.heap.size<=x:=fun x hxm=>(hsix x (by simp[hxm])).1
  have hneed:(lookL (t.unrollT 0) s0).2=needL t p.regs.toNat outs:=by unfold needL;rw[g.flat]
  have eW:Ext w.heap W.heap:=e01.trans_new hM fun x hx=>.inr (hnew x hx)
  have hfS:=tail200 (R:=R) (D:=D) lkW.o8 lkW.w hwl (by omega) lkW.o10 lkW.f own4' rfl n13 f4 f6 n14 (by omega) (by omega) fun fa fl fc H' hq m=>by
   rw[hneed] at hq
   refine k (some ⟨q10,0,none⟩) p.ops.length fa fl fc _ H' ⟨?_,.inr ⟨q10,0,rfl,hq.1⟩⟩ (eW.trans_new m fun x hx=>.inr ?_)
   ·rw[bls_length,Nat.mul_one,<-hneed];exact lkW.l2
   ·simp only[List.mem_cons,List.not_mem_nil,or_false] at hx
    rcases hx with rfl|rfl|rfl
    ·exact hnew _ (by simp[six])
    ·exact (hsix _ (by simp)).1
    ·omega
  unfold S200 at hfS
  have hAs:Agree 90 [(4,.ptr p4 0),(8,.ptr p8 0),(10,.ptr p10 0)] { a1 with defers:={ target:=.collected D,args:=#[] } ::a1.defers }:=agree_cons (agree_cons (agree_cons (agree_nil hA1.size) (hA1.at_ _ _ d10)) (hA1.at_ _ _ d8)) (hA1.at_ _ _ d4)
  refine execL_sound (ro:=none) (n:=90) (ann:=ann200) (w0:=w) (Z:=Zk [{ target:=.collected D,args:=#[] }] []) [F200 12,F200 13,F200 14,F200 15] [] _ _ _ W _ (goods mixed (by kernel_rfl)) (zks (by kernel_rfl)) hfS hAs (hS1.trans hsW) ⟨by rw[hz1.1],fun t u hu=>by simp[dl,look] at hu⟩ ?_
  intro e fr a5 w5 hk hA5 hS5 hz5
  have hD5:∀H',Mod [p10,p4] W.heap H'->H'[D]?=some (.deferred (some [])):=fun H' m=>by
   rw[m.2 D (Array.getElem?_eq_some_iff.1 hDd).1 (by simp;have:=hsixl p10 (by simp[six]);omega)];exact hDd
  cases e with
  | exit id=>exact hk.elim
  | goto l=>exact hk.elim
  | normal=>exact⟨.inl rfl,hS5,.inr ⟨D,hz5.1,hD5 _ hk.1,fr,hA5.at_,hk.2⟩⟩
  | ret=>exact⟨.inr rfl,hS5,.inr ⟨D,hz5.1,hD5 _ hk.1,fr,hA5.at_,hk.2⟩⟩
end Go.VC
namespace Go.VC
open Go Go.Proofs
def upto (n:Nat):List Int:=(List.range n).map fun i:Nat=>(i:Int)
def tidyH (h:Hdr)(ts tl:Tree):Hdr:={ h with step:=tidyP h.step ts (upto (nX h)),loss:=tidyP h.loss tl [0] }
theorem getD_take {l:List UInt64}{n i:Nat}(h:i<n):(l.take n).getD i 0=l.getD i 0:=by
 simp only[List.getD_eq_getElem?_getD,List.getElem?_take,if_pos h]
section
variable {h:Hdr}{ts tl:Tree}(gs:GoodP h.step ts)(gl:GoodP h.loss tl)(dm:dimsOk h)
include gs gl dm
theorem tidy_alike:AlikeH h (tidyH h ts tl):=by
 obtain⟨d1,d2,d3,d4,d5⟩:=dm
 have hs:∀x∈upto (nX h),0<=x/\x<h.step.regs:=by
  intro x hx
  simp only[upto,List.mem_map,List.mem_range] at hx
  obtain⟨i,hi,rfl⟩:=hx
  simp only[nX] at hi;omega
 have hl:∀x∈[(0:Int)],0<=x/\x<h.loss.regs:=by
  intro x hx;simp at hx;subst hx;omega
 have mem:∀i,i<nX h->(i:Int)∈upto (nX h):=fun i hi=>List.mem_map.2 ⟨i,List.mem_range.2 hi,rfl⟩
 refine⟨rfl,rfl,rfl,rfl,fun r hr=>?_,fun r d hr hd=>?_,fun r hr=>?_,fun r d hr hd=>?_⟩
 ·refine list_getD_ext (by simp[fwd_length]) fun i hi=>?_
  rw[List.length_take] at hi
  rw[getD_take (by omega),getD_take (by omega)]
  have:=(tidy_run gs hs hr hr (i:Int) (mem i (by omega))).1
  rw[Int.toNat_natCast] at this
  exact this.symm
 ·refine list_getD_ext (by simp[dfwd_length]) fun i hi=>?_
  rw[List.length_take] at hi
  rw[getD_take (by omega),getD_take (by omega)]
  have:=(tidy_run gs hs hr hd (i:Int) (mem i (by omega))).2
  rw[Int.toNat_natCast] at this
  exact this.symm
 ·exact (tidy_run gl hl hr hr 0 (by simp)).1.symm
 ·exact (tidy_run gl hl hr hd 0 (by simp)).2.symm
end
theorem tidy_plan {h:Hdr}{ts tl:Tree}(gs:GoodP h.step ts)(gl:GoodP h.loss tl)(ok:PlanOk h):PlanOk (tidyH h ts tl):=by
 obtain⟨⟨o1,o2,o3,o4,o5,o6⟩,hfit⟩:=ok
 have w1:=tidy_wr gs (upto (nX h))
 have w2:=tidy_wr gl [0]
 refine⟨⟨o1,⟨_,tidy_good gs _⟩,⟨_,tidy_good gl _⟩,o4,o5,o6⟩,?_⟩
 have e1:fixedOf (tidyH h ts tl)=fixedOf h:=rfl
 have e2:leastOf (tidyH h ts tl)=leastOf h:=rfl
 have l0:0<=leastOf h:=(least_small ⟨o1,o2,o3,o4,o5,o6⟩).1
 have t1:tapeOf (tidyH h ts tl)<=tapeOf h:=by
  have a:tapeOf h=if h.mode=3 then (wr_ h.loss:Int) else (wr_ h.step:Int)+wr_ h.loss:=rfl
  have b:tapeOf (tidyH h ts tl)=if h.mode=3 then (wr_ (tidyP h.loss tl [0]):Int) else (wr_ (tidyP h.step ts (upto (nX h))):Int)+wr_ (tidyP h.loss tl [0]):=rfl
  rw[a,b];split<;>omega
 have s1:slotOf (tidyH h ts tl)<=slotOf h:=by
  have a:slotOf h=if h.mode=3 then (wr_ h.step:Int)+h.step.regs else (h.x.length:Int)+1:=rfl
  have b:slotOf (tidyH h ts tl)=if h.mode=3 then (wr_ (tidyP h.step ts (upto (nX h))):Int)+h.step.regs else (h.x.length:Int)+1:=rfl
  rw[a,b];split<;>omega
 have m1:=Int.mul_le_mul_of_nonneg_right s1 l0
 rw[e1,e2]
 show _<=h.words
 omega
theorem tidy_same {h:Hdr}{ts tl:Tree}(gs:GoodP h.step ts)(gl:GoodP h.loss tl)(dm:dimsOk h)(L:Nat):lossOf (tidyH h ts tl) L=lossOf h L/\grad (tidyH h ts tl) L L=grad h L L:=
 ⟨alike_loss (tidy_alike gs gl dm) dm L,alike_grad (tidy_alike gs gl dm) dm dm ⟨_,gs⟩ ⟨_,gl⟩ ⟨_,tidy_good gs _⟩ ⟨_,tidy_good gl _⟩ L⟩
end Go.VC
namespace Go.VC
open Go Go.Proofs
theorem rg_app {r s:List UInt64}{x:Int}(h0:0<=x)(h1:x<r.length):rg (r++s) x=rg r x:=by
 unfold rg
 simp only[List.getD_eq_getElem?_getD]
 rw[List.getElem?_append_left (by omega)]
theorem fwd_app:∀{us:List Op} {r s:List UInt64},(∀o∈us,RegOk r.length o)->fwd us (r++s)=fwd us r++s
 | [],_,_,_=>rfl
 | o ::us,r,s,h=>by
  obtain⟨a0,a1,b0,b1,c0,c1⟩:=h o (by simp)
  have e:wStep o (r++s)=wStep o r++s:=by
   unfold wStep
   rw[rg_app b0 b1,rg_app c0 c1,List.set_append_left _ _ (by omega)]
  simp only[fwd,e]
  exact fwd_app fun x hx=>by rw[wStep_length];exact h x (by simp[hx])
theorem dfwd_app:∀{us:List Op} {r s d e:List UInt64},(∀o∈us,RegOk r.length o)->d.length=r.length->dfwd us (r++s) (d++e)=dfwd us r d++e
 | [],_,_,_,_,_,_=>rfl
 | o ::us,r,s,d,e,h,hd=>by
  obtain⟨a0,a1,b0,b1,c0,c1⟩:=h o (by simp)
  have e1:wStep o (r++s)=wStep o r++s:=by
   unfold wStep
   rw[rg_app b0 b1,rg_app c0 c1,List.set_append_left _ _ (by omega)]
  have e2:dStep o (r++s) (d++e)=dStep o r d++e:=by
   unfold dStep
   rw[rg_app b0 b1,rg_app c0 c1,rg_app b0 (by omega),rg_app c0 (by omega),List.set_append_left _ _ (by omega)]
  simp only[dfwd,e1,e2]
  exact dfwd_app (fun x hx=>by rw[wStep_length];exact h x (by simp[hx])) (by simp[dStep,hd])
theorem dfwd_append:∀(us vs:List Op) (r d:List UInt64),dfwd (us++vs) r d=dfwd vs (fwd us r) (dfwd us r d)
 | [],_,_,_=>rfl
 | o ::us,vs,r,d=>by simp only[List.cons_append,fwd,dfwd];exact dfwd_append us vs _ _
def constOp (n:Int)(by_:UInt64):Op:=⟨5,n,0,0,by_⟩
def timesOp (n:Int):Op:=⟨3,0,0,n,0⟩
def scaleP (p:Prog)(by_:UInt64):Prog:=⟨p.regs+1,p.ops++[constOp p.regs by_,timesOp p.regs]⟩
def scaleH (h:Hdr)(by_:UInt64):Hdr:={ h with loss:=scaleP h.loss by_ }
theorem scale_unr {p:Prog}{t t':Tree}{by_:UInt64}(g:GoodP p t)(g':GoodP (scaleP p by_) t'):unr (scaleP p by_)=unr p++[constOp p.regs by_,timesOp p.regs]:=by
 have e:t'=t.app (.op (constOp p.regs by_) (.op (timesOp p.regs) .nil)):=by
  refine flat_inj g'.ok (Tree.ok_app g.ok ⟨by show (1:Int)<=5;omega,by show (5:Int)<=6;omega,by show (1:Int)<=3;omega,by show (3:Int)<=6;omega,trivial⟩) ?_
  rw[g'.flat,Tree.flat_app,g.flat];rfl
 rw[unr_eq g',unr_eq g,e,Tree.unroll_app];rfl
theorem scale_two {r d:List UInt64}{n:Nat}{by_:UInt64}(hr:r.length=n)(hd:d.length=n)(hn:1<=n) :
  rg (fwd [constOp n by_,timesOp n] (r++[0])) 0=by_*rg r 0/\rg (dfwd [constOp n by_,timesOp n] (r++[0]) (d++[0])) 0=by_*rg d 0:=by
 subst hr
 cases r with
 | nil=>simp at hn
 | cons x r=>
  cases d with
  | nil=>simp at hd
  | cons y d=>
   have hl:(y ::d).length=(x ::r).length:=hd
   have e1:((x ::r++[(0:UInt64)]).set (((x ::r).length:Nat):Int).toNat by_)=x ::r++[by_]:=by
    rw[Int.toNat_natCast,List.set_append_right _ _ (Nat.le_refl _),Nat.sub_self];rfl
   have e2:∀z:UInt64,((y ::d++[(0:UInt64)]).set (((x ::r).length:Nat):Int).toNat z)=y ::d++[z]:=by
    intro z
    rw[Int.toNat_natCast,<-hl,List.set_append_right _ _ (Nat.le_refl _),Nat.sub_self];rfl
   have g1:rg (x ::r++[by_]) (((x ::r).length:Nat):Int)=by_:=by
    unfold rg
    rw[Int.toNat_natCast,List.getD_eq_getElem?_getD,List.getElem?_append_right (Nat.le_refl _),Nat.sub_self];rfl
   have g2:∀z:UInt64,rg (y ::d++[z]) (((x ::r).length:Nat):Int)=z:=by
    intro z
    unfold rg
    rw[Int.toNat_natCast,<-hl,List.getD_eq_getElem?_getD,List.getElem?_append_right (Nat.le_refl _),Nat.sub_self];rfl
   have w1:wStep (constOp ((x ::r).length:Nat) by_) (x ::r++[0])=x ::r++[by_]:=e1
   refine⟨?_,?_⟩
   ·simp only[fwd,w1]
    show x*(rg (x ::r++[by_]) (((x ::r).length:Nat):Int))=_
    rw[g1]
    exact UInt64.mul_comm _ _
   ·have d1:dStep (constOp ((x ::r).length:Nat) by_) (x ::r++[0]) (y ::d++[0])=y ::d++[0]:=by
     have:dStep (constOp ((x ::r).length:Nat) by_) (x ::r++[0]) (y ::d++[0])=(y ::d++[0]).set (((x ::r).length:Nat):Int).toNat (0*y+0*y):=rfl
     rw[this,e2];simp
    simp only[dfwd,w1,d1]
    show rg (x ::r++[by_]) (((x ::r).length:Nat):Int)*y+x*rg (y ::d++[0]) (((x ::r).length:Nat):Int)=_
    rw[g1,g2]
    show by_*y+x*0=by_*y
    simp
section
variable {h:Hdr}{ts tl tl':Tree}{by_:UInt64}(gl:GoodP h.loss tl)(gl':GoodP (scaleP h.loss by_) tl')(dm:dimsOk h)
include gl gl' dm
theorem scale_dims:dimsOk (scaleH h by_):=by
 have _:=gl
 have _:=gl'
 obtain⟨d1,d2,d3,d4,d5⟩:=dm
 exact⟨d1,d2,d3,d4,by show _<=h.loss.regs+1;exact Int.le_trans d5 (by omega)⟩
theorem scale_st:∀t,st (scaleH h by_) t=st h t
 | 0=>rfl
 | t+1=>by
  have _:=gl
  have _:=gl'
  have _:=dm
  have ih:=scale_st t
  simp only[st,stepOut,ih];rfl
theorem scale_dst (i:Nat):∀t,dst (scaleH h by_) i t=dst h i t
 | 0=>rfl
 | t+1=>by
  have ih:=scale_dst i t
  simp only[dst,ih,scale_st gl gl' dm];rfl
theorem scale_in (x:List UInt64)(hx:x.length=nX h):lossIn (scaleH h by_) x=lossIn h x++[0]:=by
 have _:=gl'
 have hr:=gl.regs.1
 obtain⟨d1,d2,d3,d4,d5⟩:=dm
 have hl:nL (scaleH h by_)=nL h+1:=by show (h.loss.regs+1).toNat=h.loss.regs.toNat+1;omega
 unfold lossIn padTo
 rw[hl]
 show x++h.th++zeros (nL h+1-(x++h.th).length)=_
 have hle:(x++h.th).length<=nL h:=by simp only[List.length_append,hx,nX,nL];omega
 rw[show nL h+1-(x++h.th).length=nL h-(x++h.th).length+1 from by omega]
 unfold zeros
 rw[List.replicate_succ',<-List.append_assoc]
theorem scale_pad (z:List UInt64)(hz:z.length<=nL h):padTo (nL (scaleH h by_)) z=padTo (nL h) z++[0]:=by
 have _:=gl'
 have _:=dm
 have hr:=gl.regs.1
 have hl:nL (scaleH h by_)=nL h+1:=by show (h.loss.regs+1).toNat=h.loss.regs.toNat+1;omega
 unfold padTo
 rw[hl,show nL h+1-z.length=nL h-z.length+1 from by omega]
 unfold zeros
 rw[List.replicate_succ',<-List.append_assoc]
theorem scale_loss (L:Nat):lossOf (scaleH h by_) L=by_*lossOf h L:=by
 have hr:=gl.regs.1
 have hx:=st_length dm L
 have hlen:=lossIn_length dm hx
 unfold lossOf lossOut
 rw[scale_st gl gl' dm,scale_in gl gl' dm _ hx]
 show rg (fwd (unr (scaleP h.loss by_)) _) 0=_
 rw[scale_unr gl gl',fwd_append,fwd_app fun o ho=>by rw[hlen];exact unr_reg ⟨tl,gl⟩ ho]
 have hn:((nL h:Nat):Int)=h.loss.regs:=by simp only[nL];omega
 have:=(scale_two (by_:=by_) (n:=nL h) (r:=fwd (unr h.loss) (lossIn h (st h L))) (d:=fwd (unr h.loss) (lossIn h (st h L))) (by rw[fwd_length,hlen]) (by rw[fwd_length,hlen]) (by simp only[nL];omega)).1
 rw[hn] at this;exact this
theorem scale_tan (L i:Nat):tanLoss (scaleH h by_) (st (scaleH h by_) L) (dst (scaleH h by_) i L) (dth0 (scaleH h by_) i)=by_*tanLoss h (st h L) (dst h i L) (dth0 h i):=by
 have hr:=gl.regs.1
 have hx:=st_length dm L
 have hlen:=lossIn_length dm hx
 have h1:=dst_length dm i L
 have h2:=dth0_length h i
 have hz:(dst h i L++dth0 h i).length<=nL h:=by
  obtain⟨d1,d2,d3,d4,d5⟩:=dm
  rw[List.length_append,h1,h2];simp only[nX,nT,nL];omega
 have e0:dth0 (scaleH h by_) i=dth0 h i:=rfl
 unfold tanLoss
 rw[scale_st gl gl' dm,scale_dst gl gl' dm,e0,scale_in gl gl' dm _ hx,scale_pad gl gl' dm _ hz]
 show rg (dfwd (unr (scaleP h.loss by_)) _ _) 0=_
 have hpl:(padTo (nL h) (dst h i L++dth0 h i)).length=nL h:=padTo_length hz
 have hreg:∀o∈unr h.loss,RegOk (lossIn h (st h L)).length o:=fun o ho=>by rw[hlen];exact unr_reg ⟨tl,gl⟩ ho
 rw[scale_unr gl gl',dfwd_append,fwd_app hreg,dfwd_app hreg (by rw[hpl,hlen])]
 have hn:((nL h:Nat):Int)=h.loss.regs:=by simp only[nL];omega
 have:=(scale_two (by_:=by_) (n:=nL h) (r:=fwd (unr h.loss) (lossIn h (st h L))) (d:=dfwd (unr h.loss) (lossIn h (st h L)) (padTo (nL h) (dst h i L++dth0 h i))) (by rw[fwd_length,hlen]) (by rw[dfwd_length,hpl]) (by simp only[nL];omega)).2
 rw[hn] at this;exact this
theorem scale_along (gs:GoodP h.step ts)(L i:Nat)(hi:i<nN h):along (scaleH h by_) L i=by_*along h L i:=by
 rw[<-along_eq dm ⟨_,gs⟩ ⟨_,gl⟩ L i hi,<-along_eq (scale_dims gl gl' dm) ⟨_,gs⟩ ⟨_,gl'⟩ L i hi,scale_tan gl gl' dm]
end
end Go.VC
namespace Go.VC
open Go Go.Proofs
theorem getD_map_mul {l:List UInt64}{b:UInt64}{i:Nat}(h:i<l.length):(l.map fun x=>b*x).getD i 0=b*l.getD i 0:=by
 simp only[List.getD_eq_getElem?_getD,List.getElem?_map]
 rw[List.getElem?_eq_getElem h];rfl
theorem scale_grad {h:Hdr}{ts tl tl':Tree}{by_:UInt64}(gs:GoodP h.step ts)(gl:GoodP h.loss tl)(gl':GoodP (scaleP h.loss by_) tl')(dm:dimsOk h)(L:Nat) :
  grad (scaleH h by_) L L=((grad h L L).1.map (fun x=>by_*x),(grad h L L).2.map fun x=>by_*x):=by
 have dg:=scale_dims gl gl' dm
 have hx:nX (scaleH h by_)=nX h:=rfl
 have ht:nT (scaleH h by_)=nT h:=rfl
 have key:∀i,i<nN h->along (scaleH h by_) L i=by_*along h L i:=fun i hi=>scale_along gl gl' dm gs L i hi
 obtain⟨a1,a2⟩:=grad_length dm L L
 obtain⟨b1,b2⟩:=grad_length dg L L
 refine Prod.ext (list_getD_ext (by rw[List.length_map];omega) fun i hi=>?_) (list_getD_ext (by rw[List.length_map];omega) fun i hi=>?_)
 ·have:=key i (by unfold nN;omega)
  unfold along at this
  rw[if_pos (by omega),if_pos (by omega)] at this
  rw[this];exact (getD_map_mul (by omega)).symm
 ·have:=key (nX h+i) (by unfold nN;omega)
  unfold along at this
  rw[if_neg (by omega),if_neg (by omega),hx,Nat.add_sub_cancel_left] at this
  rw[this];exact (getD_map_mul (by omega)).symm
end Go.VC
namespace Go.VC
open Go Go.Proofs
variable {H:Heap}{R:Value->Heap->Prop}
theorem c125 {p:Prog}{a:Option Addr}{c:Nat}(h:RowO H a p.ops.length p.ops){t:Tree}(g:GoodP p t){ao:Option Addr}{lo co:Nat}{outs:List Int}(hx:RowI H ao lo outs)(ho:∀x∈outs,0<=x/\x<p.regs)(hlo:lo<=1099511627776)
  (k:∀an cn H',Row 1 H' an p.ops.length (bls (needL t p.regs.toNat outs))->Ext H H'->R (.tuple #[.slice an p.ops.length cn,.int .i64 0]) H'):Ru 125 [.agg (progC p a p.ops.length c).toArray,.slice ao lo co] H R:=by
 refine v125 _ _ _ _ fun H1 q n1=>⟨_,rfl,n1.rdL,c200 (Ext.row n1.mod h) g (Ext.row n1.mod hx) ho hlo fun an cn fa fl fc cnt H2 hB e2=>⟨[.slice an p.ops.length cn,.slice fa fl fc,.int .i64 cnt],rfl,_,rfl,fun H3 q3 n3=>⟨rfl,by intro v hv;simp at hv;rcases hv with rfl|rfl|rfl<;>trivial,n3.own.w 0 3 rfl,fun H4 h4=>?_⟩⟩⟩
 obtain⟨e4,o4⟩:=tmpE (cs:=[.slice an p.ops.length cn,.slice fa fl fc,.int .i64 cnt]) n3 rfl h4
 exact⟨_,_,_,o4.rd 0 rfl,k _ _ _ (Ext.row e4 hB) ((n1.mod.thenExt e2).thenExt e4)⟩
theorem c63 {p:Prog}{a:Option Addr}{c:Nat}(h:RowO H a p.ops.length p.ops){t:Tree}(g:GoodP p t){ao:Option Addr}{lo co:Nat}{outs:List Int}(hx:RowI H ao lo outs)(ho:∀x∈outs,0<=x/\x<p.regs)(hlo:lo<=1099511627776)
  (k:∀a' c' H',Buf 5 H' H.size a' (siftT t p.regs.toNat outs).flat.length c' (opsC (siftT t p.regs.toNat outs).flat)->Ext H H'->R (.tuple #[.agg (progC ⟨p.regs,(siftT t p.regs.toNat outs).flat⟩ a' (siftT t p.regs.toNat outs).flat.length c').toArray,.int .i64 0]) H') :
  Ru 63 [.agg (progC p a p.ops.length c).toArray,.slice ao lo co] H R:=by
 have few:=g.form.1
 have hs:Tree.sieve (fun i o=>(needL t p.regs.toNat outs).getD i false || Tree.brk o) p.ops 0=(siftT t p.regs.toNat outs).flat:=by rw[<-g.flat];exact (Tree.keepT_flat _ g.ok 0).symm
 refine v63 _ _ _ _ fun H1 q n1 H2 q2 n2=>⟨_,rfl,n2.mod.rdL (by simp) n1.rdL,c125 (Ext.row (n1.mod.new n2) h) g (Ext.row (n1.mod.new n2) hx) ho hlo fun an cn H3 hN e3=>⟨_,_,_,_,rfl,fun H4 q4 n4=>⟨n4.own.w 0 1 rfl,fun H5 h5=>⟨fun h'=>(h' rfl).elim,fun _=>?_⟩⟩⟩⟩
 have e35:Ext H3 H5:=by rw[h5];exact n4.mod.trans_new (Mod.refl.wr (S:=[q4]) (.inl (by simp))) (by have:=n4.ge;simpa using this)
 have o5:Own H5 q4 [.slice an p.ops.length cn]:=by rw[h5];exact n4.own.wr 0 _
 have e15:Ext H1 H5:=n2.mod.thenExt (e3.thenExt e35)
 have e25:Ext H2 H5:=e3.thenExt e35
 have e05:Ext H H5:=n1.mod.thenExt e15
 have r0:=e15.rd (by simp) (n1.rd 0)
 have r1:=e15.rd (by simp) (n1.rd 1)
 refine⟨_,r0,_,_,_,r1,c126 (Ext.row e05 h) (by omega) 127 #[] #[.pointer (some ⟨q4,0,none⟩),.pointer (some ⟨q,0,none⟩)] (by kernel_rfl) (fun i o=>(needL t p.regs.toNat outs).getD i false || Tree.brk o) (fun i hi H6 K e6 hk=>?_) fun a' c' H6 hB e6=>?_⟩
 ·exact c127 (e6.rd (by simp) (o5.rd 0 rfl)) (Ext.row (e35.thenExt e6) hN) (e6.rd (by simp) r1) (Ext.row (e05.thenExt e6) h) hi hi hk
 ·rw[hs] at hB ⊢
  have o2:=(n2.own.mod e25 (by simp)).mod e6 (by simp)
  refine⟨_,_,_,rfl,e6.rd (by simp) r0,rfl,by intro v hv;simp at hv;rcases hv with rfl|rfl<;>trivial,o2.w 0 2 rfl,fun H7 h7=>?_⟩
  have m7:Mod [q2] H6 H7:=by rw[h7];exact Mod.refl.wrL (.inl (by simp))
  have o7:Own H7 q2 (progC ⟨p.regs,(siftT t p.regs.toNat outs).flat⟩ a' (siftT t p.regs.toNat outs).flat.length c'):=by rw[h7];exact o2.swrL rfl
  have hq2:=n2.ge
  have hz:=n1.mod.1
  have hz2:=e25.1
  have hlt:=n2.lt
  exact⟨_,rfl,o7.1,k _ _ _ ((hB.mod m7 (by simp;omega)).down (by omega)) ((e05.thenExt e6).trans_new m7 (by simp;omega))⟩
theorem c25 {p:Prog}{a:Option Addr}{c:Nat}(h:RowO H a p.ops.length p.ops){t:Tree}(g:GoodP p t){ao:Option Addr}{lo co:Nat}{outs:List Int}(hx:RowI H ao lo outs)(ho:∀x∈outs,0<=x/\x<p.regs)(hlo:lo<=1099511627776)
  (k:∀a' c' H',Buf 5 H' H.size a' (tidyP p t outs).ops.length c' (opsC (tidyP p t outs).ops)->Ext H H'->R (.tuple #[.agg (progC (tidyP p t outs) a' (tidyP p t outs).ops.length c').toArray,.int .i64 0]) H') :
  Ru 25 [.agg (progC p a p.ops.length c).toArray,.slice ao lo co] H R:=by
 have few:=g.form.1
 refine v25 _ _ _ _ fun H1 q n1 H2 q2 n2=>⟨_,rfl,n2.mod.rdL (by simp) n1.rdL,c63 (Ext.row (n1.mod.new n2) h) g (Ext.row (n1.mod.new n2) hx) ho hlo fun as_ cs H3 hB e3=>⟨_,rfl,_,rfl,fun H4 q4 n4=>⟨rfl,by intro v hv;simp[progC] at hv;rcases hv with rfl|rfl<;>trivial,n4.own.w 0 2 rfl,fun H5 h5=>⟨fun h'=>(h' rfl).elim,fun _=>?_⟩⟩⟩⟩
 obtain⟨e35,o5⟩:=tmpE (cs:=progC ⟨p.regs,(siftT t p.regs.toNat outs).flat⟩ as_ (siftT t p.regs.toNat outs).flat.length cs) n4 rfl h5
 refine⟨_,rfl,o5.1,c64 (p:=⟨p.regs,(siftT t p.regs.toNat outs).flat⟩) (Ext.row e35 hB.row) (sift_good g outs) fun a' c' H6 hB6 e6=>?_⟩
 have e26:=e3.thenExt (e35.thenExt e6)
 have o2:=n2.own.mod e26 (by simp)
 refine⟨_,rfl,_,rfl,rfl,by intro v hv;simp[progC] at hv;rcases hv with rfl|rfl<;>trivial,o2.w 0 2 rfl,fun H7 h7=>?_⟩
 have m7:Mod [q2] H6 H7:=by rw[h7];exact Mod.refl.wrL (.inl (by simp))
 have o7:Own H7 q2 (progC ⟨p.regs,(Tree.openT (siftT t p.regs.toNat outs)).flat⟩ a' (Tree.openT (siftT t p.regs.toNat outs)).flat.length c'):=by rw[h7];exact o2.swrL rfl
 have hq2:=n2.ge
 have hz:=n1.mod.1
 have hz2:=(e3.thenExt e35).1
 have hlt:=n2.lt
 exact⟨_,rfl,o7.1,k _ _ _ ((hB6.mod m7 (by simp;omega)).down (by omega)) (((n1.mod.new n2).thenExt e26).trans_new m7 (by simp;omega))⟩
theorem c26 {a:Option Addr}{c:Nat}{x y:UInt64}(h:RowU H a 2 [x,y])(k:R (.int .u64 ((x*y).toNat:Int)) H):Ru 26 [.slice a 2 c] H R:=by
 refine v26 _ _ _ ⟨fun z n H'=>∃j:Nat,n=j/\j<=2/\z=([x,y].take j).foldl (·*·) 1/\H'=H,fun _ n _=>(2-n).toNat,⟨0,rfl,by omega,rfl,rfl⟩,?_⟩
 rintro H1 z _ ⟨j,rfl,hj,rfl,rfl⟩
 refine⟨fun hlt=>?_,fun hge=>?_⟩
 ·refine RowU.idx h (by omega) hlt ⟨by unfold I64;omega,⟨j+1,by omega,by omega,?_,rfl⟩,by dsimp only;omega⟩
  rw[List.take_succ_eq_append_getElem (by simp;omega),List.foldl_append]
  rfl
 ·have:j=2:=by omega
  subst this
  have e:([x,y].take 2).foldl (·*·) 1=x*y:=by simp
  rw[e];exact k
end Go.VC
set_option linter.unusedVariables false
namespace Go.VC
open Go Go.Proofs
set_option maxRecDepth 100000
variable {H:Heap}{R:Value->Heap->Prop}
theorem v5 (x0:List Value)(x1:UInt64)(x2:Int)(h:∀H' p,New H x0 27 H' p->∃cs:List Value,cs.length=9/\RdL H' p 0 cs/\Ru 8 [.agg cs.toArray] H' fun r H'=>∃cs:List Value,cs.length=4/\∃n,r=.tuple #[.agg cs.toArray,.i n]/\∀H'_1 p_1,New H' [.i 0,.i 0,.i 0,.i 0] 30 H'_1 p_1->cs.length=4/\(∀v∈cs,One v)/\WOk H'_1 p_1 0 4/\∀H',H'=wrL H'_1 p_1 0 cs->(¬n=0->Ru 10 [] H' fun r H'=>∃c,r=.bool c/\R (.bool c) H')/\(¬¬n=0->∃cs:List Value,cs.length=9/\RdL H' p 0 cs/\Ru 24 [.agg cs.toArray,.int .u16 x2] H' fun r H'=>∃n,r=.i n/\∃cs:List Value,cs.length=9/\RdL H' p 0 cs/\Ru 22 [.agg cs.toArray,.i n] H' fun r H'=>∃cs:List Value,cs.length=3/\∃cs_1:List Value,cs_1.length=4/\∃c,r=.tuple #[.agg cs.toArray,.agg cs_1.toArray,.bool c]/\∀H'_2 p_2,New H' [.int .u64 0,.slice none 0 0,.slice none 0 0] 53 H'_2 p_2->∀H' p_3,New H'_2 [.i 0,.i 0,.i 0,.i 0] 64 H' p_3->cs.length=3/\(∀v∈cs,One v)/\WOk H' p_2 0 3/\∀H'_3,H'_3=wrL H' p_2 0 cs->cs_1.length=4/\(∀v∈cs_1,One v)/\WOk H'_3 p_3 0 4/\∀H',H'=wrL H'_3 p_3 0 cs_1->∀H'_4 q,New H' [] 3 H'_4 q->∃(J:Option Addr->Nat->Nat->Heap->Prop),(∃(I:Option Addr->Nat->Nat->Int->Heap->Prop),∃(μ:Option Addr->Nat->Nat->Int->Heap->Nat),I (some ⟨q,0,none⟩) 0 0 (0:Int) H'_4/\∀H a l c n,I a l c n H->∃a_2 l_1 c_1,rd H p 1=some (.slice a_2 l_1 c_1)/\(n<(↑l_1:Int)->∀H' q,New H [.i n] 3 H' q->∃new,new.length=1/\SlL H' (some ⟨q,0,none⟩) new/\App 1 8 3 [.i 0] H' a l c 1 new fun a' l' c' H'=>I64 (n+(1:Int))/\I a' l' c' (n+(1:Int)) H'/\μ a' l' c' (n+(1:Int)) H'<μ a l c n H)/\(¬n<(↑l_1:Int)->J a l c H))/\∀H a l c_1,J a l c_1 H->∃(cs:List Value),cs.length=9/\RdL H p 0 cs/\∀H' p_4,New H [.i 0,.slice none 0 0,.slice none 0 0,.i 0,.slice none 0 0,.i 0,.slice none 0 0,.i 0,.i 0] 27 H' p_4->cs.length=9/\(∀v∈cs,One v)/\WOk H' p_4 0 9/\∀H'_5,H'_5=wrL H' p_4 0 cs->∃cs:List Value,cs.length=2/\RdL H'_5 p 3 cs/\Ru 25 [.agg cs.toArray,.slice a l c_1] H'_5 fun r H'=>∃cs:List Value,cs.length=2/\∃n_1,r=.tuple #[.agg cs.toArray,.i n_1]/\∀H'_6 p_5,New H' [.i 0,.slice none 0 0] 25 H'_6 p_5->cs.length=2/\(∀v∈  cs,One v)/\WOk H'_6 p_5 0 2/\∀H',H'=wrL H'_6 p_5 0 cs->∃cs:List Value,cs.length=2/\RdL H' p 5 cs/\∀H'_7 q,New H' [.i 0] 3 H'_7 q->Ru 25 [.agg cs.toArray,.slice (some ⟨q,0,none⟩) 1 1] H'_7 fun r H'=>∃cs:List Value,cs.length=2/\∃n_2,r=.tuple #[.agg cs.toArray,.i n_2]/\∀H'_8 p_6,New H' [.i 0,.slice none 0 0] 25 H'_8 p_6->cs.length=2/\(∀(v:Value),v∈cs->One v)/\WOk H'_8 p_6 0 2/\∀H',H'=wrL H'_8 p_6 0 cs->∃cs:List Value,cs.length=2/\RdL H' p_5 0 cs/\cs.length=2/\(∀v∈cs,One v)/\WOk H' p_4 3 2/\∀H'_9,H'_9=wrL H' p_4 3 cs->∃cs:List Value,cs.length=2/\RdL H'_9 p_6 0 cs/\cs.length=2/\(∀v∈cs,One v)/\WOk H'_9 p_4 5 2/\∀H',H'=wrL H'_9 p_4 5 cs->∃cs:List Value,cs.length=9/\RdL H' p_4 0 cs/\Ru 22 [.agg cs.toArray,.i n] H' fun r H'=>∃cs:List Value,cs.length=3/\∃cs_2:List Value,cs_2.length=4/\∃c_2,r=.tuple #[.agg cs.toArray,.agg cs_2.toArray,.bool c_2]/\∀H'_10 p_7,New H' [.int .u64 0,.slice none 0 0,.slice none 0 0] 53 H'_10 p_7->∀H' p_8,New H'_10 [.i 0,.i 0,.i 0,.i 0] 64 H' p_8->cs.length=3/\(∀v∈cs,One v)/\WOk H' p_7 0 3/\∀H'_11,H'_11=wrL H' p_7 0 cs->cs_2.length=4/\(∀v∈cs_2,One v)/\WOk H'_11 p_8 0 4/\∀H',H'=wrL H'_11 p_8 0 cs_2->∃(J:Heap->Prop),(((!c)=true->R (.bool false) H')/\((!c)=false->(¬n_1=0->R (.bool false) H')/\(¬¬n_1=0->(¬n_2=0->R (.bool false) H')/\(¬¬n_2=0->((!c_2)=true->R (.bool false) H')/\((!c_2)=false->∃cs:List Value,cs.length=3/\RdL H' p_2 0 cs/\∃cs_3:List Value,cs_3.length=3/\RdL H' p_7 0 cs_3/\Ru 20 [.agg cs.toArray,.agg cs_3.toArray] H' fun r H'=>∃c,r=.bool c/\((!c)=true->R (.bool false) H')/\((!c)=false->J H'))))))/\∀H,J H->∃n_3,rd H p 5=some (.i n_3)/\∃cs:List Value,cs.length=9/\RdL H p 0 cs/\cs.length=9/\(∀v∈cs,One v)/\WOk H p_4 0 9/\∀H',H'=wrL H p_4 0 cs->I64 (n_3+(1:Int))/\∀H'_12 q,New H' [] 74 H'_12 q->∃a l c,rd H'_12 p 6=some (.slice a l c)/\∃new,new.length=l*5/\SlL H'_12 a new/\App 5 40 74 [.i 0,.i 0,.i 0,.i 0,.int .u64 0] H'_12 (some ⟨q,0,none⟩) 0 0 l new fun a' l' c' H'=>(List.length (α:=Value) [.i 5,.i n_3,.i 0,.i 0,.u x1]=5/\List.length (α:=Value) [.i 3,.i 0,.i 0,.i n_3,.int .u64 0]=5)/\∀H'_13 q,New H' [.i 5,.int .i64 n_3,.i 0,.i 0,.u x1,.i 3,.i 0,.i 0,.i n_3,.int .u64 0] 74 H'_13 q->∃new,new.length=10/\SlL H'_13 (some ⟨q,0,none⟩) new/\App 5 40 74 [.i 0,.i 0,.i 0,.i 0,.int .u64 0] H'_13 a' l' c' 2 new fun a' l' c' H'=>List.length (α:=Value) [.i (n_3+(1:Int)),.slice a' l' c']=2/\(∀v∈[.int .i64 (n_3+(1:Int)),.slice a' l' c'],One v)/\WOk H' p_4 5 2/\∀H'_14,H'_14=wrL H' p_4 5 [.i (n_3+(1:Int)),.slice a' l' c']->∃cs:List Value,cs.length=9/\RdL H'_14 p_4 0 cs/\Ru 8 [.agg cs.toArray] H'_14 fun r H'=>∃cs:List Value,cs.length=4/\∃n_4,r=.tuple #[.agg cs.toArray,.i n_4]/\∀H'_15 p,New H' [.i 0,.i 0,.i 0,.i 0] 30 H'_15 p->cs.length=4/\(∀v∈cs,One v)/\WOk H'_15 p 0 4/\∀H',H'=wrL H'_15 p 0 cs->(¬n_4=0->Ru 10 [] H' fun r H'=>∃c,r=.bool c/\R (.bool c) H')/\(¬¬n_4=0->∃(cs:List Value),cs.length=9/\RdL H' p_4 0 cs/\Ru 22 [.agg cs.toArray,.i n] H' fun r H'=>∃cs:List Value,cs.length=3/\∃cs_3:List Value,cs_3.length=4/\∃c,r=.tuple #[.agg cs.toArray,.agg cs_3.toArray,.bool c]/\∀H'_16 p,New H' [.int .u64 0,.slice none 0 0,.slice none 0 0] 53 H'_16 p->∀H' p_9,New H'_16 [.i 0,.i 0,.i 0,.i 0] 64 H' p_9->cs.length=3/\(∀v∈cs,One v)/\WOk H' p 0 3/\∀H'_17,H'_17=wrL H' p 0 cs->cs_3.length=4/\(∀v∈cs_3,One v)/\WOk H'_17 p_9 0 4/\∀H',H'=wrL H'_17 p_9 0 cs_3->∃(J:Heap->Prop),(((!c)=true->R (.bool false) H')/\((!c)=false->∃a l c,rd H' p_2 1=some (.slice a l c)/\∃a l_1 c,rd H' p 1=some (.slice a l_1 c)/\(¬(↑l:Int)=(↑l_1:Int)->R (.bool false) H')/\(¬¬(↑l:Int)=(↑l_1:Int)->∃a l c,rd H' p_2 2=some (.slice a l c)/\∃a l_2 c,rd H' p 2=some (.slice a l_2 c)/\(¬(↑l:Int)=(↑l_2:Int)->R (.bool false) H')/\(¬¬(↑l:Int)=(↑l_2:Int)->∃x,rd H' p 0=some (.u x)/\∃x_1,rd H' p_2 0=some (.u x_1)/\∀H'_18 q,New H' [.u x1,.u x_1] 51 H'_18 q->rd H'_18 p 0=some (.u x)/\Ru 26 [.slice (some ⟨q,0,none⟩) 2 2] H'_18 fun r H'=>∃x_2,r=.u x_2/\rd H' p 0=some (.int .u64 (↑(UInt64.toNat x):Int))/\(¬x=x_2->R (.bool false) H')/\(¬¬x=x_2->J H')))))/\∀H,J H->∃(J:Heap->Prop),(∃(I:Int->Heap->Prop),∃(μ:Int->Heap->Nat),I (0:Int) H/\∀H n,I n H->∃a l c,rd H p_2 1=some (.slice a l c)/\(n<(↑l:Int)->∃a l c,rd H p 1=some (.slice a l c)/\∃b o,At a b o/\((0:Int)<=n/\n<(↑l:Int))/\∃x,rd H b (o+n.toNat)=some (.u x)/\∃a_4 l_1 c_3,rd H p_2 1=some (.slice a_4 l_1 c_3)/\∃b_1 o_1,At a_4 b_1 o_1/\((0:Int)<=n/\n<(↑l_1:Int))/\∃x_1,rd H b_1 (o_1+n.toNat)=some (.u x_1)/\∀H' q,New H [.int .u64 (↑(UInt64.toNat x1):Int),.u x_1] 51 H' q->rd H' b (o+n.toNat)=some (.u x)/\rd H' p 1=some (.slice a l c)/\Ru 26 [.slice (some ⟨q,0,none⟩) 2 2] H' fun r H'=>∃x_2,r=.u x_2/\rd H' b (o+n.toNat)=some (.u x)/\rd H' p 1=some (.slice a l c)/\(¬x=x_2->R (.bool false) H')/\(¬¬x=x_2->I64 (n+(1:Int))/\I (n+(1:Int)) H'/\μ (n+(1:Int)) H'<μ n H))/\(¬n<(↑l:Int)->J H))/\∀H,J H->∃(I:Int->Heap->Prop),∃(μ:Int->Heap->Nat),I (0:Int) H/\∀H n,I n H->∃a l c,rd H p_2 2=some (.slice a l c)/\(n<(↑l:Int)->∃a l c,rd H p 2=some (.slice a l c)/\∃b o,At a b o/\((0:Int)<=n/\n<(↑l:Int))/\∃x,rd H b (o+n.toNat)=some (.u x)/\∃a_4 l_1 c_3,rd H p_2 2=some (.slice a_4 l_1 c_3)/\∃b_1 o_1,At a_4 b_1 o_1/\((0:Int)<=n/\n<(↑l_1:Int))/\∃x_1,rd H b_1 (o_1+n.toNat)=some (.u x_1)/\∀H' q,New H [.int .u64 (↑(UInt64.toNat x1):Int),.u x_1] 51 H' q->rd H' b (o+n.toNat)=some (.u x)/\rd H' p 2=some (.slice a l c)/\Ru 26 [.slice (some ⟨q,0,none⟩) 2 2] H' fun r H'=>∃x_2,r=.u x_2/\rd H' b (o+n.toNat)=some (.u x)/\rd H' p 2=some (.slice a l c)/\(¬x=x_2->R (.bool false) H')/\(¬¬x=x_2->I64 (n+(1:Int))/\I (n+(1:Int)) H'/\μ (n+(1:Int)) H'<μ n H))/\(¬n<(↑l:Int)->Ru 10 [] H fun r H'=>∃c,r=.bool c/\R (.bool c) H')))):Ru 5 [.agg x0.toArray,.u x1,.int .u16 x2] H R:=vcr ⟨fun|8=>some [(13,.slc),(14,.int .i64)]|29=>some [(29,.int .i64)]|34=>some [(30,.int .i64)]|_=>none,fun|11=>some [(13,.slc)]|19=>some []|28=>some []|33=>some []|_=>none⟩ [.agg x0,.u64 x1,.int .u16 x2] h
theorem v10  (h:Ru 51 [] H fun r H'=>∃cs:List Value,cs.length=9/\r=.agg cs.toArray/\∀H'_1 p,New H' [.i 0,.slice none 0 0,.slice none 0 0,.i 0,.slice none 0 0,.i 0,.slice none 0 0,.i 0,.i 0] 27 H'_1 p->cs.length=9/\(∀v∈cs,One v)/\WOk H'_1 p 0 9/\∀H',H'=wrL H'_1 p 0 cs->2=2/\(∀v∈[.i 3,.slice none 0 0],One v)/\WOk H' p 3 2/\∀H'_2,H'_2=wrL H' p 3 [.i 3,.slice none 0 0]->(5=5/\5=5/\5=5/\5=5)/\∀H' q,New H'_2 [.i 3,.i 2,.i 0,.i 0,.int .u64 0,.i 1,.i 0,.int .i64 0,.i 2,.int .u64 0,.i 5,.i 2,.i 0,.i 0,.int .u64 9223372036854775808,.i 3,.i 0,.i 0,.i 2,.int .u64 0] 74 H' q->List.length (α:=Value) [.i 3,.slice (some ⟨q,0,none⟩) 4 4]=2/\(∀v∈[.i 3,.slice (some ⟨q,0,none⟩) 4 4],One v)/\WOk H' p 5 2/\∀H'_3,H'_3=wrL H' p 5 [.i 3,.slice (some ⟨q,0,none⟩) 4 4]->∃(cs:List Value),cs.length=9/\RdL H'_3 p 0 cs/\Ru 9 [.agg cs.toArray] H'_3 fun r H'=>∃v n,r=.tuple #[v,.i n]/\∃(J:Heap->Prop),((¬n=0->R (.bool false) H')/\(¬¬n=0->∃a,v=.pointer a/\(a=none->R (.bool false) H')/\(¬a=none->J H')))/\∀H,J H->Ru 17 [v] H fun r H'=>∃n n_1,r=.tuple #[.i n,.i n_1]/\Ru 18 [v] H' fun r H'=>∃cs:List Value,List.length cs=3/\∃n,r=.tuple #[.agg cs.toArray,.i n]/\∀H'_4 p,New H' [.int .u64 0,.slice none 0 0,.slice none 0 0] 53 H'_4 p->cs.length=3/\(∀v∈cs,One v)/\WOk H'_4 p 0 3/\∀H',H'=wrL H'_4 p 0 cs->(n_1=0->(n=0->Ru 31 [v] H' fun r H'=>∃c,r=.bool c/\(c=true->∃cs:List Value,cs.length=3/\RdL H' p 0 cs/\∀H'_5 q,New H' [.int .u64 9223372036854775808] 51 H'_5 q->∀H' q_1,New H'_5 [.int .u64 0] 51 H' q_1->Ru 20 [.agg cs.toArray,.agg #[.int .u64 0,.slice (some ⟨q,0,none⟩) 1 1,.slice (some ⟨q_1,0,none⟩) 1 1]] H' fun r H'=>∃c,r=.bool c/\R (.bool c) H')/\(c=false->R (.bool false) H'))/\(¬n=0->R (.bool false) H'))/\(¬n_1=0->R (.bool false) H')):Ru 10 [] H R:=vcr ⟨fun _=>none,fun|7=>some []|_=>none⟩ [] h
theorem v22 (x0:List Value)(x1:Int)(h:∀H' p,New H x0 27 H' p->∀H'_1 p_1,New H' [.int .u64 0,.slice none 0 0,.slice none 0 0] 53 H'_1 p_1->∀H' p_2,New H'_1 [.i 0,.i 0,.i 0,.i 0] 64 H' p_2->∃cs:List Value,cs.length=9/\RdL H' p 0 cs/\Ru 9 [.agg cs.toArray] H' fun r H'=>∃v n,r=.tuple #[v,.i n]/\∃(J:Heap->Prop),((¬n=0->3=3/\(∀v∈[.int .u64 0,.slice none 0 0,.slice none 0 0],One v)/\WOk H' p_1 0 3/\∀H'_2,H'_2=wrL H' p_1 0 [.int .u64 0,.slice none 0 0,.slice none 0 0]->4=4/\(∀v∈[.i 0,.i 0,.i 0,.i 0],One v)/\WOk H'_2 p_2 0 4/\∀H',H'=wrL H'_2 p_2 0 [.i 0,.i 0,.i 0,.i 0]->∃cs:List Value,cs.length=3/\RdL H' p_1 0 cs/\∃cs_1:List Value,cs_1.length=4/\RdL H' p_2 0 cs_1/\R (.tuple #[.agg cs.toArray,.agg cs_1.toArray,.bool false]) H')/\(¬¬n=0->∃a,v=.pointer a/\(a=none->3=3/\(∀(v:Value),v∈[.int .u64 0,.slice none 0 0,.slice none 0 0]->One v)/\WOk H' p_1 0 3/\∀H'_2,H'_2=wrL H' p_1 0 [.int .u64 0,.slice none 0 0,.slice none 0 0]->4=4/\(∀v∈[.i 0,.i 0,.i 0,.i 0],One v)/\WOk H'_2 p_2 0 4/\∀H',H'=wrL H'_2 p_2 0 [.i 0,.i 0,.i 0,.i 0]->∃cs:List Value,cs.length=3/\RdL H' p_1 0 cs/\∃cs_1:List Value,cs_1.length=4/\RdL H' p_2 0 cs_1/\R (.tuple #[.agg cs.toArray,.agg cs_1.toArray,.bool false]) H')/\(¬a=none->J H')))/\∀H,J H->Ru 17 [v] H fun r H'=>∃n n_1,r=.tuple #[.i n,.i n_1]/\∃(J:Int->Heap->Prop),(∃(I:Int->Int->Heap->Prop),∃(μ:Int->Int->Heap->Nat),I n_1 (1:Int) H'/\∀H n n_2,I n n_2 H->∃(J_1:Heap->Prop),((n=0->Ru 11 [v] H fun r H'=>∃c,r=.bool c/\(c=true->I64 (x1+(1:Int))/\(n_2<=x1+(1:Int)->J_1 H')/\(¬n_2<=x1+(1:Int)->J n H'))/\(c=false->J n H'))/\(¬n=0->J n H))/\∀H_1,J_1 H_1->Ru 14 [v,.bool (decide (n_2<=x1))] H_1 fun r H'=>∃n_3,r=.i n_3/\(¬n_3=(0:Int)->3=3/\(∀v∈[.int .u64 0,.slice none 0 0,.slice none 0 0],One v)/\WOk H' p_1 0 3/\∀H'_2,H'_2=wrL H' p_1 0 [.int .u64 0,.slice none 0 0,.slice none 0 0]->4=4/\(∀(v:Value),v∈[.i 0,.i 0,.i 0,.i 0]->One v)/\WOk H'_2 p_2 0 4/\∀H',H'=wrL H'_2 p_2 0 [.i 0,.i 0,.i 0,.i 0]->∃cs:List Value,cs.length=3/\RdL H' p_1 0 cs/\∃cs_1:List Value,cs_1.length=4/\RdL H' p_2 0 cs_1/\R (.tuple #[.agg cs.toArray,.agg cs_1.toArray,.bool false]) H')/\(¬¬n_3=0->Ru 17 [v] H' fun r H'=>∃n_4 n_5,r=.tuple #[.i n_4,.i n_5]/\I64 (n_2+(1:Int))/\I n_5 (n_2+(1:Int)) H'/\μ n_5 (n_2+(1:Int)) H'<μ n n_2 H))/\∀H n,J n H->Ru 18 [v] H fun r H'=>∃cs:List Value,cs.length=3/\∃n_2,r=.tuple #[.agg cs.toArray,.i n_2]/\∀H'_2 p,New H' [.int .u64 0,.slice none 0 0,.slice none 0 0] 53 H'_2 p->cs.length=3/\(∀v∈cs,One v)/\WOk H'_2 p 0 3/\∀H',H'=wrL H'_2 p 0 cs->∃cs:List Value,cs.length=3/\RdL H' p 0 cs/\Ru 42 [v] H' fun r H'=>∃cs_1:List Value,cs_1.length=4/\r=.agg cs_1.toArray/\RdL H' p 0 cs/\(n=0->(n_2=(0:Int)->Ru 31 [v] H' fun r H'=>∃c,r=.bool c/\RdL H' p 0 cs/\cs.length=3/\(∀v∈cs,One v)/\WOk H' p_1 0 3/\∀H'_3,H'_3=wrL H' p_1 0 cs->cs_1.length=4/\(∀v∈  cs_1,One v)/\WOk H'_3 p_2 0 4/\∀H',H'=wrL H'_3 p_2 0 cs_1->∃cs:List Value,cs.length=3/\RdL H' p_1 0 cs/\∃cs_2:List Value,cs_2.length=4/\RdL H' p_2 0 cs_2/\R (.tuple #[.agg cs.toArray,.agg cs_2.toArray,.bool c]) H')/\(¬n_2=0->cs.length=3/\(∀v∈cs,One v)/\WOk H' p_1 0 3/\∀H'_3,H'_3=wrL H' p_1 0 cs->cs_1.length=4/\(∀(v:Value),v∈cs_1->One v)/\WOk H'_3 p_2 0 4/\∀H',H'=wrL H'_3 p_2 0 cs_1->∃cs:List Value,cs.length=3/\RdL H' p_1 0 cs/\∃cs_2:List Value,cs_2.length=4/\RdL H' p_2 0 cs_2/\R (.tuple #[.agg cs.toArray,.agg cs_2.toArray,.bool false]) H'))/\(¬n=0->cs.length=3/\(∀v∈cs,One v)/\WOk H' p_1 0 3/\∀H'_3,H'_3=wrL H' p_1 0 cs->cs_1.length=4/\(∀v∈cs_1,One v)/\WOk H'_3 p_2 0 4/\∀H',H'=wrL H'_3 p_2 0 cs_1->∃cs:List Value,cs.length=3/\RdL H' p_1 0 cs/\∃cs_2:List Value,cs_2.length=4/\RdL H' p_2 0 cs_2/\R (.tuple #[.agg cs.toArray,.agg cs_2.toArray,.bool false]) H')):Ru 22 [.agg x0.toArray,.i x1] H R:=vcr ⟨fun|6=>some [(10,.int .i64),(11,.int .i64)]|_=>none,fun|4=>some []|8=>some []|11=>some [(10,.int .i64)]|_=>none⟩ [.agg x0,.int .i64 x1] h
theorem v24 (x0:List Value)(x1:Int)(h:∀H' p,New H x0 27 H' p->∃n,rd H' p 0=some (.i n)/\(n=2->I64 x1/\R (.i x1) H')/\(¬n=2->∃n,rd H' p 7=some (.i n)/\R (.i n) H')):Ru 24 [.agg x0.toArray,.int .u16 x1] H R:=vcr nn [.agg x0,.int .u16 x1] h
theorem v51  (h:∀H' p,New H [.i 0,.slice none 0 0,.slice none 0 0,.i 0,.slice none 0 0,.i 0,.slice none 0 0,.i 0,.i 0] 27 H' p->∀H'_1 q,New H' [.int .u64 5] 51 H'_1 q->∀H' q_1,New H'_1 [.int .u64 2] 51 H' q_1->5=5/\∀H'_2 q_2,New H' [.i 1,.i 0,.i 0,.i 2,.int .u64 0] 74 H'_2 q_2->(List.length (α:=Value) [.i 3,.slice (some ⟨q_2,0,none⟩) 1 1]=2/\2=2)/\List.length (α:=Value) [.i 1,.slice (some ⟨q,0,none⟩) 1 1,.slice (some ⟨q_1,0,none⟩) 1 1,.i 3,.slice (some ⟨q_2,0,none⟩) 1 1,.i 2,.slice none 0 0,.i 3,.i 100]=9/\(∀(v:Value),v∈[.i 1,.slice (some ⟨q,0,none⟩) 1 1,.slice (some ⟨q_1,0,none⟩) 1 1,.i 3,.slice (some ⟨q_2,0,none⟩) 1 1,.i 2,.slice none 0 0,.i 3,.i 100]->One v)/\WOk H'_2 p 0 9/\∀H',H'=wrL H'_2 p 0 [.i 1,.slice (some ⟨q,0,none⟩) 1 1,.slice (some ⟨q_1,0,none⟩) 1 1,.i 3,.slice (some ⟨q_2,0,none⟩) 1 1,.i 2,.slice none 0 0,.i 3,.i 100]->∃(cs:List Value),cs.length=9/\RdL H' p 0 cs/\R (.agg cs.toArray) H'):Ru 51 [] H R:=vcr nn [] h
end Go.VC
namespace Go.VC
open Go Go.Proofs
def ops4:List Op:=[⟨3,2,0,0,0⟩,⟨1,0,0,2,0⟩,⟨5,2,0,0,9223372036854775808⟩,⟨3,0,0,2,0⟩]
def tree4:Tree:=.op ⟨3,2,0,0,0⟩ (.op ⟨1,0,0,2,0⟩ (.op ⟨5,2,0,0,9223372036854775808⟩ (.op ⟨3,0,0,2,0⟩ .nil)))
def hw:Hdr:=⟨1,[5],[2],⟨3,[]⟩,⟨3,ops4⟩,3,100⟩
theorem good_none:GoodP hw.step .nil:=⟨⟨by decide,by decide,by decide⟩,⟨by decide,by decide,by decide⟩,trivial,rfl,by decide,trivial,by decide⟩
theorem good_four:GoodP hw.loss tree4:=⟨⟨by decide,by decide,by decide⟩,⟨by decide,by decide,by decide⟩,⟨by decide,by decide,by decide,by decide,by decide,by decide,by decide,by decide,trivial⟩,rfl,by decide,trivial,by decide⟩
theorem plan_hw:PlanOk hw:=by
 have hl:(wr_ hw.loss:Int)=4:=by rw[wr_eq good_four];rfl
 have hs:(wr_ hw.step:Int)=0:=by rw[wr_eq good_none];rfl
 refine⟨⟨by decide,⟨_,good_none⟩,⟨_,good_four⟩,by unfold dimsOk;decide,by unfold lenOk;decide,by decide⟩,?_⟩
 have e1:fixedOf hw=13:=by
  unfold fixedOf partsOf
  simp only[hw]
  decide
 have e2:tapeOf hw=4:=by
  show (if hw.mode=3 then (wr_ hw.loss:Int) else (wr_ hw.step:Int)+wr_ hw.loss)=4
  rw[hl,hs];rfl
 have e3:slotOf hw=2:=by
  show (if hw.mode=3 then (wr_ hw.step:Int)+hw.step.regs else (hw.x.length:Int)+1)=2
  rw[hs];rfl
 rw[e1,e2,e3];decide
theorem unr_none:unr hw.step=[]:=unr_eq good_none
theorem unr_four:unr hw.loss=ops4:=unr_eq good_four
theorem st_hw:∀t,st hw t=[5]
 | 0=>rfl
 | t+1=>by
  rw[st,st_hw t,stepOut,unr_none]
  rfl
theorem loss_hw:lossOf hw 3=0:=by
 rw[lossOf,st_hw,lossOut,unr_four];decide
theorem grad_hw:∀k,grad hw 3 k=([9223372036854775808],[0])
 | 0=>by
  simp only[grad,pullLoss,lossTape,lossOut,st_hw,unr_four]
  decide
 | k+1=>by
  have ih:=grad_hw k
  simp only[grad,ih,pullStep,stepTape,stepOut,st_hw,unr_none]
  rfl
theorem ERun.l {h:Hdr}{ended:Bool}{d tags d' tags'}(r:ERun h ended d tags d' tags'):d'.l=d.l:=by
 induction r with
 | refl=>rfl
 | step _ _ _ ih=>rw[ih];rfl
theorem d0_cnt (h:Hdr)(x:Int):DCnt (d0 h x) 0:=⟨by simp[d0],by simp[d0],by simp[d0],by simp[d0]⟩
theorem c10 {H:Heap}{R:Value->Heap->Prop}(k:∀H',Ext H H'->R (.bool true) H'):Ru 10 [] H R:=by
 refine v10 (v51 fun H1 p n1 H2 qx n2 H3 qt n3=>⟨rfl,fun H4 qo n4=>⟨⟨rfl,rfl⟩,rfl,?_,?_,fun H5 h5=>?_⟩⟩)
 ·intro x hx;simp at hx;rcases hx with rfl|rfl|rfl|rfl|rfl|rfl|rfl|rfl|rfl<;>trivial
 ·exact (((n1.own.mod n2.mod (by simp)).mod n3.mod (by simp)).mod n4.mod (by simp)).w 0 9 rfl
 have op:=((n1.own.mod n2.mod (by simp)).mod n3.mod (by simp)).mod n4.mod (by simp)
 have e5:Ext H H5:=(((n1.mod.new n2).new n3).new n4).trans_new (wrLM h5) (by have:=n1.ge;simpa using this)
 have ox:Own H5 qx [.int .u64 5]:=((n2.own.mod n3.mod (by simp)).mod n4.mod (by simp)).mod (wrLM h5) (by have:=n1.lt;have:=n2.ge;simp;omega)
 have ot:Own H5 qt [.int .u64 2]:=(n3.own.mod n4.mod (by simp)).mod (wrLM h5) (by have:=n1.lt;have:=n2.mod.1;have:=n3.ge;simp;omega)
 refine⟨[.int .i64 1,.slice (some ⟨qx,0,none⟩) 1 1,.slice (some ⟨qt,0,none⟩) 1 1,.int .i64 3,.slice (some ⟨qo,0,none⟩) 1 1,.int .i64 2,.slice none 0 0,.int .i64 3,.int .i64 100],rfl,by rw[h5];exact rdL_wrL op.2,?_⟩
 refine⟨[.int .i64 1,.slice (some ⟨qx,0,none⟩) 1 1,.slice (some ⟨qt,0,none⟩) 1 1,.int .i64 3,.slice (some ⟨qo,0,none⟩) 1 1,.int .i64 2,.slice none 0 0,.int .i64 3,.int .i64 100],rfl,rfl,fun H6 s n6=>⟨rfl,?_,n6.own.w 0 9 rfl,fun H7 h7=>⟨rfl,?_,?_,fun H8 h8=>⟨⟨rfl,rfl,rfl,rfl⟩,fun H9 ql n9=>⟨rfl,?_,?_,fun Ha ha=>?_⟩⟩⟩⟩⟩
 ·intro x hx;simp at hx;rcases hx with rfl|rfl|rfl|rfl|rfl|rfl|rfl|rfl|rfl<;>trivial
 ·intro x hx;simp at hx;rcases hx with rfl|rfl<;>trivial
 ·exact (tmpE (cs:=[.int .i64 1,.slice (some ⟨qx,0,none⟩) 1 1,.slice (some ⟨qt,0,none⟩) 1 1,.int .i64 3,.slice (some ⟨qo,0,none⟩) 1 1,.int .i64 2,.slice none 0 0,.int .i64 3,.int .i64 100]) n6 rfl h7).2.w 3 2 rfl
 ·intro x hx;simp at hx;rcases hx with rfl|rfl<;>trivial
 ·obtain⟨e7,o7⟩:=tmpE (cs:=[.int .i64 1,.slice (some ⟨qx,0,none⟩) 1 1,.slice (some ⟨qt,0,none⟩) 1 1,.int .i64 3,.slice (some ⟨qo,0,none⟩) 1 1,.int .i64 2,.slice none 0 0,.int .i64 3,.int .i64 100]) n6 rfl h7
  have o8:=o7.wrL 3 [.int .i64 3,.slice none 0 0] (by simp)
  rw[<-h8] at o8
  exact (o8.mod n9.mod (by simp)).w 5 2 rfl
 obtain⟨e7,o7⟩:=tmpE (cs:=[.int .i64 1,.slice (some ⟨qx,0,none⟩) 1 1,.slice (some ⟨qt,0,none⟩) 1 1,.int .i64 3,.slice (some ⟨qo,0,none⟩) 1 1,.int .i64 2,.slice none 0 0,.int .i64 3,.int .i64 100]) n6 rfl h7
 have o8:=o7.wrL 3 [.int .i64 3,.slice none 0 0] (by simp)
 rw[<-h8] at o8
 have o9:=o8.mod n9.mod (by simp)
 have oa:=o9.wrL 5 [.int .i64 3,.slice (some ⟨ql,0,none⟩) 4 4] (by simp)
 rw[<-ha] at oa
 have s5:H5.size<=s:=n6.ge
 have m58:Ext H5 H8:=e7.trans_new (wrLM h8) (by simpa using s5)
 have m5a:Ext H5 Ha:=(m58.new n9).trans_new (wrLM ha) (by simpa using s5)
 have hsq:s≠ql:=by have:=n6.lt;have:=n9.ge;have:H8.size=H6.size:=(by rw[h8,h7,wrL_size,wrL_size]);omega
 have ol:Own Ha ql (opsC ops4):=n9.own.mod (wrLM ha) (by simpa using Ne.symm hsq)
 have e0a:=e5.thenExt m5a
 let P:HAt:=⟨some ⟨qx,0,none⟩,1,some ⟨qt,0,none⟩,1,none,0,some ⟨ql,0,none⟩,4⟩
 have rows:HRows Ha hw P:=⟨⟨rfl,.inr ⟨qx,0,rfl,(ox.mod m5a (by simp)).1⟩⟩,⟨rfl,.inr ⟨qt,0,rfl,(ot.mod m5a (by simp)).1⟩⟩,⟨rfl,.inl rfl⟩,⟨rfl,.inr ⟨ql,0,rfl,ol.1⟩⟩,by decide,by decide,by decide,by decide⟩
 refine⟨hdrC hw P,rfl,oa.1,c9 hw P rows (fun hp Hb be b eng _ hbe hbl eb _=>⟨_,_,rfl,?_⟩) fun n _ _ hn _=>(hn plan_hw).elim⟩
 have eng:=eng (by decide)
 refine⟨fun H'=>H'=Hb,⟨fun h=>(h rfl).elim,fun _=>⟨_,rfl,fun h=>by simp at h,fun _=>rfl⟩⟩,?_⟩
 intro Hb' hb';subst hb'
 have hm1:hw.mode=1:=rfl
 have hmu:=offM_bound (off_first hp hm1)
 have hl3:(d0 hw (fixedOf hw)).l=3:=rfl
 rw[hl3] at hmu
 refine c17 eng (.inl hm1) (off_inv hm1 false) (off_first hp hm1) (B:=0) (d0_cnt _ _) (by rw[hl3];omega) (by omega) fun n d' tags' s' Hc hnone hinv hrun engc mc=>⟨_,_,rfl,?_⟩
 have hpend:d'.pend=0:=off_end hm1 hinv hnone
 have hdl:d'.l=3:=hrun.l
 have low:∀x∈[b.d,b.m,b.w],Ha.size<=x:=by
  intro x hx;simp at hx
  rename_i di _ _
  rcases hx with rfl|rfl|rfl
  ·exact di.d
  ·exact di.m
  ·exact di.w
 have e0c:Ext H Hc:=(e0a.thenExt eb).trans_new mc (fun x hx=>.inr (Nat.le_trans e0a.1 (low x hx)))
 obtain⟨g1,g2,g3⟩:=engc.sem.gr (by omega)
 rw[hdl,hpend] at g1 g2
 rw[hdl] at g3
 have g1':s'.ax=[9223372036854775808]:=by rw[g1];exact congrArg Prod.fst (grad_hw _)
 have g2':s'.ag=[0]:=by rw[g2];exact congrArg Prod.snd (grad_hw _)
 have g3':d'.loss=0:=by rw[g3];exact loss_hw
 refine c18 engc hpend fun Hd a1 c1 a2 c2 rx rt ed=>⟨_,rfl,_,rfl,fun He pe ne=>⟨rfl,?_,ne.own.w 0 3 rfl,fun Hf hf=>⟨fun _=>⟨fun _=>?_,fun h=>(h rfl).elim⟩,fun h=>(h rfl).elim⟩⟩⟩
 ·intro x hx;simp at hx;rcases hx with rfl|rfl|rfl<;>trivial
 obtain⟨ef,of⟩:=tmpE (cs:=[.int .u64 (d'.loss.toNat:Int),.slice a1 (nX hw) c1,.slice a2 (nT hw) c2]) ne rfl hf
 have ecf:=ed.thenExt ef
 refine c31 (engc.ext ecf) (.inl hm1) fun Hg eg=>⟨_,rfl,fun _=>?_,fun h=>by rw[hnone,hpend] at h;simp at h⟩
 refine⟨_,rfl,eg.rdL (by simp) of.1,fun Hh q1 nh Hi q2 ni=>?_⟩
 have efi:=(eg.new nh).new ni
 rw[g3']
 rw[g1'] at rx
 rw[g2'] at rt
 refine c20 (w:=0) (x:=[9223372036854775808]) (y:=[0]) (Ext.row (ef.thenExt efi) rx) (Ext.row (ef.thenExt efi) rt) ⟨rfl,.inr ⟨q1,0,rfl,ni.mod.rdL (by simp) nh.rdL⟩⟩ ⟨rfl,.inr ⟨q2,0,rfl,ni.rdL⟩⟩ (by decide) (by decide) fun Hj ej=>⟨_,rfl,k Hj (((e0c.thenExt ecf).thenExt efi).thenExt ej)⟩
end Go.VC
namespace Go.VC
open Go Go.Proofs
structure Ahead (d:DS)(tags:List Int):Prop where
 pd:d.pend = -1
 inv:AInv d.l d.at_ tags
 cnt:DCnt d (65535*(4194304*(d.l+1)-aM d.l d.at_ tags))
theorem enext_ahead {h:Hdr}(hm:h.mode=2){d:DS}{tags:List Int}(hp:d.pend = -1)(ended:Bool):enext h d tags ended=strideNext d.l ended d.at_ (-1) tags:=by
 unfold enext;rw[if_neg (by omega),hp]
theorem Ahead.step {h:Hdr}{d:DS}{tags:List Int}(w:Ahead d tags){k n:Int}{m:MS1}(hs:mstep (dMS d tags) k n=some m)(hp:m.pend = -1)(hi:AInv d.l m.at_ m.tags)(hM:aM d.l m.at_ m.tags<aM d.l d.at_ tags):Ahead (dact h d k n m) m.tags:=by
 refine⟨hp,hi,(dcnt_step hs w.cnt).mono ?_⟩
 show 65535*(4194304*(d.l+1)-aM d.l d.at_ tags)+65535<=65535*(4194304*(d.l+1)-aM d.l m.at_ m.tags)
 omega
theorem Ahead.more {d:DS}{tags:List Int}(w:Ahead d tags)(hf:AFull d.l d.at_ tags)(hl:d.l<65535):Ahead { d with l:=d.l+1 } tags:=by
 have h1:=a_more hf hl
 have b1:=aM_bound h1
 have b2:=aM_bound w.inv
 refine⟨w.pd,h1,?_⟩
 obtain⟨p,t,l,s⟩:=w.cnt
 refine DCnt.mono (A:=65535*(4194304*(d.l+1)-aM d.l d.at_ tags)) ⟨p,t,l,s⟩ ?_
 show _<=65535*(4194304*(d.l+1+1)-aM (d.l+1) d.at_ tags)
 omega
theorem Ahead.first {h:Hdr}(hp:PlanOk h)(hm:h.mode=2):Ahead (d0 h (fixedOf h)) (tags0 h):=by
 obtain⟨h1,h2⟩:=str_first hp hm
 refine⟨rfl,by rw[h1];exact h2,(d0_cnt _ _).mono ?_⟩
 have:=aM_bound h2
 rw[h1]
 show 0<=65535*(4194304*(0+1)-aM 0 0 (tags0 h))
 omega
end Go.VC
namespace Go.VC
open Go Go.Proofs
variable {H:Heap}{R:Value->Heap->Prop}
theorem bwd_back:∀(us:List Op) (r adj:List UInt64),(∀o∈us,RegOk r.length o)->(bwd (us.zip (taped us r)).reverse (fwd us r,adj)).1=r
 | [],r,adj,_=>rfl
 | o ::us,r,adj,h=>by
  have ih:=bwd_back us (wStep o r) adj fun x hx=>by rw[wStep_length];exact h x (List.mem_cons_of_mem _ hx)
  obtain⟨r1,r2,_⟩:=h o (List.mem_cons_self ..)
  simp only[taped,fwd,List.zip_cons_cons,List.reverse_cons,bwd_append]
  show (bStep o (rg r o.d) (bwd (us.zip (taped us (wStep o r))).reverse (fwd us (wStep o r),adj))).1=r
  simp only[bStep]
  rw[ih]
  unfold wStep
  rw[List.set_set,<-rg_get r1 r2,List.set_getElem_self]
theorem step_back {h:Hdr}(ok:OkH h){t:Nat}{x:List UInt64}(hx:x.length=nX h)(adj:List UInt64):(bwd ((unr h.step).zip (stepTape h t x)).reverse (stepOut h t x,adj)).1=stepIn h t x:=by
 refine bwd_back _ _ _ fun o ho=>?_
 rw[stepIn_length ok.dims hx]
 exact unr_reg ok.step ho
theorem stepIn_take {h:Hdr}{t:Nat}{x:List UInt64}(hx:x.length=nX h):(stepIn h t x).take (nX h)=x:=by
 unfold stepIn padTo
 rw[List.append_assoc,List.append_assoc,List.take_append_of_le_length (by omega),List.take_of_length_le (by omega)]
theorem OwnO.rowT {H:Heap}{b o:Nat}{xs:List UInt64}{l:Nat}(h:OwnO H b o (u64s xs))(hl:l<=xs.length):RowU H (some ⟨b,o,none⟩) l (xs.take l):=by
 refine⟨by simp;omega,.inr ⟨b,o,rfl,?_⟩⟩
 have:=rdL_take (k:=l) h.1
 simpa [u64s,List.map_take] using this
theorem Own.drop {H:Heap}{b:Nat}{xs:List UInt64}(h:Own H b (u64s xs))(n:Nat)(hn:n<=xs.length):OwnO H b n (u64s (xs.drop n)):=by
 refine⟨?_,wok_sub h.2 (by omega) (by simp;omega)⟩
 have:=rdL_drop (k:=n) h.1
 rw[Nat.zero_add] at this
 simpa [u64s,List.map_drop] using this
theorem slA_own {q m n l:Nat}(h:m<l):At (slA (some ⟨q,0,none⟩) m l n) q (m*n):=by
 unfold At slA
 rw[if_neg (by omega)]
 simp only[Option.map_some,Addr.add]
 split
 ·rename_i h0;rw[h0]
 ·simp
theorem c184o {b:DB}{h:Hdr}{d:DS}{s:PS}{K post:List UInt64}(v:Drv H b h d s K post){bq c1 c2 w ls lw:Nat}(t:Nat)(x:List UInt64)(hx:x.length=nX h)(hw:w=wr_ h.step)(e1:ls=nS h)(e2:lw=w)
  (hq:Own H bq (u64s (stepTape h t x++stepOut h t x))) (hdo:DOff h b [bq]) (hsw:0<=d.sweeps/\d.sweeps<=4611686018427387904)
  (k:∀H' ad,Drv H' b h { d with sweeps:=d.sweeps+1 } { s with ad:=ad,ax:=headA h (pullStep h t x s.ax),ag:=addL s.ag (restA h (pullStep h t x s.ax)) } K post->OwnO H' bq w (u64s (stepIn h t x))->Mod [b.d,b.w,bq] H H'->R (.tuple #[]) H') :
  Ru 184 [.pointer (some ⟨b.d,0,none⟩),.slice (some ⟨bq,w,none⟩) ls c1,.slice (some ⟨bq,0,none⟩) lw c2] H R:=by
 subst e1 e2
 have ok:=v.ok.1
 have hlen:=v.lens
 obtain⟨hrs,hrl⟩:=ok_regs ok
 obtain⟨d1,d2,d3,d4,d5⟩:=ok.dims
 have hsl:(stepOut h t x).length=nS h:=stepOut_length ok.dims hx
 have htl:(stepTape h t x).length=lw:=by rw[hw,stepTape,taped_length,wr_unr ok.step]
 refine v184 _ _ _ _ _ _ _ _ ⟨_,rfl,v.stepC,_,rfl,v.stepC,c121 v 5 (by omega) fun a c H1 hB e1=>⟨_,_,_,rfl,(v.ext e1).stepC,(v.ext e1).stepC,?_⟩⟩
 refine c240 h.step hB.row (by show s.ax.length<=_;rw[hlen.ax];simp only[nX];omega) hrs fun a2 c2 H2 hB2 e2=>⟨_,_,_,rfl,?_⟩
 have e12:=e1.thenExt e2
 have v2:=v.ext e12
 obtain⟨ba,rfl,hba,oa⟩:=hB2.own (by omega)
 have hpl:(padTo h.step.regs.toNat s.ax).length=h.step.regs.toNat:=padTo_length (by rw[hlen.ax];simp only[nX];omega)
 have hz:=e1.1
 have hq2:=hq.mod e12 (by simp)
 have hreg:=hq2.drop lw (by simp;omega)
 rw[List.drop_append_of_le_length (by omega),List.drop_of_length_le (by omega),List.nil_append] at hreg
 have htp:=hq2.rowT (l:=lw) (by simp;omega)
 rw[List.take_append_of_le_length (by omega),List.take_of_length_le (by omega)] at htp
 have hql:bq<H.size:=hq.lt (u64s_ne (by simp;simp only[nS] at hsl;omega))
 have hne:bq≠ba:=by omega
 refine⟨v2.stepC,c239o v2 v2.rows.s v2.rows.s1 ok.step (by simp only[nS,nL];omega) (by simp only[nX,nT];omega) hsl.symm hpl.symm hreg hsl oa hpl hB2.le htp (by omega) hne (fun _=>off_one (by simpa using hne)) (fun _ b o e hb=>by cases e;omega) ?_ hsw fun H3 v3 o3 m3=>?_⟩
 ·have f1:DOff h b [ba]:=v.fresh (by simp;omega)
  exact (hdo.app f1).mono (by simp)
 ·rw[step_back ok hx] at o3
  exact k H3 _ v3 o3 ((Mod.ext e12).trans_new m3 (by simp;omega))
theorem over_app {A K C xs:List UInt64}{o:Nat}(h:o+xs.length<=K.length):over (A++K++C) (A.length+o) xs=A++over K o xs++C:=by
 unfold over
 rw[List.append_assoc A K C,List.take_append,List.drop_append,List.take_of_length_le (by omega),List.drop_of_length_le (by omega)]
 rw[show A.length+o-A.length=o from by omega,show A.length+o+xs.length-A.length=o+xs.length from by omega,List.nil_append]
 rw[List.take_append_of_le_length (by omega),List.drop_append_of_le_length (by omega)]
 simp
noncomputable def keptRow (h:Hdr)(t:Nat):List UInt64:=stepTape h t (st h t)++stepOut h t (st h t)
def Kept (h:Hdr)(S:Nat)(K:List UInt64)(n:Nat):Prop:=∀i,i<n->(K.drop (i*S)).take S=keptRow h i
theorem Kept.put {h:Hdr}{S:Nat}{K:List UInt64}{t:Nat}(w:Kept h S K t)(hl:(keptRow h t).length=S)(hk:(t+1)*S<=K.length):Kept h S (over K (t*S) (keptRow h t)) (t+1):=by
 intro i hi
 rw[Nat.succ_mul] at hk
 unfold over
 have htl:(K.take (t*S)).length=t*S:=by simp;omega
 rcases Nat.lt_or_ge i t with h1|h1
 ·have hm:=Nat.mul_le_mul_right S (show i+1<=t by omega)
  rw[Nat.succ_mul] at hm
  rw[List.append_assoc,List.drop_append_of_le_length (by omega),List.take_append_of_le_length (by simp;omega),List.drop_take,List.take_take,show min S (t*S-i*S)=S from by omega]
  exact w i h1
 ·have:i=t:=by omega
  subst this
  rw[List.append_assoc,List.drop_append,List.drop_of_length_le (by omega),List.nil_append,htl,Nat.sub_self,List.drop_zero,List.take_append_of_le_length (by omega),List.take_of_length_le (by omega)]
theorem Kept.less {h:Hdr}{S:Nat}{K:List UInt64}{n m:Nat}(w:Kept h S K n)(hm:m<=n):Kept h S K m:=fun i hi=>w i (by omega)
theorem putP_st (s:PS)(xs:List UInt64)(hl:xs.length=s.st.length):putP s.l 1 xs=({ s with st:=xs }:PS).l:=by
 have e1:s.st.drop xs.length=[]:=List.drop_of_length_le (by omega)
 have e3:putP s.l 1 xs=[s.th,xs++s.st.drop xs.length,s.sr,s.lr,s.ad,s.ax,s.ag,s.tp]:=rfl
 rw[e3,e1,List.append_nil];rfl
theorem slot3 {h:Hdr}(hm:h.mode=3)(ok:OkH h):slotOf h=((wr_ h.step+nS h:Nat):Int):=by
 have hr:=(ok_regs ok).1
 have:slotOf h=if h.mode=3 then (wr_ h.step:Int)+h.step.regs else (h.x.length:Int)+1:=rfl
 rw[this,if_pos hm];simp only[nS];omega
theorem c181 {b:DB}{h:Hdr}{d:DS}{s:PS}{K post:List UInt64}(v:Drv H b h d s K post)(t S:Nat)(hS:slotOf h=S)(ht:t*S<=1048576)(k:R (.int .i64 ((s.l.flatten.length+t*S:Nat):Int)) H) :
  Ru 181 [.pointer (some ⟨b.d,0,none⟩),.int .i64 (t:Int)] H R:=by
 obtain⟨bk,o,e,hb,r⟩:=v.place (i:=8) (by omega)
 have hf:=v.ar.few
 have hfl:s.l.flatten.length<=1048576:=by simp only[List.length_append] at hf;omega
 have h8:s.l.take 8=s.l:=rfl
 rw[h8] at r
 refine v181 _ _ _ ⟨_,_,_,by rw[Nat.zero_add];exact v.rd 13 rfl,bk,o,e,by omega,_,r,_,by rw[Nat.zero_add];exact v.rd 2 rfl,?_⟩
 have e2:(t:Int)*slotOf h=((t*S:Nat):Int):=by rw[hS];push_cast;rfl
 rw[e2]
 refine⟨by unfold I64;omega,by unfold I64;omega,?_⟩
 rw[<-Int.natCast_add];exact k
noncomputable def bact (h:Hdr)(d:DS)(k:Int):DS:=
 if k=8 then { d with at_:=d.at_+1,tapd:=d.tapd+1,live:=d.live+slotOf h,peak:=max d.peak (d.live+slotOf h) }
 else if k=5 then { d with pend:=d.l,losses:=d.losses+1,sweeps:=d.sweeps+1,loss:=lossOf h d.l.toNat,peak:=max d.peak (d.live+wr_ h.loss) }
 else { d with pend:=d.pend-1,at_:=d.pend-1,sweeps:=d.sweeps+1,live:=d.live-slotOf h }
def bnext (d:DS):Option Int:=if d.pend<0 then (if d.at_<d.l then some 8 else some 5) else if 0<d.pend then some 9 else none
structure BSem (h:Hdr)(d:DS)(s:PS)(K:List UInt64):Prop where
 th:s.th=h.th
 st:s.st=st h d.at_.toNat
 l:d.l=h.len
 at0:0<=d.at_
 at1:d.at_<=d.l
 p0 : -1<=d.pend
 p1:0<=d.pend->d.at_=d.pend
 z:d.pend<0->s.ag=zeros (nT h)
 gr:0<=d.pend->s.ax=(grad h d.l.toNat (d.l-d.pend).toNat).1/\s.ag=(grad h d.l.toNat (d.l-d.pend).toNat).2/\d.loss=lossOf h d.l.toNat
 kept:Kept h (wr_ h.step+nS h) K d.at_.toNat
 live:d.live=fixedOf h+slotOf h*d.at_
 pk:d.live<=d.peak
 pk2:d.peak<=h.words
theorem base_facts {h:Hdr}(hp:PlanOk h)(hm:h.mode=3):slotsOf h=h.len/\0<=h.len/\h.len<65536/\tapeOf h=(wr_ h.loss:Int)/\0<=fixedOf h:=by
 have ok:=hp.1
 have hl:=ok.len
 unfold lenOk at hl
 rw[if_neg (by omega)] at hl
 have h1:slotsOf h=h.len:=by unfold slotsOf;rw[if_pos hm]
 have h2:tapeOf h=if h.mode=3 then (wr_ h.loss:Int) else (wr_ h.step:Int)+wr_ h.loss:=rfl
 rw[if_pos hm] at h2
 have h7:=small_sum ok 7
 exact⟨h1,by omega,by omega,h2,h7.1⟩
theorem bact8 (h:Hdr)(d:DS):bact h d 8={ d with at_:=d.at_+1,tapd:=d.tapd+1,live:=d.live+slotOf h,peak:=max d.peak (d.live+slotOf h) }:=by unfold bact;rw[if_pos rfl]
theorem bact9 (h:Hdr)(d:DS):bact h d 9={ d with pend:=d.pend-1,at_:=d.pend-1,sweeps:=d.sweeps+1,live:=d.live-slotOf h }:=by unfold bact;rw[if_neg (by omega),if_neg (by omega)]
theorem bsem_tape {h:Hdr}{d:DS}{s s':PS}{K K':List UInt64}(sem:BSem h d s K)(hp:d.pend<0)(hlt:d.at_<d.l)(hw:d.live+slotOf h<=h.words)(h1:s'.th=h.th)(h2:s'.st=st h (d.at_+1).toNat)(h3:s'.ag=s.ag)
  (h4:Kept h (wr_ h.step+nS h) K' (d.at_+1).toNat):BSem h (bact h d 8) s' K':=by
 obtain⟨sth,sst,sl,at0,at1,p0,p1,sz,sgr,kept,slive,spk,spk2⟩:=sem
 rw[bact8]
 refine⟨h1,h2,sl,by dsimp only;omega,by dsimp only;omega,p0,fun hp'=>by dsimp only at hp';omega,fun _=>h3.trans (sz hp),fun hp'=>by dsimp only at hp';omega,h4,?_,by dsimp only;omega,by dsimp only;omega⟩
 dsimp only;rw[Int.mul_add,Int.mul_one];omega
theorem bsem_back {h:Hdr}{d:DS}{s s':PS}{K:List UInt64}(sem:BSem h d s K)(hp:0<d.pend)(h0:0<=slotOf h)(h1:s'.th=h.th)(h2:s'.st=st h (d.pend-1).toNat)(h3:s'.ax=headA h (pullStep h (d.pend-1).toNat (st h (d.pend-1).toNat) s.ax))(h4:s'.ag=addL s.ag (restA h (pullStep h (d.pend-1).toNat (st h (d.pend-1).toNat) s.ax))):BSem h (bact h d 9) s' K:=by
 obtain⟨sth,sst,sl,at0,at1,p0,p1,sz,sgr,kept,slive,spk,spk2⟩:=sem
 have hap:=p1 (by omega)
 rw[bact9]
 refine⟨h1,h2,sl,by dsimp only;omega,by dsimp only;omega,by dsimp only;omega,fun _=>rfl,fun hp'=>by dsimp only at hp';omega,fun _=>?_,kept.less (by dsimp only;omega),?_,by dsimp only;omega,spk2⟩
 ·obtain⟨g1,g2,g3⟩:=sgr (by omega)
  dsimp only
  have e1:(d.l-(d.pend-1)).toNat=(d.l-d.pend).toNat+1:=by omega
  rw[e1]
  have e2:d.l.toNat-((d.l-d.pend).toNat+1)=(d.pend-1).toNat:=by omega
  refine⟨?_,?_,g3⟩
  ·simp only[grad];rw[e2,<-g1];exact h3
  ·simp only[grad];rw[e2,<-g1,<-g2];exact h4
 ·dsimp only
  rw[slive,hap,Int.mul_sub,Int.mul_one];omega
theorem c116 {b:DB}{h:Hdr}{d:DS}{s:PS}{K post:List UInt64}(v:Drv H b h d s K post)(hm:h.mode=3)(sem:BSem h d s K)(cnt:DCnt d 2305843009213693952){kd:Int}(hk:bnext d=some kd)
  (k:∀H' s' K',Drv H' b h (bact h d kd) s' K' post->BSem h (bact h d kd) s' K'->Mod [b.d,b.m,b.w] H H'->R (.int .i64 0) H'):Ru 116 [.pointer (some ⟨b.d,0,none⟩),.agg (actC kd 0).toArray] H R:=by
 have ok:=v.ok.1
 obtain⟨f1,f2,f3,f4,f5⟩:=base_facts v.ok hm
 obtain⟨sl1,sl2,sl3,sl4⟩:=slots_small v.ok
 have hwd:=ok.words
 have hs3:=slot3 hm ok
 have hslot0:0<=slotOf h:=by rw[hs3];exact Int.natCast_nonneg _
 have sem':=sem
 obtain⟨sth,sst,sl,at0,at1,p0,p1,sz,sgr,kept,slive,spk,spk2⟩:=sem
 obtain⟨cp,ct,cl,cs⟩:=cnt
 obtain⟨t,hat⟩:∃t:Nat,d.at_=t:=⟨d.at_.toNat,by omega⟩
 have hatn:d.at_.toNat=t:=by omega
 rw[hatn] at sst kept
 have hr:=(ok_regs ok).1
 have hd:=ok.dims
 obtain⟨d1,d2,d3,d4,d5⟩:=ok.dims
 have hcases:(kd=8/\d.pend<0/\d.at_<d.l)\/(kd=5/\d.pend<0/\d.at_=d.l)\/(kd=9/\0<d.pend):=by
  unfold bnext at hk
  split at hk
  ·split at hk
   ·cases hk;exact .inl ⟨rfl,by omega,by omega⟩
   ·cases hk;exact .inr (.inl ⟨rfl,by omega,by omega⟩)
  ·split at hk
   ·cases hk;exact .inr (.inr ⟨rfl,by omega⟩)
   ·cases hk
 have hXS:nX h<=nS h:=by simp only[nX,nS];omega
 generalize hSS:wr_ h.step+nS h=S at *
 have hkl:(K.length:Int)=S*h.len:=by have:=v.kl;rw[f1,hs3] at this;exact this
 have hSpos:1<=S:=by simp only[nS] at hSS;omega
 have room:∀i:Nat,(i:Int)<=h.len->i*S<=K.length:=by
  intro i hi
  have:=Int.mul_le_mul_of_nonneg_left hi (show (0:Int)<=S by omega)
  rw[<-hkl] at this
  have e:(S:Int)*i=((i*S:Nat):Int):=by push_cast;rw[Int.mul_comm]
  omega
 have hfew:=v.ar.few
 have hall:(s.l.flatten++K++post).length=s.l.flatten.length+K.length+post.length:=by simp[Nat.add_assoc]
 have liveb:∀i:Nat,(i:Int)<=h.len->fixedOf h+slotOf h*i+tapeOf h<=h.words:=by
  intro i hi
  have:=Int.mul_le_mul_of_nonneg_left hi (show (0:Int)<=slotOf h by omega)
  rw[f1] at sl3
  omega
 refine v116 _ _ (actC kd 0) fun H1 p n1=>⟨fun c H'=>H'=H1/\c=decide (kd≠9),⟨_,n1.rd 0,fun h8=>⟨rfl,by rw[h8];rfl⟩,fun h8=>⟨_,n1.rd 0,rfl,?_⟩⟩,?_⟩
 ·unfold decP
  by_cases h5:kd=5
  ·rw[h5];rfl
  ·have:kd=9:=by omega
   rw[this];rfl
 rintro H1' c ⟨h1',rfl⟩
 subst h1'
 have v1:=v.ext n1.mod
 refine⟨fun H'=>H'=H1',⟨fun c H'=>H'=H1'/\c=false,⟨_,n1.rd 1,fun hne=>(hne rfl).elim,fun _=>⟨fun hc=>⟨_,n1.rd 0,rfl,?_⟩,fun _=>⟨rfl,rfl⟩⟩⟩,?_⟩,?_⟩
 ·have:kd=9:=by simpa using hc
  rw[this];rfl
 ·rintro H2 c ⟨h2,rfl⟩
  subst h2
  refine⟨fun hc=>(by cases hc),fun _=>⟨fun c H'=>H'=H2/\c=false,⟨fun hc=>⟨_,by rw[Nat.zero_add];exact v1.rd 19 rfl,fun hp=>?_,fun _=>⟨fun hc'=>?_,fun _=>⟨rfl,rfl⟩⟩⟩,fun hc=>⟨fun _=>⟨_,by rw[Nat.zero_add];exact v1.rd 19 rfl,rfl,?_⟩,fun hc'=>?_⟩⟩,?_⟩⟩
  ·have:kd≠9:=by simpa using hc
   omega
  ·rw[hc] at hc';cases hc'
  ·have:kd=9:=by simpa using hc
   have:¬d.pend<1:=by omega
   unfold decP;simpa using this
  ·rw[hc] at hc';cases hc'
  ·rintro H3 c ⟨h3,rfl⟩
   subst h3
   refine⟨fun hc=>(by cases hc),fun _=>⟨fun hc=>⟨_,n1.rd 0,_,by rw[Nat.zero_add];exact v1.rd 18 rfl,_,by rw[Nat.zero_add];exact v1.rd 17 rfl,fun hn=>?_,fun _=>rfl⟩,fun _=>rfl⟩⟩
   exfalso
   apply hn
   have:kd≠9:=by simpa using hc
   constructor
   ·intro h5;have h5':kd=5:=h5;omega
   ·intro h5;show kd=5;omega
 intro H2 h2
 subst h2
 have hp1:=n1.ge
 refine⟨_,n1.rd 0,fun h8=>?_,fun h8=>⟨fun h5=>?_,fun h5=>?_⟩⟩
 ·
  subst h8
  have hlt:d.at_<d.l:=by omega
  have hpneg:d.pend<0:=by omega
  have hlb:=liveb (t+1) (by push_cast;omega)
  have hls:d.live+slotOf h<=h.words:=by
   have e:slotOf h*((t+1:Nat):Int)=slotOf h*d.at_+slotOf h:=by push_cast;rw[Int.mul_add,Int.mul_one,hat]
   rw[e] at hlb;omega
  have hl0:0<=slotOf h*d.at_:=Int.mul_nonneg (by omega) at0
  refine⟨_,by rw[Nat.zero_add];exact v1.rd 16 rfl,_,by rw[Nat.zero_add];exact v1.rd 2 rfl,c108 (slotOf h) v1.met (by omega) (by omega) (by omega) (by omega) fun H3 o3 m3=>⟨_,rfl,?_⟩⟩
  have v3:=v1.setM _ _ o3 m3
  refine c180 v3 sth t (by exact hat) (by dsimp only;omega) fun H4 br c1 bt v4 or4 ot4 hne g1 g2 l1 l2 hc m4=>⟨_,_,_,_,_,_,rfl,_,by rw[Nat.zero_add];exact v4.rd 14 rfl,_,by rw[Nat.zero_add];exact v4.rd 18 rfl,?_⟩
  generalize hs':({ s with sr:=stepOut h t s.st }:PS)=s' at v4
  rw[sst] at or4 ot4
  have hstl:(st h t).length=nX h:=st_length hd _
  have hol:(stepOut h t (st h t)).length=nS h:=stepOut_length hd hstl
  have htl:(stepTape h t (st h t)).length=wr_ h.step:=by rw[stepTape,taped_length,wr_unr ok.step]
  have hw1:=wr_le ok.step
  have hr1:=room t (by omega)
  have hr2:=room (t+1) (by push_cast;omega)
  rw[Nat.succ_mul] at hr2
  show Ru 181 [.pointer (some ⟨b.d,0,none⟩),.int .i64 d.at_] H4 _
  rw[hat]
  refine c181 v4 t S (by rw[hs3]) (by omega) ⟨_,rfl,by rw[Nat.zero_add];exact v4.rd 14 rfl,u64s (stepOut h t (st h t)),by simp[hol],(or4.rowU hol.symm).2,?_⟩
  have hz01:=n1.mod.1;have hz3:=m3.1;have hz4:=m4.1
  have hBt:Buf 1 H4 H2.size (some ⟨bt,0,none⟩) (wr_ h.step) (wr_ h.step) (u64s (stepTape h t (st h t))):=⟨by simp[htl],Nat.le_refl _,.inr ⟨bt,rfl,by omega,ot4.1,by have:=ot4.2;simpa [htl] using this⟩⟩
  refine hBt.app' (by omega) (by simp[hol]) rfl u64s_one (by simp only[nS];omega) (by simp only[nS];omega) fun a' c' H5 T hB5 m5 hT _=>?_
  have hT':∀x∈T,H2.size<=x:=fun x hx=>(hT x hx).1
  have dT:DOff h b T:=v1.fresh hT'
  have v5:=v4.keep m5 dT
  refine⟨by rw[Nat.zero_add];exact v5.rd 14 rfl,?_⟩
  have hrow5:RowU H5 a' (wr_ h.step+nS h) (keptRow h t):=by have:=hB5.row;rwa [<-u64s_append] at this
  have hkl':(keptRow h t).length=S:=by simp[keptRow,htl,hol,hSS]
  have hTr:∀x∈T,x≠br:=by intro x hx e;have:=(hT x hx).2.2;cases this;omega
  have or5:Own H5 br (u64s (stepOut h t (st h t))):=or4.mod m5 (fun hx=>hTr br hx rfl)
  refine c177 v5.ar (s'.l.flatten.length+t*S) hrow5 (by omega) fun H6 ar6 m6=>⟨_,rfl,?_⟩
  rw[over_app (by omega)] at ar6
  have v6:Drv H6 b h _ s' (over K (t*S) (keptRow h t)) post:=v5.setW ar6 m6 rfl (over_length (by omega))
  have hf2:DOff h b [br]:=v1.fresh (by simp;omega)
  have hbw:br≠b.w:=fun e=>hf2.w (by simp[e])
  have or6:=or5.mod m6 (by simpa using hbw)
  have hnx:h.x.length=nX h:=rfl
  refine⟨_,_,_,by rw[Nat.zero_add];exact v6.rd 5 rfl,⟨Int.natCast_nonneg _,Int.ofNat_le.2 (Nat.le_trans hXS hc)⟩,?_⟩
  rw[Int.toNat_natCast]
  have hst':s'.st.length=nX h:=v6.lens.st
  refine c112 v6 1 (by omega) (or6.rowT (l:=nX h) (by rw[hol];exact hXS)) (by show _<=s'.st.length;rw[hst'];exact Nat.le_refl _) fun H7 v7 m7=>?_
  have ht1:((stepOut h t (st h t)).take (nX h))=st h (t+1):=rfl
  rw[ht1,putP_st _ _ (by rw[st_length hd,hst'])] at v7
  refine⟨_,by rw[Nat.zero_add];exact v7.rd 18 rfl,⟨by dsimp only;omega,by dsimp only;omega⟩,by rw[Nat.zero_add];exact v7.top.w 18 1 rfl,fun H8 h8=>?_⟩
  have o8:=v7.top.wr 18 (.int .i64 (d.at_+1))
  rw[Nat.zero_add] at h8
  have h8':H8=VC.wr H7 b.d 18 (.int .i64 (d.at_+1)):=h8
  rw[<-h8'] at o8
  have m8:Mod [b.d] H7 H8:=by rw[h8];exact Mod.refl.wr (.inl (by simp))
  have v8:=v7.setD (bact h d 8) (by rw[bact8];exact o8) m8 (by rw[bact8]) (by rw[bact8])
  refine k H8 _ _ v8 ?_ ?_
  ·have e1:(d.at_+1).toNat=t+1:=by omega
   subst hs'
   refine bsem_tape sem' hpneg hlt hls sth (by rw[e1]) rfl ?_
   rw[e1,hSS]
   exact kept.put hkl' (by rw[Nat.succ_mul];omega)
  ·have mA:Mod [b.d,b.m,b.w] H2 H4:=(m3.mono (by simp)).trans (m4.mono (by simp))
   have mB:Mod [b.d,b.m,b.w] H2 H5:=mA.trans_new m5 fun x hx=>.inr (hT' x hx)
   exact (Mod.ext n1.mod).trans (((mB.trans (m6.mono (by simp))).trans (m7.mono (by simp))).trans (m8.mono (by simp)))
 ·
  subst h5
  have hpl:d.pend<0/\d.at_=d.l:=by omega
  have hlb:=liveb t (by omega)
  rw[<-hat,<-slive] at hlb
  have hl0:0<=slotOf h*d.at_:=Int.mul_nonneg (by omega) at0
  refine c182 v1 sth 0 (by omega) (by omega) (by omega) (by omega) fun H3 lr ad v3 m3=>⟨_,by rw[Nat.zero_add];exact v3.rd 17 rfl,by rw[Nat.zero_add];exact v3.top.w 19 1 rfl,fun H4 h4=>?_⟩
  have o4:=v3.top.wr 19 (.int .i64 d.l)
  rw[Nat.zero_add] at h4
  have h4':H4=VC.wr H3 b.d 19 (.int .i64 d.l):=h4
  rw[<-h4'] at o4
  have m4:Mod [b.d] H3 H4:=by rw[h4];exact Mod.refl.wr (.inl (by simp))
  have hl:d.l.toNat=t:=by omega
  have hb:bact h d 5={ d with pend:=d.l,losses:=d.losses+1,sweeps:=d.sweeps+1,loss:=rg (lossOut h s.st) 0,peak:=max d.peak (d.live+wr_ h.loss) }:=by
   unfold bact;rw[if_neg (by omega),if_pos rfl,hl,sst];rfl
  have v4:=v3.setD (bact h d 5) (by rw[hb];exact o4) m4 (by rw[hb]) (by rw[hb])
  refine k H4 _ _ v4 ?_ ((Mod.ext n1.mod).trans (m3.trans (m4.mono (by simp))))
  rw[hb]
  refine⟨sth,by dsimp only;rw[hatn];exact sst,sl,at0,at1,by dsimp only;omega,fun _=>by dsimp only;omega,fun hp=>by dsimp only at hp;omega,fun _=>?_,by dsimp only;rw[hatn,hSS];exact kept,slive,by dsimp only;omega,by dsimp only;omega⟩
  dsimp only
  rw[Int.sub_self,hl,sst,sz hpl.1]
  exact⟨rfl,rfl,rfl⟩
 ·
  have hk9:kd=9:=by omega
  subst hk9
  have hpp:0<d.pend:=by omega
  have hap:=p1 (by omega)
  obtain⟨t',ht'⟩:∃t':Nat,t=t'+1:=⟨t-1,by omega⟩
  have hpt:d.pend-1=(t':Int):=by omega
  have hr1:=room t (by omega)
  rw[ht',Nat.succ_mul] at hr1
  refine⟨_,by rw[Nat.zero_add];exact v1.rd 19 rfl,⟨by omega,by omega⟩,by rw[Nat.zero_add];exact v1.top.w 19 1 rfl,fun H3 h3=>?_⟩
  have o3:=v1.top.wr 19 (.int .i64 (d.pend-1))
  rw[Nat.zero_add] at h3
  have h3':H3=VC.wr H2 b.d 19 (.int .i64 (d.pend-1)):=h3
  rw[<-h3'] at o3
  have m3:Mod [b.d] H2 H3:=by rw[h3];exact Mod.refl.wr (.inl (by simp))
  clear h3 h3'
  have v3:=v1.setD { d with pend:=d.pend-1 } o3 m3 rfl rfl
  refine⟨_,by rw[Nat.zero_add];exact v3.rd 19 rfl,by rw[Nat.zero_add];exact v3.top.w 18 1 rfl,fun H4 h4=>?_⟩
  have o4:=v3.top.wr 18 (.int .i64 (d.pend-1))
  rw[Nat.zero_add] at h4
  have h4':H4=VC.wr H3 b.d 18 (.int .i64 (d.pend-1)):=h4
  rw[<-h4'] at o4
  have m4:Mod [b.d] H3 H4:=by rw[h4];exact Mod.refl.wr (.inl (by simp))
  clear h4 h4'
  have v4:=v3.setD { d with pend:=d.pend-1,at_:=d.pend-1 } o4 m4 rfl rfl
  refine⟨_,by rw[Nat.zero_add];exact v4.rd 14 rfl,_,by rw[Nat.zero_add];exact v4.rd 18 rfl,_,by rw[Nat.zero_add];exact v4.rd 2 rfl,?_⟩
  show Ru 181 [.pointer (some ⟨b.d,0,none⟩),.int .i64 (d.pend-1)] H4 _
  rw[hpt] at v4 ⊢
  refine c181 v4 t' S (by rw[hs3]) (by omega) ⟨_,rfl,by rw[Nat.zero_add];exact v4.rd 2 rfl,by rw[Nat.zero_add];exact v4.rd 14 rfl,?_⟩
  rw[hs3]
  have hsum:s.l.flatten.length+t'*S+S<=s.l.flatten.length+K.length:=by omega
  refine c183 v4.ar (s.l.flatten.length+t'*S) S hsum fun a' c' H5 hB5 e5=>⟨_,_,_,_,rfl,_,by rw[Nat.zero_add];exact (v4.ext e5).rd 7 rfl,?_⟩
  have hmid:(((s.l.flatten++K++post).drop (s.l.flatten.length+t'*S)).take S)=keptRow h t':=by
   rw[List.append_assoc,List.drop_append,List.drop_of_length_le (by omega),List.nil_append,show s.l.flatten.length+t'*S-s.l.flatten.length=t'*S from by omega,List.drop_append_of_le_length (by omega),List.take_append_of_le_length (by simp;omega)]
   exact kept t' (by omega)
  rw[hmid] at hB5
  obtain⟨bq,rfl,hbq,oq⟩:=hB5.own (by omega)
  have hcS:=hB5.le
  have v5:=v4.ext e5
  have hw1:=wr_le ok.step
  have en:(S:Int)-h.step.regs=((wr_ h.step:Nat):Int):=by simp only[nS] at hSS;omega
  have hstl:(st h t').length=nX h:=st_length hd _
  rw[en,Int.toNat_natCast]
  have hwS:wr_ h.step<c':=by simp only[nS] at hSS;omega
  have hsA:slA (some ⟨bq,0,none⟩) (wr_ h.step) c' 1=some ⟨bq,wr_ h.step,none⟩:=by
   have:=slA_own (q:=bq) (m:=wr_ h.step) (n:=1) (l:=c') hwS
   rw[Nat.mul_one] at this;exact this
  rw[hsA]
  refine⟨⟨by omega,by omega⟩,⟨by omega,by omega⟩,⟨by omega,by omega⟩,?_⟩
  have hqf:DOff h b [bq]:=v4.fresh (by simpa using hbq)
  refine c184o v5 t' (st h t') hstl rfl (by omega) rfl oq hqf (by dsimp only;omega) fun H6 ad v6 o6 m6=>⟨_,_,_,by rw[Nat.zero_add];exact v6.rd 5 rfl,⟨by omega,by omega⟩,⟨⟨by omega,by simp only[nS] at hSS;omega⟩,by omega,by omega⟩,?_⟩
  have e7:Int.toNat ((wr_ h.step:Int)+(h.x.length:Int))-wr_ h.step=nX h:=by simp only[nX];omega
  rw[e7]
  have hrow6:=o6.rowT (l:=nX h) (by rw[stepIn_length hd hstl];simp only[nX,nS];omega)
  rw[stepIn_take hstl] at hrow6
  have hst6:=v6.lens.st
  refine c112 v6 1 (by omega) hrow6 (by show _<=s.st.length;exact Nat.le_of_eq hst6.symm) fun H7 v7 m7=>⟨_,by rw[Nat.zero_add];exact v7.rd 16 rfl,_,by rw[Nat.zero_add];exact v7.rd 2 rfl,?_⟩
  rw[putP_st _ _ (by rw[hstl];exact hst6.symm)] at v7
  have hl1:slotOf h<=slotOf h*d.at_:=by
   have:=Int.mul_le_mul_of_nonneg_left (show (1:Int)<=d.at_ by omega) (show 0<=slotOf h by omega)
   rwa [Int.mul_one] at this
  refine c185 (slotOf h) v7.met (by omega) (by dsimp only;omega) (by dsimp only;omega) (by dsimp only;omega) fun H8 o8 m8=>⟨_,rfl,?_⟩
  have v8:=v7.setM _ _ o8 m8
  have et:(d.pend-1).toNat=t':=by omega
  have v8':Drv H8 b h (bact h d 9) { s with st:=st h t',ad:=ad,ax:=headA h (pullStep h t' (st h t') s.ax),ag:=addL s.ag (restA h (pullStep h t' (st h t') s.ax)) } K post:=by rw[bact9,hpt];exact v8
  refine k H8 _ K v8' (bsem_back sem' hpp hslot0 sth (by rw[et]) (by rw[et]) (by rw[et])) ?_
  ·have mA:Mod [b.d,b.m,b.w] H2 H5:=((m3.mono (by simp)).trans (m4.mono (by simp))).thenExt e5
   have hz4:H2.size<=H4.size:=Nat.le_trans m3.1 m4.1
   have mB:Mod [b.d,b.m,b.w] H2 H6:=mA.trans_new m6 (by simp;omega)
   exact (Mod.ext n1.mod).trans ((mB.trans (m7.mono (by simp))).trans (m8.mono (by simp)))
end Go.VC
namespace Go.VC
open Go Go.Proofs
variable {H:Heap}{R:Value->Heap->Prop}
theorem v120n (h:R (.slice none 0 0) H):Ru 120 [.pointer none] H R:=vcr nn [.nil] h
theorem ptr3 {h:Hdr}(hm:h.mode=3)(b:DB):slotsPtr h b=.pointer none:=by unfold slotsPtr;rw[if_pos hm]
theorem c57b {b:DB}{h:Hdr}{d:DS}{s:PS}{K post:List UInt64}(v:Drv H b h d s K post)(hm:h.mode=3)
  (k:∀H',Ext H H'->R (.agg (spotC d.at_ d.pend none 0 0).toArray) H'):Ru 57 [.pointer (some ⟨b.d,0,none⟩)] H R:=by
 refine v57 _ _ fun H1 p n1=>?_
 have v1:=v.ext n1.mod
 refine⟨_,by rw[Nat.zero_add];exact v1.rd 18 rfl,_,by rw[Nat.zero_add];exact v1.rd 19 rfl,_,by rw[Nat.zero_add];exact v1.rd 15 rfl,?_⟩
 rw[ptr3 hm]
 refine v120n ⟨_,_,_,rfl,by rw[Nat.zero_add];exact v1.rd 19 rfl,by rw[Nat.zero_add];exact v1.rd 18 rfl,?_⟩
 exact cpy (cs:=spotC d.at_ d.pend none 0 0) (f:=fun cs=>.agg cs.toArray) n1.own rfl rfl spot_one n1.mod n1.ge k
structure EngG (H:Heap)(be:Nat)(b:DB)(h:Hdr)(d:DS)(tags:List Int)(ended failed:Bool)(s:PS)(K post:List UInt64):Prop where
 top:Own H be (engC h b.d ended failed)
 drv:Drv H b h d s K post
 off:DOff h b [be]
 sem:(h.mode≠3/\K=slotsW (nX h) (heldOf h tags)/\DSem h d tags s)\/(h.mode=3/\tags=[]/\BSem h d s K)
theorem EngS.g {H:Heap}{be:Nat}{b:DB}{h:Hdr}{d:DS}{tags:List Int}{ended failed:Bool}{s:PS}{post:List UInt64}(e:EngS H be b h d tags ended failed s post)(hm:h.mode≠3):EngG H be b h d tags ended failed s (slotsW (nX h) (heldOf h tags)) post:=
 ⟨e.top,e.drv,e.off,.inl ⟨hm,rfl,e.sem⟩⟩
theorem EngG.s {H:Heap}{be:Nat}{b:DB}{h:Hdr}{d:DS}{tags:List Int}{ended failed:Bool}{s:PS}{K post:List UInt64}(e:EngG H be b h d tags ended failed s K post)(hm:h.mode≠3):EngS H be b h d tags ended failed s post:=by
 obtain⟨t,dr,o,hs⟩:=e
 rcases hs with ⟨_,rfl,sem⟩|⟨h3,_⟩
 ·exact⟨t,dr,sem,o⟩
 ·exact (hm h3).elim
theorem EngG.b {H:Heap}{be:Nat}{b:DB}{h:Hdr}{d:DS}{tags:List Int}{ended failed:Bool}{s:PS}{K post:List UInt64}(e:EngG H be b h d tags ended failed s K post)(hm:h.mode=3):tags=[]/\BSem h d s K:=by
 rcases e.sem with ⟨h3,_⟩|⟨_,q⟩
 ·exact (h3 hm).elim
 ·exact q
theorem EngG.keep {S:List Nat}{H H':Heap}{be:Nat}{b:DB}{h:Hdr}{d:DS}{tags:List Int}{ended failed:Bool}{s:PS}{K post:List UInt64}(e:EngG H be b h d tags ended failed s K post)(m:Mod S H H')(h1:be∉S)(h2:DOff h b S):EngG H' be b h d tags ended failed s K post:=
 ⟨e.top.mod m h1,e.drv.keep m h2,e.off,e.sem⟩
theorem EngG.ext {H H':Heap}{be:Nat}{b:DB}{h:Hdr}{d:DS}{tags:List Int}{ended failed:Bool}{s:PS}{K post:List UInt64}(e:EngG H be b h d tags ended failed s K post)(m:Ext H H'):EngG H' be b h d tags ended failed s K post:=e.keep m (by simp) (DOff.nil h b)
theorem EngG.ne {H:Heap}{be:Nat}{b:DB}{h:Hdr}{d:DS}{tags:List Int}{ended failed:Bool}{s:PS}{K post:List UInt64}(e:EngG H be b h d tags ended failed s K post):be∉[b.d,b.m,b.w]:=by
 simp;exact⟨fun h=>e.off.d (by simp[h]),fun h=>e.off.m (by simp[h]),fun h=>e.off.w (by simp[h])⟩
theorem g16 {be:Nat}{b:DB}{h:Hdr}{d:DS}{tags:List Int}{ended failed:Bool}{s:PS}{K post:List UInt64}(e:EngG H be b h d tags ended failed s K post)
  (k:∀a c H',Buf 1 H' H.size a tags.length c (i64s tags)->Ext H H'->R (.agg (spotC d.at_ d.pend a tags.length c).toArray) H'):Ru 16 [.pointer (some ⟨be,0,none⟩)] H R:=by
 by_cases hm:h.mode=3
 ·obtain⟨rfl,sem⟩:=e.b hm
  refine v16 _ _ fun H1 p n1=>c54 (e.ext n1.mod).top (c57b (e.ext n1.mod).drv hm fun H2 e2=>⟨_,rfl,rfl,?_⟩)
  have o2:=n1.own.mod e2 (by simp)
  exact cpy (cs:=spotC d.at_ d.pend none 0 0) (f:=fun cs=>.agg cs.toArray) o2 rfl rfl spot_one (n1.mod.thenExt e2) n1.ge fun H' e'=>k none 0 H' Buf.nil e'
 ·exact c16 (e.s hm) hm k
noncomputable def gnext (h:Hdr)(d:DS)(tags:List Int)(ended:Bool):Option (Int × Int):=
 if h.mode=3 then (bnext d).map fun k=>(k,0) else enext h d tags ended
theorem g13 {be:Nat}{b:DB}{h:Hdr}{d:DS}{tags:List Int}{ended failed:Bool}{s:PS}{K post:List UInt64}(e:EngG H be b h d tags ended failed s K post)(k:R (.int .i64 d.l) H):Ru 13 [.pointer (some ⟨be,0,none⟩)] H R:=c13 e.top e.drv k
theorem c115 {be:Nat}{b:DB}{h:Hdr}{d:DS}{tags:List Int}{ended failed:Bool}{s:PS}{K post:List UInt64}(e:EngG H be b h d tags ended failed s K post)(hm:h.mode=3)
  (k:∀H',Ext H H'->R (actR ((bnext d).map fun k=>(k,0))) H'):Ru 115 [.pointer (some ⟨be,0,none⟩)] H R:=by
 refine v115 _ _ fun H1 p n1=>g16 (e.ext n1.mod) fun a c H2 hB e2=>⟨_,rfl,rfl,fun H3 p1 n3=>⟨rfl,spot_one,n3.own.w 0 3 rfl,fun H4 h4=>?_⟩⟩
 obtain⟨e4,o4⟩:=tmpE (cs:=spotC d.at_ d.pend a tags.length c) n3 rfl h4
 have e24:=(n1.mod.thenExt e2).thenExt e4
 have op:=n1.own.mod (e2.thenExt e4) (by simp)
 have fin:∀(kd:Int) (b:Bool),actR ((bnext d).map fun k=>(k,0))=.tuple #[.agg (actC kd 0).toArray,.bool b]->2=2/\(∀v∈[Value.int .i64 kd,.int .i64 0],One v)/\WOk H4 p 0 2/\∀H',H'=wrL H4 p 0 [.int .i64 kd,.int .i64 0]->∃cs:List Value,cs.length=2/\RdL H' p 0 cs/\R (.tuple #[.agg cs.toArray,.bool b]) H':=by
  intro kd b hb
  refine cpy (cs:=[.int .i64 kd,.int .i64 0]) (f:=fun cs=>.tuple #[.agg cs.toArray,.bool b]) op rfl rfl act_one e24 n1.ge fun H' e'=>?_
  have:=k H' e'
  rwa [hb] at this
 refine⟨_,o4.rd 1 rfl,fun hp=>⟨_,o4.rd 0 rfl,g13 ((e.ext n1.mod).ext (e2.thenExt e4)) ⟨_,rfl,o4.rd 0 rfl,fun hlt=>?_,fun hge=>⟨_,o4.rd 1 rfl,fun _=>?_,fun h'=>(h' hp).elim⟩⟩⟩,fun hp=>⟨_,o4.rd 1 rfl,fun h'=>(hp h').elim,fun _=>⟨_,o4.rd 1 rfl,fun hpos=>?_,fun hpos=>?_⟩⟩⟩
 ·exact fin 8 true (by unfold bnext;rw[if_pos hp,if_pos hlt];rfl)
 ·exact fin 5 true (by unfold bnext;rw[if_pos hp,if_neg hge];rfl)
 ·exact fin 9 true (by unfold bnext;rw[if_neg hp,if_pos hpos];rfl)
 ·exact fin 0 false (by unfold bnext;rw[if_neg hp,if_neg hpos];rfl)
theorem gnextc {H:Heap}{be:Nat}{b:DB}{h:Hdr}{d:DS}{tags:List Int}{ended failed:Bool}{s:PS}{K post:List UInt64}(e:EngG H be b h d tags ended failed s K post) :
  ∃g,nextF h.mode=.func (.func g) #[] #[]/\callable Tryz.prog g=true/\∀R:Value->Heap->Prop,(∀H',Ext H H'->R (actR (gnext h d tags ended)) H')->Ru g [.pointer (some ⟨be,0,none⟩)] H R:=by
 have hmo:=e.drv.ok.1.mode
 by_cases hm:h.mode=3
 ·refine⟨115,by unfold nextF;rw[if_neg (by omega),if_neg (by omega)],by kernel_rfl,fun R hR=>c115 e hm fun H' e'=>?_⟩
  have:=hR H' e'
  unfold gnext at this
  rwa [if_pos hm] at this
 ·obtain⟨g,h1,h2,h3⟩:=cnext (e.s hm) (by omega)
  refine⟨g,h1,h2,fun R hR=>h3 R fun H' e'=>?_⟩
  have:=hR H' e'
  unfold gnext at this
  rwa [if_neg hm] at this
theorem g52 {be:Nat}{b:DB}{h:Hdr}{d:DS}{tags:List Int}{ended:Bool}{s:PS}{K post:List UInt64}(e:EngG H be b h d tags ended false s K post)
  (k:∀H',Ext H H'->R (.bool (gnext h d tags ended).isNone) H'):Ru 52 [.pointer (some ⟨be,0,none⟩)] H R:=by
 obtain⟨g,hg,hc,hr⟩:=gnextc e
 refine v52 _ _ ⟨false,e.top.rd 4 rfl,by simp,fun _=>⟨_,e.top.rd 2 rfl,g,_,_,hg,hc,hr _ fun H1 e1=>?_⟩⟩
 obtain⟨x,y,c,hs,hcc,_⟩:=actR_shape (gnext h d tags ended)
 refine⟨actC x y,rfl,c,hs,fun H2 p n2=>⟨rfl,act_one,n2.own.w 0 2 rfl,fun H3 h3=>?_⟩⟩
 have:(!c)=(gnext h d tags ended).isNone:=by rw[hcc];cases gnext h d tags ended<;>rfl
 rw[this]
 exact k H3 (e1.thenExt (tmpE (cs:=actC x y) n2 rfl h3).1)
theorem g11 {be:Nat}{b:DB}{h:Hdr}{d:DS}{tags:List Int}{ended:Bool}{s:PS}{K post:List UInt64}(e:EngG H be b h d tags ended false s K post)
  (k:∀H',Ext H H'->R (.bool ((gnext h d tags ended).isNone && decide (h.mode=2) && !ended)) H'):Ru 11 [.pointer (some ⟨be,0,none⟩)] H R:=by
 refine v11 _ _ (g52 e fun H1 e1=>⟨_,rfl,fun h1=>⟨_,(e.ext e1).top.rd 1 rfl,fun h2=>⟨ended,(e.ext e1).top.rd 3 rfl,?_⟩,fun h2=>?_⟩,fun h1=>?_⟩)
 ·have:=k H1 e1;simp only[h1,h2,decide_true,Bool.true_and] at this;exact this
 ·have:=k H1 e1;simp only[h2,decide_false,Bool.and_false,Bool.false_and] at this;exact this
 ·have:=k H1 e1;simp only[h1,Bool.false_and] at this;exact this
theorem g31 {be:Nat}{b:DB}{h:Hdr}{d:DS}{tags:List Int}{ended:Bool}{s:PS}{K post:List UInt64}(e:EngG H be b h d tags ended false s K post)
  (k:∀H',Ext H H'->R (.bool ((gnext h d tags ended).isNone && decide (d.pend=0))) H'):Ru 31 [.pointer (some ⟨be,0,none⟩)] H R:=by
 refine v31 _ _ (g52 e fun H1 e1=>⟨_,rfl,fun h1=>g16 (e.ext e1) fun a c H2 hB e2=>⟨_,rfl,rfl,trivial,_,rfl,_,rfl,?_⟩,fun h1=>?_⟩)
 ·have:=k H2 (e1.thenExt e2);simp only[h1,Bool.true_and] at this;exact this
 ·have:=k H1 e1;simp only[h1,Bool.false_and] at this;exact this
noncomputable def gact (h:Hdr)(d:DS)(tags:List Int)(k n:Int):DS × List Int:=
 if h.mode=3 then (bact h d k,tags) else match mstep (dMS d tags) k n with
  | some m=>(dact h d k n m,m.tags)
  | none=>(d,tags)
theorem gact3 {h:Hdr}(hm:h.mode=3)(d:DS)(tags:List Int)(k n:Int):gact h d tags k n=(bact h d k,tags):=by unfold gact;rw[if_pos hm]
theorem gactS {h:Hdr}(hm:h.mode≠3){d:DS}{tags:List Int}{k n:Int}{m:MS1}(e:mstep (dMS d tags) k n=some m):gact h d tags k n=(dact h d k n m,m.tags):=by unfold gact;rw[if_neg hm,e]
theorem c53b {b:DB}{h:Hdr}{d:DS}{s:PS}{K post:List UInt64}(v:Drv H b h d s K post)(hm:h.mode=3)(sem:BSem h d s K)(cnt:DCnt d 2305843009213693952){kd:Int}(hk:bnext d=some kd)
  (k:∀H' s' K',Drv H' b h (bact h d kd) s' K' post->BSem h (bact h d kd) s' K'->Mod [b.d,b.m,b.w] H H'->R (.int .i64 0) H'):Ru 53 [.pointer (some ⟨b.d,0,none⟩),.agg (actC kd 0).toArray] H R:=by
 refine v53 _ _ (actC kd 0) fun H1 p n1=>c110 (v.ext n1.mod) ⟨_,rfl,fun _=>⟨_,rfl,n1.rdL,c116 (v.ext n1.mod) hm sem cnt hk fun H2 s' K' v2 sem2 m2=>⟨_,rfl,k H2 s' K' v2 sem2 ((Mod.ext n1.mod).trans m2)⟩⟩,fun h'=>by simp[hm] at h'⟩
theorem g12 {be:Nat}{b:DB}{h:Hdr}{d:DS}{tags:List Int}{ended:Bool}{s:PS}{K post:List UInt64}(e:EngG H be b h d tags ended false s K post)
  (cnt:DCnt d 2305843009213693952) (hleg:h.mode≠3->∀k n,gnext h d tags ended=some (k,n)->∃m,mstep (dMS d tags) k n=some m)
  (k1:gnext h d tags ended=none->∀H',Ext H H'->R (.tuple #[.agg (actC 0 0).toArray,.bool false,.int .i64 0]) H')
  (k2:∀k n,gnext h d tags ended=some (k,n)->∀H' s' K',EngG H' be b h (gact h d tags k n).1 (gact h d tags k n).2 ended false s' K' post->Mod [b.d,b.m,b.w] H H'->R (.tuple #[.agg (actC k n).toArray,.bool true,.int .i64 0]) H') :
  Ru 12 [.pointer (some ⟨be,0,none⟩)] H R:=by
 refine v12 _ _ fun H1 p n1=>⟨false,(e.ext n1.mod).top.rd 4 rfl,by simp,fun _=>?_⟩
 have e1:=e.ext n1.mod
 obtain⟨g,hg,hc,hr⟩:=gnextc e1
 refine⟨_,e1.top.rd 2 rfl,g,_,_,hg,hc,hr _ fun H2 x2=>?_⟩
 obtain⟨x,y,c,hs,hcc,hso,hno⟩:=actR_shape (gnext h d tags ended)
 refine⟨actC x y,rfl,c,hs,fun H3 q n3=>⟨rfl,act_one,n3.own.w 0 2 rfl,fun H4 h4=>?_⟩⟩
 obtain⟨x24,oq⟩:=tmpE (cs:=actC x y) n3 rfl h4
 clear h4
 have x14:=x2.thenExt x24
 have op:=n1.own.mod x14 (by simp)
 have x04:=n1.mod.thenExt x14
 have hp:=n1.ge
 refine⟨fun hc'=>?_,fun hc'=>?_⟩
 ·have hnone:gnext h d tags ended=none:=by rw[hcc] at hc';cases hh:gnext h d tags ended<;>simp_all
  exact cpy (cs:=actC 0 0) (f:=fun cs=>.tuple #[.agg cs.toArray,.bool false,.int .i64 0]) op rfl rfl act_one x04 hp (k1 hnone)
 ·have hsome:gnext h d tags ended=some (x,y):=by
   rw[hcc] at hc'
   cases hh:gnext h d tags ended with
   | none=>rw[hh] at hc';simp at hc'
   | some q=>rw[hso q hh]
  have e4:=e.ext x04
  have hlow:∀z∈[b.d,b.m,b.w],z<H.size:=by
   intro z hz
   simp only[List.mem_cons,List.not_mem_nil,or_false] at hz
   rcases hz with rfl|rfl|rfl
   ·exact e.drv.top.lt (by unfold drvC;simp[i64s,planL])
   ·exact e.drv.met.lt (by simp[meterC])
   ·exact e.drv.ar.row.lt (u64s_ne e.drv.words)
  have hqS:q∉[b.d,b.m,b.w]:=fun hz=>by have:=hlow q hz;have:=n3.ge;have:=x2.1;have:=n1.mod.1;omega
  have hpS:p∉[b.d,b.m,b.w]:=fun hz=>by have:=hlow p hz;omega
  have key:Ru 53 [.pointer (some ⟨b.d,0,none⟩),.agg (actC x y).toArray] H4 fun r H5=>r=.int .i64 0/\∃s' K',EngG H5 be b h (gact h d tags x y).1 (gact h d tags x y).2 ended false s' K' post/\Mod [b.d,b.m,b.w] H4 H5:=by
   by_cases hm:h.mode=3
   ·obtain⟨rfl,sem⟩:=e4.b hm
    have hb:bnext d=some x/\y=0:=by
     unfold gnext at hsome
     rw[if_pos hm] at hsome
     cases hb:bnext d with
     | none=>rw[hb] at hsome;cases hsome
     | some q=>rw[hb] at hsome;cases hsome;exact⟨rfl,rfl⟩
    obtain⟨hb,rfl⟩:=hb
    rw[gact3 hm]
    exact c53b e4.drv hm sem cnt hb fun H5 s' K' v5 sem5 m5=>⟨rfl,s',K',⟨e4.top.mod m5 e.ne,v5,e.off,.inr ⟨hm,rfl,sem5⟩⟩,m5⟩
   ·obtain⟨m,hms⟩:=hleg hm x y hsome
    rw[gactS hm hms]
    have eS:=e4.s hm
    exact c53 eS.drv hm eS.sem cnt hms fun H5 s' v5 sem5 m5=>⟨rfl,s',_,⟨e4.top.mod m5 e.ne,v5,e.off,.inl ⟨hm,rfl,sem5⟩⟩,m5⟩
  refine⟨_,e4.top.rd 0 rfl,actC x y,rfl,oq.1,Runs.mono key ?_⟩
  rintro _ H5 ⟨rfl,s',K',e5,m5⟩
  refine⟨_,rfl,by simp,fun _=>?_⟩
  have op5:=op.mod m5 hpS
  refine⟨actC x y,rfl,(oq.mod m5 hqS).1,rfl,act_one,op5.w 0 2 rfl,fun H6 h6=>⟨actC x y,rfl,by rw[h6];exact rdL_wrL op5.2,?_⟩⟩
  have m6:Mod [p] H5 H6:=by rw[h6];exact Mod.refl.wrL (.inl (by simp))
  have hpb:be≠p:=by have:=e.top.lt (by simp[engC]);omega
  exact k2 x y hsome H6 s' K' (e5.keep m6 (by simpa using hpb) (e.drv.fresh (by simpa using hp))) (((Mod.ext x04).trans m5).trans_new m6 (by simp;omega))
theorem bact5 (h:Hdr)(d:DS):bact h d 5={ d with pend:=d.l,losses:=d.losses+1,sweeps:=d.sweeps+1,loss:=lossOf h d.l.toNat,peak:=max d.peak (d.live+wr_ h.loss) }:=by unfold bact;rw[if_neg (by omega),if_pos rfl]
theorem bcnt_step {h:Hdr}{d:DS}{k B:Int}(c:DCnt d B):DCnt (bact h d k) (B+1):=by
 obtain⟨p,t,l,s⟩:=c
 unfold bact
 refine⟨?_,?_,?_,?_⟩<;>(repeat' split)<;>dsimp only<;>omega
def plM (d:DS):Int:=if d.pend<0 then 2*d.l+1-d.at_ else d.pend
theorem plM_lo {h:Hdr}{d:DS}{s:PS}{K:List UInt64}(w:BSem h d s K):0<=plM d/\plM d<=2*d.l+1:=by
 have:=w.at0;have:=w.at1;have:=w.p0;have:=w.p1
 unfold plM;split<;>omega
theorem plM_step {h:Hdr}{d:DS}{s:PS}{K:List UInt64}(w:BSem h d s K){k:Int}(e:bnext d=some k):plM (bact h d k)<plM d:=by
 have:=w.at0;have:=w.at1;have:=w.p0;have:=w.p1
 unfold bnext at e
 split at e
 ·split at e
  ·cases e;rw[bact8];unfold plM;dsimp only;(repeat' split)<;>omega
  ·cases e;rw[bact5];unfold plM;dsimp only;(repeat' split)<;>omega
 ·split at e
  ·cases e;rw[bact9];unfold plM;dsimp only;(repeat' split)<;>omega
  ·cases e
theorem c17b {be:Nat}{b:DB}{h:Hdr}{d:DS}{tags:List Int}{ended:Bool}{s:PS}{K post:List UInt64}(e:EngG H be b h d tags ended false s K post)(hm:h.mode=3){B:Int}(cnt:DCnt d B)(hB:0<=B/\B<=1152921504606846976)
  (k:∀n d' s' K' H',bnext d'=none->d'.l=d.l->EngG H' be b h d' tags ended false s' K' post->Mod [b.d,b.m,b.w] H H'->R (.tuple #[.int .i64 n,.int .i64 0]) H'):Ru 17 [.pointer (some ⟨be,0,none⟩)] H R:=by
 obtain⟨rfl,sem0⟩:=e.b hm
 have hM0:=plM_lo sem0
 have hlen:=(base_facts e.drv.ok hm).2
 have hl0:=sem0.l
 let J:Nat->Int->Heap->Prop:=fun N n H'=>∃d' s' K',N=(plM d').toNat/\EngG H' be b h d' [] ended false s' K' post/\d'.l=d.l/\DCnt d' (B+n)/\0<=n/\n<=plM d-plM d'/\Mod [b.d,b.m,b.w] H H'
 refine v17 _ _ ⟨fun n H'=>∃N,J N n H',fun n H'=>least fun N=>J N n H',⟨_,d,s,K,rfl,e,rfl,by simpa using cnt,by omega,by omega,Mod.refl⟩,?_⟩
 intro H1 n hI
 obtain⟨N,hJ⟩:=hI
 obtain⟨d1,s1,K1,hN,e1,l1,c1,n0,nle,m1⟩:=least_spec (p:=fun N=>J N n H1) hJ
 obtain⟨_,sem1⟩:=e1.b hm
 have hM1:=plM_lo sem1
 refine g12 e1 (c1.mono (by omega)) (fun h3=>(h3 hm).elim) ?_ ?_
 ·intro hnone H2 x2
  have hb:bnext d1=none:=by
   unfold gnext at hnone
   rw[if_pos hm] at hnone
   cases hb:bnext d1 with
   | none=>rfl
   | some q=>rw[hb] at hnone;cases hnone
  refine⟨_,rfl,_,_,rfl,fun H3 q n3=>⟨rfl,act_one,n3.own.w 0 2 rfl,fun H4 h4=>?_⟩⟩
  obtain⟨x4,_⟩:=tmpE n3 rfl h4
  have x14:=x2.thenExt x4
  refine⟨fun hc=>(hc rfl).elim,fun _=>⟨fun hc=>by simp at hc,fun _=>?_⟩⟩
  exact k n d1 s1 K1 H4 hb l1 (e1.ext x14) (m1.thenExt x14)
 ·intro x y hxy H2 s2 K2 e2 m2
  rw[gact3 hm] at e2
  have hb:bnext d1=some x:=by
   unfold gnext at hxy
   rw[if_pos hm] at hxy
   cases hb:bnext d1 with
   | none=>rw[hb] at hxy;cases hxy
   | some q=>rw[hb] at hxy;cases hxy;rfl
  have hlt:=plM_step sem1 hb
  obtain⟨_,sem2⟩:=e2.b hm
  have hM2:=plM_lo sem2
  dsimp only at hM2 e2
  have hl2:(bact h d1 x).l=d1.l:=by unfold bact;(repeat' split)<;>rfl
  refine⟨_,rfl,_,_,rfl,fun H3 q n3=>⟨rfl,act_one,n3.own.w 0 2 rfl,fun H4 h4'=>?_⟩⟩
  obtain⟨x4,_⟩:=tmpE (cs:=actC x y) n3 rfl h4'
  refine⟨fun hc=>(hc rfl).elim,fun _=>⟨fun _=>?_,fun hc=>by simp at hc⟩⟩
  have hJ':J (plM (bact h d1 x)).toNat (n+1) H4:=⟨_,s2,K2,rfl,e2.ext x4,hl2.trans l1,(bcnt_step c1).mono (by omega),by omega,by omega,(m1.trans m2).thenExt x4⟩
  refine⟨by unfold I64;omega,⟨_,hJ'⟩,?_⟩
  exact Nat.lt_of_lt_of_eq (least_lt (p:=fun N=>J N (n+1) H4) hJ' (by omega)) hN.symm
theorem bsem0 {h:Hdr}(hp:PlanOk h)(hm:h.mode=3):BSem h (d0 h (fixedOf h)) (s0 h) (k0 h):=by
 obtain⟨f1,f2,f3,f4,f5⟩:=base_facts hp hm
 obtain⟨a,b,c,d⟩:=slots_small hp
 have ht:=parts_small hp.1 (tapeOf h) (List.getElem_mem _)
 refine⟨rfl,rfl,rfl,by simp[d0],by simpa [d0] using f2,by simp[d0],fun h0=>by simp[d0] at h0,fun _=>rfl,fun h0=>by simp[d0] at h0,fun i hi=>by simp[d0] at hi,by simp[d0],by simp[d0],?_⟩
 show fixedOf h<=h.words
 omega
theorem g9 (h:Hdr)(p:HAt)(r:HRows H h p)
  (k1:PlanOk h->∀H' be b tags,(h.mode≠3->tags=tags0 h)->EngG H' be b h (d0 h (fixedOf h)) tags false false (s0 h) (k0 h) (post0 h)->DIn h b H.size->H.size<=be->be<H'.size->Ext H H'->(∀S,(∀x∈S,H'.size<=x)->DOff h b S)->R (.tuple #[.pointer (some ⟨be,0,none⟩),.int .i64 0]) H')
  (k2:∀n H',n≠0->¬PlanOk h->Ext H H'->R (.tuple #[.pointer none,.int .i64 n]) H'):Ru 9 [.agg (hdrC h p).toArray] H R:=by
 refine c9g h p r (fun hp H' be b o v f di h1 h2 e hS=>?_) k2
 by_cases hm:h.mode=3
 ·exact k1 hp H' be b [] (fun h3=>(h3 hm).elim) ⟨o,v,f,.inr ⟨hm,rfl,bsem0 hp hm⟩⟩ di h1 h2 e hS
 ·exact k1 hp H' be b (tags0 h) (fun _=>rfl) ⟨o,v,f,.inl ⟨hm,k0_slots h hp hm,dsem0 hp hm⟩⟩ di h1 h2 e hS
theorem g18 {be:Nat}{b:DB}{h:Hdr}{d:DS}{tags:List Int}{ended failed:Bool}{s:PS}{K post:List UInt64}(e:EngG H be b h d tags ended failed s K post)(hp:d.pend=0)
  (k:∀H' a1 c1 a2 c2,Buf 1 H' H.size a1 (nX h) c1 (u64s s.ax)->Buf 1 H' H.size a2 (nT h) c2 (u64s s.ag)->Ext H H'->R (.tuple #[.agg [.int .u64 (d.loss.toNat:Int),.slice a1 (nX h) c1,.slice a2 (nT h) c2].toArray,.int .i64 0]) H'):Ru 18 [.pointer (some ⟨be,0,none⟩)] H R:=
 c18c e.top e.drv hp k
end Go.VC
namespace Go.VC
open Go Go.Proofs
variable {H:Heap}{R:Value->Heap->Prop}
theorem agg3_one {w:Int}{a b:Option Addr}{l m c d:Nat}:∀x∈[Value.int .u64 w,.slice a l c,.slice b m d],One x:=by
 intro x hx;simp only[List.mem_cons,List.not_mem_nil,or_false] at hx;rcases hx with rfl|rfl|rfl<;>trivial
def cntL (d:DS):List Int:=[d.plain,d.tapd,d.losses,d.sweeps]
theorem c87 {b:DB}{h:Hdr}{d:DS}{P:List (List UInt64)}{K post:List UInt64}(v:DrvM H b h d P K post)(k:∀H',Ext H H'->R (.agg (i64s (cntL d)).toArray) H'):Ru 87 [.pointer (some ⟨b.d,0,none⟩)] H R:=by
 refine v87 _ _ fun H2 q n2=>⟨i64s (cntL d),rfl,?_,?_⟩
 ·have v2:=v.ext n2.mod
  exact⟨v2.top.rd 20 rfl,v2.top.rd 21 rfl,v2.top.rd 22 rfl,v2.top.rd 23 rfl,trivial⟩
 ·exact cpy (f:=fun cs=>.agg cs.toArray) n2.own rfl rfl i64s_one n2.mod n2.ge k
theorem c42 {be:Nat}{b:DB}{h:Hdr}{d:DS}{tags:List Int}{ended failed:Bool}{s:PS}{K post:List UInt64}(e:EngG H be b h d tags ended failed s K post)
  (k:∀H',Ext H H'->R (.agg (i64s (cntL d)).toArray) H'):Ru 42 [.pointer (some ⟨be,0,none⟩)] H R:=by
 refine v42 _ _ fun H1 p n1=>c54 (e.ext n1.mod).top (c87 (e.ext n1.mod).drv fun H2 e2=>⟨i64s (cntL d),rfl,rfl,?_⟩)
 exact cpy (f:=fun cs=>.agg cs.toArray) (n1.own.mod e2 (by simp)) rfl rfl i64s_one (n1.mod.thenExt e2) n1.ge k
theorem ahead_inv {h:Hdr}(hm:h.mode=2):RunInv h false Ahead (fun d tags=>aM d.l d.at_ tags):=by
 refine⟨fun d tags ah=>(aM_bound ah.inv).1,fun d tags ah=>?_⟩
 have hnx:enext h d tags false=strideNext d.l false d.at_ (-1) tags:=enext_ahead hm ah.pd false
 rcases a_step ah.inv with hfull|⟨kk,nn,m,s1,s2,s3,s4,s5⟩
 ·left;rw[hnx,hfull.next];rfl
 ·have s2':mstep (dMS d tags) kk nn=some m:=by
   have:dMS d tags=⟨d.at_,-1,d.l,0,tags⟩:=by simp only[dMS,ah.pd]
   rw[this];exact s2
  exact .inr ⟨kk,nn,m,by rw[hnx];exact s1 false,s2',ah.step s2' s3 s4 s5,s5⟩
theorem ahead_full {h:Hdr}(hm:h.mode=2){d:DS}{tags:List Int}(ah:Ahead d tags)(hn:enext h d tags false=none):AFull d.l d.at_ tags:=by
 rcases a_step ah.inv with hfull|⟨kk,nn,m,s1,_⟩
 ·exact hfull
 ·rw[enext_ahead hm ah.pd false,s1 false] at hn;cases hn
structure EDone (H:Heap)(be:Nat)(b:DB)(h:Hdr)(l:Nat)(d:DS)(tags:List Int)(ended:Bool)(s:PS)(K post:List UInt64):Prop where
 eng:EngG H be b h d tags ended false s K post
 pend:d.pend=0
 stop:gnext h d tags ended=none
 len:d.l=l
 end_:h.mode≠2\/ended=true
theorem EDone.grad {H:Heap}{be:Nat}{b:DB}{h:Hdr}{l:Nat}{d:DS}{tags:List Int}{ended:Bool}{s:PS}{K post:List UInt64}(w:EDone H be b h l d tags ended s K post) :
  s.ax=(grad h l l).1/\s.ag=(grad h l l).2/\d.loss=lossOf h l:=by
 have hp:=w.pend
 have hg:s.ax=(VC.grad h d.l.toNat (d.l-d.pend).toNat).1/\s.ag=(VC.grad h d.l.toNat (d.l-d.pend).toNat).2/\d.loss=lossOf h d.l.toNat:=by
  rcases w.eng.sem with ⟨_,_,q⟩|⟨_,_,q⟩
  ·exact q.gr (by omega)
  ·exact q.gr (by omega)
 obtain⟨g1,g2,g3⟩:=hg
 rw[w.len,w.pend] at g1 g2
 rw[w.len] at g3
 have hs:((l:Int)-0).toNat=l:=by omega
 rw[hs] at g1 g2
 rw[Int.toNat_natCast] at g1 g2 g3
 exact⟨g1,g2,g3⟩
theorem gnext_s {h:Hdr}(hm:h.mode≠3)(d:DS)(tags:List Int)(ended:Bool):gnext h d tags ended=enext h d tags ended:=by unfold gnext;rw[if_neg hm]
theorem c22 (h:Hdr)(hp:HAt)(r:HRows H h hp)(ok:PlanOk h)(x1:Int)(hx1:0<=x1/\x1<=65535)(l:Nat)(hl:(l:Int)=if h.mode=2 then x1 else h.len)
  (k:∀H' a1 c1 a2 c2 d,(h.mode=1->∃tags,ERun h false (d0 h (fixedOf h)) (tags0 h) d tags)->RowU H' a1 (nX h) (grad h l l).1->RowU H' a2 (nT h) (grad h l l).2->Ext H H'->
   R (.tuple #[.agg [.int .u64 ((lossOf h l).toNat:Int),.slice a1 (nX h) c1,.slice a2 (nT h) c2].toArray,.agg (i64s (cntL d)).toArray,.bool true]) H'):Ru 22 [.agg (hdrC h hp).toArray,.int .i64 x1] H R:=by
 have hm:=ok.1.mode
 refine v22 (hdrC h hp) x1 fun H1 p n1 H2 p1 n2 H3 p2 n3=>⟨hdrC h hp,rfl,(n2.mod.new n3).rdL (by simp) n1.rdL,g9 h hp (r.ext ((n1.mod.new n2).new n3)) (fun _ H4 be b tg htg eng di hbe0 hbe1 e4 offA=>⟨_,_,rfl,?_⟩) fun n H' _ hno _=>(hno ok).elim⟩
 refine⟨fun H'=>H'=H4,⟨fun h'=>(h' rfl).elim,fun _=>⟨_,rfl,fun h'=>by simp at h',fun _=>rfl⟩⟩,?_⟩
 intro H4' h4
 subst h4
 have hS:∀x∈[b.d,b.m,b.w,be],H3.size<=x:=by
  intro x hx
  simp only[List.mem_cons,List.not_mem_nil,or_false] at hx
  rcases hx with rfl|rfl|rfl|rfl
  ·exact di.d
  ·exact di.m
  ·exact di.w
  ·exact hbe0
 have hp1:p1<H2.size:=n2.lt
 have hp2:p2<H3.size:=n3.lt
 have hz23:=n3.mod.1
 have hp12:p1<p2:=by have:=n3.ge;omega
 have e03:Ext H H3:=(n1.mod.new n2).new n3
 have e04:Ext H H4':=e03.thenExt e4
 have keep:∀{x:Nat} {cs:List Value} {H':Heap},x<H3.size->Own H4' x cs->Mod [b.d,b.m,b.w,be] H4' H'->Own H' x cs:=fun hx o m=>o.mod m fun hmem=>by have:=hS _ hmem;omega
 have toExt:∀{H':Heap},Mod [b.d,b.m,b.w,be] H4' H'->Ext H H':=fun m=>e04.trans_new m fun x hx=>.inr (Nat.le_trans e03.1 (hS x hx))
 have o1:Own H4' p1 [.int .u64 0,.slice none 0 0,.slice none 0 0]:=(n2.own.mod n3.mod (by simp)).mod e4 (by simp)
 have o2:Own H4' p2 [.int .i64 0,.int .i64 0,.int .i64 0,.int .i64 0]:=n3.own.mod e4 (by simp)
 have sub3:∀x∈[b.d,b.m,b.w],x∈[b.d,b.m,b.w,be]:=by simp +contextual
 generalize hpA:post0 h=pa at *
 let D:Heap->Prop:=fun H'=>∃d tags s K ended,EDone H' be b h l d tags ended s K pa/\(h.mode=1->ERun h false (d0 h (fixedOf h)) (tags0 h) d tags)/\Mod [b.d,b.m,b.w,be] H4' H'
 let W:Int->Heap->Prop:=fun n H'=>∃d tags s,EngS H' be b h d tags false false s pa/\d.l=n/\Ahead d tags/\AFull d.l d.at_ tags/\enext h d tags false=none/\Mod [b.d,b.m,b.w,be] H4' H'
 have ahead_run:∀{Q:Value->Heap->Prop} {d tags s H'},h.mode=2->EngS H' be b h d tags false false s pa->Ahead d tags->Mod [b.d,b.m,b.w,be] H4' H'->(∀n H'',W d.l H''->Q (.tuple #[.int .i64 n,.int .i64 0]) H'')->Ru 17 [.pointer (some ⟨be,0,none⟩)] H' Q:=by
  intro Q d tags s H' hm2 eg ah m kk
  have ab:=aM_bound ah.inv
  have l1:=ah.inv.mok.l1
  have l0:=ah.inv.mok.l0
  dsimp only at l1 l0
  refine c17 eg (.inr hm2) (ahead_inv hm2) ah ah.cnt (by omega) (by omega) fun n d' tags' s' H'' stop inv run eg' m'=>kk n H'' ⟨d',tags',s',eg',run.l,inv,ahead_full hm2 inv stop,stop,m.trans (m'.mono sub3)⟩
 have first:Ru 17 [.pointer (some ⟨be,0,none⟩)] H4' (fun r H'=>∃n,r=.tuple #[.int .i64 n,.int .i64 0]/\((h.mode≠2/\D H')\/(h.mode=2/\W 0 H'))):=by
  have hm':h.mode=1\/h.mode=2\/h.mode=3:=by omega
  rcases hm' with hm1|hm2|hm3
  ·have engs:=eng.s (by omega)
   rw[htg (by omega)] at engs
   have hmu:=offM_bound (off_first ok hm1)
   have hle:(d0 h (fixedOf h)).l=h.len:=rfl
   have hlen:=ok.1.len
   unfold lenOk at hlen
   rw[if_neg (by omega)] at hlen
   rw[hle] at hmu
   have hb1:h.len*(3*h.len+10)<=65536*200000:=Int.mul_le_mul (by omega) (by omega) (by omega) (by omega)
   refine c17 engs (.inl hm1) (off_inv hm1 false) (off_first ok hm1) (B:=0) (d0_cnt _ _) (by rw[hle];omega) (by omega) fun n d' tags' s' H5 stop inv run eg m5=>⟨n,rfl,.inl ⟨by omega,d',tags',s',_,false,⟨eg.g (by omega),off_end hm1 inv stop,by rw[gnext_s (by omega)];exact stop,?_,.inl (by omega)⟩,fun _=>run,m5.mono sub3⟩⟩
   rw[run.l,hl,if_neg (by omega)];rfl
  ·have engs:=eng.s (by omega)
   rw[htg (by omega)] at engs
   have h0l:(d0 h (fixedOf h)).l=0:=(str_first ok hm2).1
   refine ahead_run hm2 engs (Ahead.first ok hm2) Mod.refl fun n H5 w=>⟨n,rfl,.inr ⟨hm2,?_⟩⟩
   rwa [h0l] at w
  ·obtain⟨f1,f2,f3,_⟩:=base_facts ok hm3
   refine c17b eng hm3 (d0_cnt _ _) (by omega) fun n d' s' K' H5 stop hl5 eg m5=>⟨n,rfl,.inl ⟨by omega,d',tg,s',K',false,⟨eg,?_,by unfold gnext;rw[if_pos hm3,stop];rfl,?_,.inl (by omega)⟩,fun h1=>by omega,m5.mono sub3⟩⟩
   ·have sem:=(eg.b hm3).2
    have:=sem.at1;have:=sem.p0;have:=sem.p1
    unfold bnext at stop
    split at stop
    ·split at stop<;>cases stop
    ·split at stop
     ·cases stop
     ·omega
   ·rw[hl5,hl,if_neg (by omega)];rfl
 refine Runs.mono first ?_
 rintro _ H5 ⟨n,rfl,hs⟩
 refine⟨n,0,rfl,fun f H'=>f=0/\D H',⟨fun f fed H'=>f=0/\1<=fed/\fed<=x1+2/\(D H'\/(h.mode=2/\fed<=x1+1/\W (fed-1) H')),fun _ fed _=>(x1+3-fed).toNat,⟨rfl,by omega,by omega,?_⟩,?_⟩,?_⟩
 ·rcases hs with ⟨_,hd⟩|⟨hm2,hw⟩
  ·exact .inl hd
  ·exact .inr ⟨hm2,by omega,hw⟩
 ·rintro H6 f fed ⟨rfl,hf1,hf2,hs⟩
  refine⟨fun H'=>W (fed-1) H'/\h.mode=2/\fed<=x1+1,⟨fun _=>?_,fun h'=>(h' rfl).elim⟩,?_⟩
  ·rcases hs with ⟨d,tags,s,K,ended,dn,run,m⟩|⟨hm2,hle,d,tags,s,eg,hdl,ah,full,stop,m⟩
   ·refine g11 dn.eng fun H7 e7=>⟨_,rfl,fun hc=>?_,fun _=>⟨rfl,d,tags,s,K,ended,⟨dn.eng.ext e7,dn.pend,dn.stop,dn.len,dn.end_⟩,run,m.thenExt e7⟩⟩
    rcases dn.end_ with h1|h1
    ·simp[h1] at hc
    ·simp[h1] at hc
   ·refine c11 eg (.inr hm2) fun H7 e7=>⟨_,rfl,fun _=>⟨by unfold I64;omega,fun _=>⟨⟨d,tags,s,eg.ext e7,hdl,ah,full,stop,m.thenExt e7⟩,hm2,hle⟩,fun h'=>by omega⟩,fun hc=>?_⟩
    rw[stop] at hc;simp[hm2] at hc
  ·rintro H7 ⟨⟨d,tags,s,eg,hdl,ah,full,stop,m⟩,hm2,hle⟩
   refine c14 eg hm2 ah.pd stop (decide (fed<=x1)) (fun hmore H8 eg8 m8=>⟨0,rfl,fun h'=>(h' rfl).elim,fun _=>?_⟩) (fun hmore hl65 H8 eg8 m8=>⟨0,rfl,fun h'=>(h' rfl).elim,fun _=>?_⟩) (fun hmore hl65=>?_)
   ·have hfed:¬fed<=x1:=by simpa using hmore
    have sinv:SInv d.l d.at_ d.pend tags:=.inl ⟨ah.pd,full⟩
    have sb:=sM_bound sinv
    have ab:=aM_bound full.inv
    have l1:=ah.inv.mok.l1
    have l0:=ah.inv.mok.l0
    dsimp only at l1 l0
    have hc:DCnt d 288230376151711744:=ah.cnt.mono (by omega)
    refine c17 eg8 (.inr hm2) (str_inv hm2) sinv hc (by omega) (by omega) fun nA dA tA sA H9 stopA invA runA eg9 m9=>⟨_,_,rfl,by unfold I64;omega,⟨rfl,by omega,by omega,.inl ⟨dA,tA,sA,_,true,⟨eg9.g (by omega),str_end hm2 invA stopA,by rw[gnext_s (by omega)];exact stopA,?_,.inr rfl⟩,fun h1=>by omega,?_⟩⟩,by dsimp only;omega⟩
    ·rw[runA.l,hdl,hl,if_pos hm2];omega
    ·exact (m.trans (m8.mono (by simp))).trans (m9.mono sub3)
   ·have hfed:fed<=x1:=by simpa using hmore
    refine ahead_run hm2 eg8 (ah.more full hl65) (m.trans (m8.mono (by simp +contextual))) fun nA H9 w9=>⟨_,_,rfl,by unfold I64;omega,⟨rfl,by omega,by omega,.inr ⟨hm2,by omega,?_⟩⟩,by dsimp only;omega⟩
    have e:({ d with l:=d.l+1 }:DS).l=fed+1-1:=by show d.l+1=_;omega
    rwa [e] at w9
   ·have hfed:fed<=x1:=by simpa using hmore
    omega
 ·rintro H6 f ⟨rfl,d,tags,s,K,ended,dn,run,m⟩
  obtain⟨g1,g2,g3⟩:=dn.grad
  refine g18 dn.eng dn.pend fun H7 a1 c1 a2 c2 bx bt e7=>⟨_,rfl,_,rfl,fun H8 q n8=>⟨rfl,agg3_one,n8.own.w 0 3 rfl,fun H9 h9=>?_⟩⟩
  obtain⟨e9,o9⟩:=tmpE (cs:=[.int .u64 (d.loss.toNat:Int),.slice a1 (nX h) c1,.slice a2 (nT h) c2]) n8 rfl h9
  have e79:=e7.thenExt e9
  refine⟨_,rfl,o9.1,c42 (dn.eng.ext e79) fun H10 e10=>⟨_,rfl,rfl,e10.rdL (by simp) o9.1,fun _=>⟨fun _=>?_,fun h'=>(h' rfl).elim⟩,fun h'=>(h' rfl).elim⟩⟩
  refine g31 (dn.eng.ext (e79.thenExt e10)) fun H11 e11=>⟨_,rfl,(e10.thenExt e11).rdL (by simp) o9.1,rfl,agg3_one,?_,fun H12 h12=>?_⟩
  ·exact ((keep (by omega) o1 m).mod ((e79.thenExt e10).thenExt e11) (by simp)).w 0 3 rfl
  have m11:=m.thenExt ((e79.thenExt e10).thenExt e11)
  have w1:=(keep (by omega) o1 m11).swrL (vs:=[.int .u64 (d.loss.toNat:Int),.slice a1 (nX h) c1,.slice a2 (nT h) c2]) rfl
  rw[<-h12] at w1
  have m12:Mod [p1] H11 H12:=by rw[h12];exact Mod.refl.wrL (.inl (by simp))
  have w2:=(keep hp2 o2 m11).mod m12 (by simp;omega)
  refine⟨rfl,i64s_one,w2.w 0 4 rfl,fun H13 h13=>?_⟩
  have w2':=w2.swrL (vs:=i64s (cntL d)) rfl
  rw[<-h13] at w2'
  have m13:Mod [p2] H12 H13:=by rw[h13];exact Mod.refl.wrL (.inl (by simp))
  have w1':=w1.mod m13 (by simp;omega)
  have m13':Mod [p1,p2] H11 H13:=(m12.mono (by simp)).trans (m13.mono (by simp))
  have hp1g:=n2.ge
  have hp2g:=n3.ge
  have hz12:=n1.mod.1
  have hz22:=n2.mod.1
  have fin:Ext H H13:=(toExt m11).trans_new m13' (by simp;omega)
  have hz3:=toExt m
  have big:H3.size<=H6.size:=Nat.le_trans e4.1 m.1
  refine⟨_,rfl,w1'.1,_,rfl,w2'.1,?_⟩
  rw[dn.stop,dn.pend]
  rw[g1] at bx
  rw[g2] at bt
  have bx':=(bx.ext (e9.thenExt (e10.thenExt e11))).mod m13' (by simp;omega)
  have bt':=(bt.ext (e9.thenExt (e10.thenExt e11))).mod m13' (by simp;omega)
  have kk:=k H13 a1 c1 a2 c2 d (fun h1=>⟨tags,run h1⟩) bx'.row bt'.row fin
  rw[g3]
  simpa using kk
end Go.VC
namespace Go.VC
open Go Go.Proofs
variable {H:Heap}{R:Value->Heap->Prop}{be:Nat}{b:DB}{h:Hdr}{d:DS}{tags:List Int}{ended failed:Bool}{s:PS}{K post:List UInt64}
theorem c24 {h:Hdr}{hp:HAt}(x:Int)(hx:0<=x/\x<=65535)(k:∀H',Ext H H'->R (.int .i64 (if h.mode=2 then x else h.len)) H'):Ru 24 [.agg (hdrC h hp).toArray,.int .u16 x] H R:=by
 refine v24 (hdrC h hp) _ fun H1 p n1=>⟨_,n1.rd 0,fun hm=>⟨by unfold I64;omega,?_⟩,fun hm=>⟨_,n1.rd 7,?_⟩⟩
 ·have:=k H1 n1.mod;rwa [if_pos hm] at this
 ·have:=k H1 n1.mod;rwa [if_neg hm] at this
end Go.VC
namespace Go.VC
open Go Go.Proofs
variable {H:Heap}{R:Value->Heap->Prop}
theorem two_res {H6 H7 H8:Heap}{pr pc t1 t2:Nat}{cs0 ds0 cs ds:List Value}(n7:New H6 cs0 t1 H7 pr)(n8:New H7 ds0 t2 H8 pc)(hc:cs.length=cs0.length)(_hd:ds.length=ds0.length) :
  WOk H8 pr 0 cs0.length/\∀H9,H9=wrL H8 pr 0 cs->WOk H9 pc 0 ds0.length/\∀H10,H10=wrL H9 pc 0 ds->Ext H6 H10/\Own H10 pr cs:=by
 have o8:=n7.own.mod n8.mod (by simp)
 have hlt:=n7.lt;have hge:=n8.ge
 refine⟨o8.2,fun H9 h9=>?_⟩
 have m9:Mod [pr] H8 H9:=wrLM h9
 have hp:pc∉[pr]:=by simp;omega
 have o9:=n8.own.mod m9 hp
 refine⟨o9.2,fun H10 h10=>?_⟩
 have m10:Mod [pc] H9 H10:=wrLM h10
 refine⟨(n7.mod.new n8).trans_new ((m9.mono (by simp)).trans (m10.mono (by simp)):Mod [pr,pc] H8 H10) (by have:=n7.ge;have:=n7.mod.1;simp;omega),?_⟩
 have o:=o8.swrL (vs:=cs) hc
 rw[<-h9] at o
 exact o.mod m10 (by simp;omega)
theorem hdr_one {h:Hdr}{p:HAt}:∀x∈hdrC h p,One x:=by
 intro x hx
 simp only[hdrC,List.mem_cons,List.not_mem_nil,or_false] at hx
 rcases hx with rfl|rfl|rfl|rfl|rfl|rfl|rfl|rfl|rfl<;>trivial
theorem prog_one {p:Prog}{a:Option Addr}{l c:Nat}:∀x∈progC p a l c,One x:=by
 intro x hx
 simp only[progC,List.mem_cons,List.not_mem_nil,or_false] at hx
 rcases hx with rfl|rfl<;>trivial
theorem upto_succ (n:Nat):upto (n+1)=upto n++[(n:Int)]:=by simp[upto,List.range_succ]
theorem row_nth {H:Heap}{a:Option Addr}{l:Nat}{xs:List UInt64}(h:RowU H a l xs){j:Nat}(hj:j<l):∃b o,At a b o/\rd H b (o+j)=some (.int .u64 ((xs.getD j 0).toNat:Int)):=by
 have hl:=h.len
 obtain⟨b,o,e,hr⟩:=h.at (by omega)
 refine⟨b,o,e,?_⟩
 have:=rdL_get' hr (u64s_get (xs:=xs) (i:=j) (by omega))
 rw[List.getD_eq_getElem?_getD,List.getElem?_eq_getElem (by omega)];exact this
theorem muls {p p2 i2 i1:Nat}{by_:UInt64}{a1 a2:Option Addr}{l c1 c2:Nat}{xs:List UInt64}(hl:l<=64)(r1:RowU H a1 l (xs.map fun x=>by_*x))(r2:RowU H a2 l xs)(h1:rd H p i1=some (.slice a1 l c1))(h2:rd H p2 i2=some (.slice a2 l c2)){J:Heap->Prop}
  (k:∀H',Ext H H'->J H'):∃(I:Int->Heap->Prop),∃(μ:Int->Heap->Nat),I (0:Int) H/\∀H n,I n H->∃a l c,rd H p2 i2=some (.slice a l c)/\(n<(↑l:Int)->∃a l c,rd H p i1=some (.slice a l c)/\∃b o,At a b o/\((0:Int)<=n/\n<(↑l:Int))/\∃x,rd H b (o+n.toNat)=some (.int .u64 (↑(UInt64.toNat x):Int))/\∃a_4 l_1 c_3,rd H p2 i2
  = some (.slice a_4 l_1 c_3)/\∃b_1 o_1,At a_4 b_1 o_1/\((0:Int)<=n/\n<(↑l_1:Int))/\∃x_1,rd H b_1 (o_1+n.toNat)=some (.int .u64 (↑(UInt64.toNat x_1):Int))/\∀H' q,New H [.int .u64
  (↑(UInt64.toNat by_):Int),.int .u64 (↑(UInt64.toNat x_1):Int)] 51 H' q->rd H' b (o+n.toNat)=some (.int .u64 (↑(UInt64.toNat x):Int))/\rd H' p i1=some (.slice a l c)/\Ru 26 [.slice (some ⟨q,0,none⟩) 2
  2] H' fun r H'=>∃x_2,r=.int .u64 (↑(UInt64.toNat x_2):Int)/\rd H' b (o+n.toNat)=some (.int .u64 (↑(UInt64.toNat x):Int))/\rd H' p i1=some (.slice a l c)/\(¬x=x_2->R (.bool false) H')/\(¬¬x=x_2
  ->I64 (n+(1:Int))/\I (n+(1:Int)) H'/\μ (n+(1:Int)) H'<μ n H))/\(¬n<(↑l:Int)->J H):=by
 refine⟨fun n H'=>∃j:Nat,n=j/\Ext H H',fun n _=>((l:Int)-n).toNat,⟨0,rfl,Mod.refl⟩,?_⟩
 rintro H1 _ ⟨j,rfl,e1⟩
 refine⟨_,_,_,e1.rd (by simp) h2,fun hlt=>?_,fun _=>k H1 e1⟩
 obtain⟨b,o,ea,hx⟩:=row_nth (Ext.row e1 r1) (j:=j) (by omega)
 obtain⟨b',o',ea',hx'⟩:=row_nth (Ext.row e1 r2) (j:=j) (by omega)
 refine⟨_,_,_,e1.rd (by simp) h1,b,o,ea,⟨by omega,hlt⟩,_,by rw[Int.toNat_natCast];exact hx,_,_,_,e1.rd (by simp) h2,b',o',ea',⟨by omega,hlt⟩,_,by rw[Int.toNat_natCast];exact hx',fun H2 q n2=>?_⟩
 have hx2:rd H2 b (o+(j:Int).toNat)=some (.int .u64 (((xs.map fun x=>by_*x).getD j 0).toNat:Int)):=by rw[Int.toNat_natCast];exact n2.mod.rd (by simp) hx
 have h12:=n2.mod.rd (by simp) (e1.rd (by simp) h1)
 have hlen:xs.length=l:=r2.len
 refine⟨hx2,h12,c26 ⟨rfl,.inr ⟨q,0,rfl,n2.rdL⟩⟩ ⟨_,rfl,hx2,h12,fun h'=>(h' ?_).elim,fun _=>⟨by unfold I64;omega,⟨j+1,by push_cast;rfl,e1.thenExt n2.mod⟩,by dsimp only;omega⟩⟩⟩
 exact getD_map_mul (by omega)
theorem scale_len (h:Hdr)(b:UInt64):(scaleH h b).loss.ops.length=h.loss.ops.length+2:=by simp[scaleH,scaleP]
theorem scale_cells (h:Hdr)(b:UInt64):opsC h.loss.ops++[.int .i64 5,.int .i64 h.loss.regs,.int .i64 0,.int .i64 0,.int .u64 (b.toNat:Int),.int .i64 3,.int .i64 0,.int .i64 0,.int .i64 h.loss.regs,.int .u64 0]=opsC (scaleH h b).loss.ops:=by
 show _=opsC (h.loss.ops++[constOp h.loss.regs b,timesOp h.loss.regs])
 unfold opsC
 rw[List.flatMap_append];rfl
set_option maxHeartbeats 2000000 in
theorem c5 (h:Hdr)(hp:HAt)(r:HRows H h hp)(by_:UInt64)(x2:Int)(hx2:0<=x2/\x2<=65535)(k:∀H',Ext H H'->R (.bool true) H'):Ru 5 [.agg (hdrC h hp).toArray,.int .u64 (by_.toNat:Int),.int .u16 x2] H R:=by
 refine v5 (hdrC h hp) by_ x2 fun H1 p n1=>⟨hdrC h hp,rfl,n1.rdL,?_⟩
 have e1:=n1.mod
 refine c8 h hp (r.ext e1) (fun ok H2 e2=>⟨i64s (planL h),rfl,_,rfl,fun H3 p1 n3=>⟨rfl,i64s_one,n3.own.w 0 4 rfl,fun H4 h4=>?_⟩⟩) (fun n H2 hn hno e2=>⟨i64s [0,0,0,0],rfl,_,rfl,fun H3 p1 n3=>⟨rfl,i64s_one,n3.own.w 0 4 rfl,fun H4 h4=>?_⟩⟩)
 rotate_left
 ·obtain⟨e4,o4⟩:=tmpE (cs:=i64s [0,0,0,0]) n3 rfl h4
  exact⟨fun _=>c10 fun H7 e7=>⟨_,rfl,k H7 ((e1.thenExt (e2.thenExt e4)).thenExt e7)⟩,fun h'=>(h' hn).elim⟩
 obtain⟨e4,o4⟩:=tmpE (cs:=i64s (planL h)) n3 rfl h4
 have e14:=e2.thenExt e4
 clear h4 o4
 refine⟨fun h'=>(h' rfl).elim,fun _=>⟨hdrC h hp,rfl,e14.rdL (by simp) n1.rdL,c24 x2 hx2 fun H5 e5=>⟨_,rfl,?_⟩⟩⟩
 obtain⟨omode,⟨ts,gs⟩,⟨tl,gl⟩,dm,olen,owords⟩:=ok.1
 have hlen:=olen
 unfold lenOk at hlen
 have hn0:0<=(if h.mode=2 then x2 else h.len)/\(if h.mode=2 then x2 else h.len)<=65535:=by split<;>split at hlen<;>omega
 generalize hn:(if h.mode=2 then x2 else h.len)=n at hn0 ⊢
 obtain⟨L,hL⟩:∃L:Nat,(L:Int)=n:=⟨n.toNat,by omega⟩
 have hLm:(L:Int)=if h.mode=2 then n else h.len:=by split<;>simp_all
 clear hn hlen
 have e15:=e14.thenExt e5
 have e05:=e1.thenExt e15
 obtain⟨dm1,dm2,dm3,_,_⟩:=id dm
 refine⟨hdrC h hp,rfl,e15.rdL (by simp) n1.rdL,c22 h hp (r.ext e05) ok n hn0 L hLm fun H6 a1 c1 a2 c2 d _ g1 g2 e6=>⟨_,rfl,_,rfl,_,rfl,fun H7 pr n7 H8 pc n8=>?_⟩⟩
 obtain⟨w8,hw8⟩:=two_res (cs:=[.int .u64 ((lossOf h L).toNat:Int),.slice a1 (nX h) c1,.slice a2 (nT h) c2]) (ds:=i64s (cntL d)) n7 n8 rfl rfl
 refine⟨rfl,agg3_one,w8,fun H9 h9=>⟨rfl,i64s_one,(hw8 H9 h9).1,fun H10 h10=>?_⟩⟩
 obtain⟨e610,o10⟩:=(hw8 H9 h9).2 H10 h10
 clear h9 h10
 have e110:=e15.thenExt (e6.thenExt e610)
 have e010:=e1.thenExt e110
 have rp:∀{H':Heap},Ext H10 H'->∀i v,(hdrC h hp)[i]?=some v->rd H' p i=some v:=fun e i v hv=>(e110.thenExt e).rd (by simp) (by rw[n1.rd];exact hv)
 intro H11 qo n11
 refine⟨fun a l c H'=>l=nX h/\RowI H' a l (upto (nX h))/\Ext H10 H',⟨fun a l c n H'=>∃j:Nat,n=j/\j<=nX h/\l=j/\Buf 1 H' H10.size a l c (i64s (upto j))/\Ext H10 H',fun _ _ _ n _=>((nX h:Int)-n).toNat,⟨0,rfl,by omega,rfl,Buf.nil,n11.mod⟩,?_⟩,?_⟩
 ·rintro H12 a l c _ ⟨j,rfl,hj,rfl,hB,e12⟩
  have hnx:(nX h:Int)=h.x.length:=rfl
  refine⟨_,_,_,rp e12 1 _ rfl,fun hlt=>fun H13 q n13=>⟨[.int .i64 (l:Int)],rfl,.inr ⟨q,0,rfl,n13.rdL⟩,(hB.ext n13.mod).app (e12.thenExt n13.mod).1 rfl rfl (by intro v hv;simp at hv;subst hv;trivial) (by omega) (by omega) fun a' c' H' S b m hS=>⟨by unfold I64;omega,⟨l+1,by push_cast;rfl,by omega,rfl,?_,(e12.thenExt n13.mod).trans_new m fun x hx=>.inr (hS x hx)⟩,by dsimp only;omega⟩⟩,fun hge=>⟨by omega,?_,e12⟩⟩
  ·rw[upto_succ]
   have:i64s (upto l++[(l:Int)])=i64s (upto l)++[.int .i64 (l:Int)]:=by simp[i64s]
   rw[this];exact b
  ·have:l=nX h:=by omega
   rw[<-this];exact hB.row
 rintro H12 a l c ⟨rfl,hR,e12⟩
 refine⟨hdrC h hp,rfl,(e110.thenExt e12).rdL (by simp) n1.rdL,fun H13 p4 n13=>⟨rfl,hdr_one,n13.own.w 0 9 rfl,fun H14 h14=>?_⟩⟩
 obtain⟨e14',o14⟩:=tmpE (cs:=hdrC h hp) n13 rfl h14
 clear h14
 have hp4:=n13.ge
 have hp4l:p4<H14.size:=o14.lt (by simp[hdrC])
 have e1014:=e12.thenExt e14'
 have e014:=e010.thenExt e1014
 have r14:=r.ext e014
 refine⟨progC h.step hp.sa h.step.ops.length hp.sc,rfl,⟨rp e1014 3 _ rfl,rp e1014 4 _ rfl,trivial⟩,c25 r14.s gs (Ext.row e14' hR) (fun x hx=>?_) (by simp only[nX];omega) fun as_ cs H15 hS e15'=>⟨_,rfl,_,rfl,fun H16 q5 n16=>⟨rfl,prog_one,n16.own.w 0 2 rfl,fun H17 h17=>?_⟩⟩⟩
 ·simp only[upto,List.mem_map,List.mem_range] at hx
  obtain⟨i,hi,rfl⟩:=hx
  obtain⟨_,_,_,d4,_⟩:=dm
  simp only[nX] at hi;omega
 obtain⟨e17,o17⟩:=tmpE (cs:=progC (tidyP h.step ts (upto (nX h))) as_ (tidyP h.step ts (upto (nX h))).ops.length cs) n16 rfl h17
 clear h17
 have e1417:=e15'.thenExt e17
 have e1017:=e1014.thenExt e1417
 refine⟨progC h.loss hp.la h.loss.ops.length hp.lc,rfl,⟨rp e1017 5 _ rfl,rp e1017 6 _ rfl,trivial⟩,fun H18 q6 n18=>c25 (r14.ext (e1417.thenExt n18.mod)).l gl (outs:=[0]) ⟨rfl,.inr ⟨q6,0,rfl,n18.rdL⟩⟩ (fun x hx=>?_) (by omega) fun al cl H19 hL' e19=>⟨_,rfl,_,rfl,fun H20 q7 n20=>⟨rfl,prog_one,n20.own.w 0 2 rfl,fun H21 h21=>?_⟩⟩⟩
 ·simp at hx;subst hx
  have:=gl.regs.1;omega
 obtain⟨e21,o21⟩:=tmpE (cs:=progC (tidyP h.loss tl [0]) al (tidyP h.loss tl [0]).ops.length cl) n20 rfl h21
 clear h21
 have e1721:=n18.mod.thenExt (e19.thenExt e21)
 have e1421:=e1417.thenExt e1721
 have o14':=o14.mod e1421 (by simp)
 have hz1421:=e1421.1
 have hq5:=n16.ge;have hq7:=n20.ge
 have hz15:=e15'.1;have hz1719:=(n18.mod.thenExt e19).1;have hz17:=e17.1
 refine⟨_,rfl,(o17.mod e1721 (by simp)).1,rfl,prog_one,o14'.w 3 2 rfl,fun H22 h22=>?_⟩
 have o22:Own H22 p4 ((hdrC h hp).take 3++progC (tidyP h.step ts (upto (nX h))) as_ (tidyP h.step ts (upto (nX h))).ops.length cs++(hdrC h hp).drop 5):=by
  rw[h22];exact o14'.wrL 3 _ (Nat.le_of_ble_eq_true rfl)
 refine⟨_,rfl,(o21.mod (wrLM h22) (by simp;omega)).1,rfl,prog_one,o22.w 5 2 rfl,fun H23 h23=>?_⟩
 have o23:Own H23 p4 (hdrC (tidyH h ts tl) { hp with sa:=as_,sc:=cs,la:=al,lc:=cl }):=by
  rw[h23]
  exact o22.wrL 5 (progC (tidyP h.loss tl [0]) al (tidyP h.loss tl [0]).ops.length cl) (Nat.le_of_ble_eq_true rfl)
 have m23:Mod [p4] H21 H23:=(wrLM h22).trans (wrLM h23)
 clear h22 h23
 have e1223:Ext H12 H23:=(e14'.thenExt e1421).trans_new m23 (by simpa using hp4)
 have e1023:=e12.thenExt e1223
 have e023:=e010.thenExt e1023
 have r23:=r.ext e023
 have g23:HRows H23 (tidyH h ts tl) { hp with sa:=as_,sc:=cs,la:=al,lc:=cl }:=by
  have t1:=(tidy_good gs (upto (nX h))).form.1
  have t2:=(tidy_good gl [0]).form.1
  refine⟨r23.x,r23.th,?_,?_,r23.x1,r23.th1,Nat.le_trans t1 (by omega),Nat.le_trans t2 (by omega)⟩
  ·exact (((hS.ext e17).ext e1721).mod m23 (by simpa using hp4l)).row
  ·exact ((hL'.ext e21).mod m23 (by have:=n18.mod.1;have:=e1417.1;simp;omega)).row
 have hts:=tidy_same gs gl dm L
 have hLg:(L:Int)=if (tidyH h ts tl).mode=2 then n else (tidyH h ts tl).len:=hLm
 refine⟨_,rfl,o23.1,c22 (tidyH h ts tl) _ g23 (tidy_plan gs gl ok) n hn0 L hLg fun H24 b1 d1 b2 d2 dd _ f1 f2 e24=>⟨_,rfl,_,rfl,_,rfl,fun H25 p7 n25 H26 p8 n26=>?_⟩⟩
 obtain⟨w26,hw26⟩:=two_res (cs:=[.int .u64 ((lossOf (tidyH h ts tl) L).toNat:Int),.slice b1 (nX (tidyH h ts tl)) d1,.slice b2 (nT (tidyH h ts tl)) d2]) (ds:=i64s (cntL dd)) n25 n26 rfl rfl
 refine⟨rfl,agg3_one,w26,fun H27 h27=>⟨rfl,i64s_one,(hw26 H27 h27).1,fun H28 h28=>?_⟩⟩
 obtain⟨e2428,o28⟩:=(hw26 H27 h27).2 H28 h28
 clear h27 h28
 rw[hts.1] at o28
 rw[hts.2] at f1 f2
 have e2328:=e24.thenExt e2428
 have e1028:=e1023.thenExt e2328
 have o10':=o10.mod e1028 (by simp)
 refine⟨fun H'=>Ext H28 H',⟨fun h'=>(by cases h'),fun _=>⟨fun h'=>(h' rfl).elim,fun _=>⟨fun h'=>(h' rfl).elim,fun _=>⟨fun h'=>(by cases h'),fun _=>⟨_,rfl,o10'.1,_,rfl,o28.1,
  c20 (Ext.row (e610.thenExt e1028) g1) (Ext.row (e610.thenExt e1028) g2) (Ext.row e2428 f1) (Ext.row e2428 f2) (by simp only[nX];omega) (by simp only[nT];omega) fun H29 e29=>⟨_,rfl,fun h'=>(by cases h'),fun _=>e29⟩⟩⟩⟩⟩⟩,?_⟩
 intro H29 e29
 have e2329:=e2328.thenExt e29
 have e1029:=e1023.thenExt e2329
 have o29:=o23.mod e2329 (by simp)
 have hz1223:=e1223.1;have hz2329:=e2329.1;have hz23:=m23.1
 refine⟨_,rp e1029 5 _ rfl,hdrC h hp,rfl,(e110.thenExt e1029).rdL (by simp) n1.rdL,rfl,hdr_one,o29.w 0 9 rfl,fun H30 h30=>⟨by obtain⟨q1,q2,_⟩:=id gl.regs;unfold I64;omega,fun H31 qe n31=>?_⟩⟩
 have o30:Own H30 p4 (hdrC h hp):=by rw[h30];exact o29.swrL rfl
 have m30:Mod [p4] H29 H30:=wrLM h30
 clear h30
 have e1030:Ext H10 H30:=e1029.trans_new m30 (by have:=e12.1;simp;omega)
 have e1031:=e1030.thenExt n31.mod
 have e031:=e010.thenExt e1031
 have r31:=r.ext e031
 have few:=gl.form.1
 refine⟨_,_,_,rp e1031 6 _ rfl,opsC h.loss.ops,r31.l.1,r31.l.2,(Buf.nil:Buf 5 H31 H31.size (some ⟨qe,0,none⟩) 0 0 []).app (Nat.le_refl _) (by rw[opsC_length]) rfl opsC_one (by omega) (by omega) fun a3 c3 H32 S3 b3 m3 hS3=>⟨⟨rfl,rfl⟩,fun H33 q33 n33=>⟨[.int .i64 5,.int .i64 h.loss.regs,.int .i64 0,.int .i64 0,.int .u64 (by_.toNat:Int),.int .i64 3,.int .i64 0,.int .i64 0,.int .i64 h.loss.regs,.int .u64 0],rfl,.inr ⟨q33,0,rfl,n33.rdL⟩,?_⟩⟩⟩
 have e3133:Ext H31 H33:=(Mod.refl (S:=[])).trans_new (m3.thenExt n33.mod) fun x hx=>.inr (hS3 x hx)
 refine (b3.ext n33.mod).app e3133.1 rfl rfl (by intro v hv;simp at hv;rcases hv with rfl|rfl|rfl|rfl|rfl|rfl|rfl|rfl|rfl|rfl<;>trivial) (by omega) (by omega) fun a4 c4 H34 S4 b4 m4 hS4=>?_
 rw[List.nil_append,scale_cells] at b4
 have e3134:Ext H31 H34:=e3133.trans_new m4 fun x hx=>.inr (hS4 x hx)
 have o34:=(o30.mod n31.mod (by simp)).mod e3134 (by simp)
 have hlenl:0+h.loss.ops.length+2=(scaleH h by_).loss.ops.length:=by rw[scale_len];omega
 rw[hlenl] at b4
 rw[hlenl]
 refine⟨rfl,prog_one (p:=(scaleH h by_).loss),o34.w 5 2 rfl,fun H35 h35=>?_⟩
 have o35:Own H35 p4 (hdrC (scaleH h by_) { hp with la:=a4,lc:=c4 }):=by
  rw[h35]
  exact o34.wrL 5 (progC (scaleH h by_).loss a4 (scaleH h by_).loss.ops.length c4) (Nat.le_of_ble_eq_true rfl)
 have m35:Mod [p4] H34 H35:=wrLM h35
 clear h35
 have hz30:=m30.1;have hz31:=n31.mod.1
 have e1035:Ext H10 H35:=(e1031.thenExt e3134).trans_new m35 (by have:=e12.1;simp;omega)
 have r35:=r.ext (e010.thenExt e1035)
 have g35:HRows H35 (scaleH h by_) { hp with la:=a4,lc:=c4 }:=by
  refine⟨r35.x,r35.th,r35.s,(b4.mod m35 (by simp;omega)).row,r35.x1,r35.th1,r35.s1,?_⟩
  rw[scale_len];omega
 refine⟨_,rfl,o35.1,c8 (scaleH h by_) _ g35 (fun ok2 H36 e36=>⟨i64s (planL (scaleH h by_)),rfl,_,rfl,fun H37 p5 n37=>⟨rfl,i64s_one,n37.own.w 0 4 rfl,fun H38 h38=>?_⟩⟩) (fun n H36 hn hno e36=>⟨i64s [0,0,0,0],rfl,_,rfl,fun H37 p5 n37=>⟨rfl,i64s_one,n37.own.w 0 4 rfl,fun H38 h38=>?_⟩⟩)⟩
 rotate_left
 ·obtain⟨e38,o38⟩:=tmpE (cs:=i64s [0,0,0,0]) n37 rfl h38
  exact⟨fun _=>c10 fun H39 e39=>⟨_,rfl,k H39 ((e010.thenExt (e1035.thenExt (e36.thenExt e38))).thenExt e39)⟩,fun h'=>(h' hn).elim⟩
 obtain⟨e38,_⟩:=tmpE (cs:=i64s (planL (scaleH h by_))) n37 rfl h38
 clear h38
 have e3538:=e36.thenExt e38
 have o38:=o35.mod e3538 (by simp)
 obtain⟨_,_,⟨tl',gl'⟩,_,_,_⟩:=ok2.1
 have hLs:(L:Int)=if (scaleH h by_).mode=2 then n else (scaleH h by_).len:=hLm
 refine⟨fun h'=>(h' rfl).elim,fun _=>⟨_,rfl,o38.1,c22 (scaleH h by_) _ (g35.ext e3538) ok2 n hn0 L hLs fun H40 z1 y1 z2 y2 ds _ s1 s2 e40=>⟨_,rfl,_,rfl,_,rfl,fun H41 p9 n41 H42 p10 n42=>?_⟩⟩⟩
 obtain⟨w42,hw42⟩:=two_res (cs:=[.int .u64 ((lossOf (scaleH h by_) L).toNat:Int),.slice z1 (nX (scaleH h by_)) y1,.slice z2 (nT (scaleH h by_)) y2]) (ds:=i64s (cntL ds)) n41 n42 rfl rfl
 refine⟨rfl,agg3_one,w42,fun H43 h43=>⟨rfl,i64s_one,(hw42 H43 h43).1,fun H44 h44=>?_⟩⟩
 obtain⟨e4044,o44⟩:=(hw42 H43 h43).2 H44 h44
 clear h43 h44
 have hsg:=scale_grad gs gl gl' dm (by_:=by_) L
 rw[scale_loss gl gl' dm L] at o44
 rw[hsg] at s1 s2
 have e3844:=e40.thenExt e4044
 have e1044:=e1035.thenExt (e3538.thenExt e3844)
 have o1044:=o10.mod e1044 (by simp)
 have w1:=Ext.row e4044 s1
 have w2:=Ext.row e4044 s2
 have u1:=Ext.row (e610.thenExt e1044) g1
 have u2:=Ext.row (e610.thenExt e1044) g2
 have e044:=e010.thenExt e1044
 refine⟨fun H'=>Ext H44 H',⟨fun h'=>(by cases h'),fun _=>⟨_,_,_,o1044.rd 1 rfl,_,_,_,o44.rd 1 rfl,fun h'=>(h' rfl).elim,fun _=>⟨_,_,_,o1044.rd 2 rfl,_,_,_,o44.rd 2 rfl,fun h'=>(h' rfl).elim,fun _=>⟨_,o44.rd 0 rfl,_,o1044.rd 0 rfl,fun H45 q45 n45=>⟨n45.mod.rd (by simp) (o44.rd 0 rfl),c26 ⟨rfl,.inr ⟨q45,0,rfl,n45.rdL⟩⟩ ⟨_,rfl,n45.mod.rd (by simp) (o44.rd 0 rfl),fun h'=>(h' rfl).elim,fun _=>n45.mod⟩⟩⟩⟩⟩⟩,?_⟩
 intro H46 e46
 refine⟨fun H'=>Ext H44 H',muls (by show h.x.length<=64;omega) (Ext.row e46 w1) (Ext.row e46 u1) (e46.rd (by simp) (o44.rd 1 rfl)) (e46.rd (by simp) (o1044.rd 1 rfl)) fun H' e'=>e46.thenExt e',?_⟩
 intro H47 e47
 exact muls (by show h.th.length<=64;omega) (Ext.row e47 w2) (Ext.row e47 u2) (e47.rd (by simp) (o44.rd 2 rfl)) (e47.rd (by simp) (o1044.rd 2 rfl)) fun H' e'=>c10 fun H48 e48=>⟨_,rfl,k H48 ((e044.thenExt e47).thenExt (e'.thenExt e48))⟩
end Go.VC
namespace Go.Proofs.YthenlgnbegeliaaGreat
open Go Go.VC Go.ChangeShapes Go.WideShapes Go.ChangeAt Go.RowKit Go.WideElems
set_option linter.unusedVariables false
theorem typs5:∀t∈[27,51,28],Tryz.prog.readableRec t=true/\t<Tryz.prog.types.size:=by
 intro t ht
 simp only[List.mem_cons,List.not_mem_nil,or_false] at ht
 rcases ht with rfl|rfl|rfl
 ·exact⟨by kernel_rfl,of_decide_eq_true (by kernel_rfl)⟩
 ·exact⟨by kernel_rfl,of_decide_eq_true (by kernel_rfl)⟩
 ·exact⟨by kernel_rfl,of_decide_eq_true (by kernel_rfl)⟩
set_option maxRecDepth 100000 in
theorem lifted5 (os:Os)(started:os.Started)(H:Type)(enc:TypeId × Value->H) :
  ReturnsInHanded {} Tryz.checked os 5 .any (Rows.topAlikeSpec.pre6 enc Tryz.prog Tryz.f5 Rows.topAlikeRow.domain false) (Rows.topAlikeSpec.post enc Tryz.prog Tryz.f5 false true false false):=by
 refine lift_gen started Tryz.func5 (by kernel_rfl)
  (ChangeSpec.witness6 (enc:=enc) (C:=Tryz.checked) false ⟨#[],#[.agg #[.int .i64 0,.slice none 0 0,.slice none 0 0,.int .i64 0,.slice none 0 0,.int .i64 0,.slice none 0 0,.int .i64 0,.int .i64 0],.int .u64 0,.int .u16 0],[]⟩ 8 (by kernel_rfl) (by kernel_rfl) (by kernel_rfl) (by kernel_rfl))
  rfl (by kernel_rfl) (by rw[Tryz.params5];exact typs5) (fun ds hl=>?_) ?_
 ·rw[Tryz.params5] at hl
  match ds,hl with
  | [d1,d2,d3],_=>rfl
 intro W base args ds before hA hval hwt
 rw[Tryz.params5] at hA hwt
 obtain⟨v0,vs0,d0,ds0,p0,q0,hargs,rfl,rfl,h0,r0⟩:=trodAll_cons hA
 obtain⟨v1,vs1,d1,ds1,p1,q1,rfl,rfl,rfl,h1,r1⟩:=trodAll_cons r0
 obtain⟨v2,vs2,d2,ds2,p2,q2,rfl,rfl,rfl,h2,r2⟩:=trodAll_cons r1
 obtain⟨rfl,rfl,rfl⟩:=trodAll_nil r2
 obtain rfl:args=#[v0,v1,v2]:=by cases args;simp_all
 obtain⟨hd,hp,rfl,hrows⟩:=open_hdr (fun t ht=>hval 0 t v0 (by rw[Tryz.params5,ht];rfl) rfl) h0
 obtain⟨n1,rfl,hd1,hp1,w1⟩:=open_int Tryz.underlying51 (hval 1 51 v1 (by rw[Tryz.params5];rfl) rfl) h1
 obtain⟨n2,rfl,hd2,hp2,w2⟩:=open_int Tryz.underlying28 (hval 2 28 v2 (by rw[Tryz.params5];rfl) rfl) h2
 simp only[DataW.weightsEach,List.all_append,Bool.and_eq_true] at hwt
 have hb:0<=n1/\n1<18446744073709551616:=by
  have:=w1
  simp[Lit.wf,IntKind.min,IntKind.max,IntKind.signed,IntKind.bits] at this
  omega
 have e1:((UInt64.ofNat n1.toNat).toNat:Int)=n1:=by
  rw[UInt64.toNat_ofNat',Nat.mod_eq_of_lt (by omega)];omega
 have:=c5 (R:=fun r H'=>r=.bool true/\Ext W.heap H') hd hp (hrows hwt.1) (UInt64.ofNat n1.toNat) n2 (by simpa [Lit.wf,IntKind.min,IntKind.max,IntKind.signed,IntKind.bits] using w2) fun H' e=>⟨rfl,e⟩
 rw[e1] at this
 exact this
end Go.Proofs.YthenlgnbegeliaaGreat
namespace Go.Proofs.YthenlgnbegeliaaGreat
open Go
theorem name5:Tryz.pinned.checked.prog.funcNamed Rows.topAlikeRow.func=some 5:=by kernel_rfl
theorem ft1_5:Rows.topAlikeRow.wf (OpenSpec.ofChange Rows.topAlikeSpec)=true:=by kernel_rfl
theorem ft2_5:laidOutB Tryz.prog=true:=by kernel_rfl
theorem ft3_5:mapsRowed Tryz.prog=true:=by kernel_rfl
theorem ft4_5:Tryz.f5.params.all (Tryz.prog.readableRec ·)=true:=by kernel_rfl
theorem ft5_5:namedTie Tryz.prog Rows.topAlikeRow.named Rows.topAlikeSpec.vars=true:=by kernel_rfl
theorem ft6_5:(Tryz.prog.stops == [])=true:=by kernel_rfl
theorem ft7_5:(Tryz.prog.stopKnobs == [])=true:=by kernel_rfl
theorem ft12_5:Tryz.prog.stopsHeard=true:=by kernel_rfl
theorem ft13_5:Tryz.prog.mayEnter=true:=by kernel_rfl
theorem ft14_5:(Rows.topAlikeRow.plainKeys == Tryz.prog.plainKeys)=true:=by kernel_rfl
theorem ft15_5:(Rows.topAlikeRow.lifted == Tryz.prog.liftsFinal)=true:=by kernel_rfl
theorem ft16_5:(Tryz.prog.make == some Rows.topAlikeRow.make)=true:=by kernel_rfl
end Go.Proofs.YthenlgnbegeliaaGreat
namespace Go.Proofs.YthenlgnbegeliaaGreat
open Go
theorem unf5:Tryz.prog.unfollowed 5=true:=by kernel_rfl
theorem ft8_5:(Rows.topAlikeRow.inPlace == Tryz.prog.inPlace 5)=true:=by kernel_rfl
theorem ft9_5:(Rows.topAlikeRow.unfollowed == Tryz.prog.unfollowed 5)=true:=by rw[unf5];rfl
theorem ft10_5:(Rows.topAlikeRow.recurses == Tryz.prog.recurses 5)=true:=by
 have h:Tryz.prog.recurses 5=true:=by unfold Program.recurses;rw[unf5,Bool.true_or]
 rw[h];rfl
theorem ft11_5:(Rows.topAlikeRow.named == Tryz.prog.varsNamed 5)=true:=by kernel_rfl
end Go.Proofs.YthenlgnbegeliaaGreat
namespace Go.Proofs.YthenlgnbegeliaaGreat
open Go
theorem facts5:joinedFacts Tryz.prog 5 Tryz.f5 Rows.topAlikeSpec Rows.topAlikeRow=true:=by
 simp only[joinedFacts,Bool.and_eq_true]
 exact⟨⟨⟨⟨⟨⟨⟨⟨⟨⟨⟨⟨⟨⟨⟨⟨⟨⟨⟨⟨⟨⟨⟨⟨⟨⟨⟨⟨⟨⟨⟨ft1_5,ft2_5⟩,ft3_5⟩,ft4_5⟩,ft5_5⟩,rfl⟩,ft6_5⟩,rfl⟩,ft7_5⟩,ft8_5⟩,ft9_5⟩,ft10_5⟩,ft11_5⟩,(by kernel_rfl)⟩,(by kernel_rfl)⟩,(by kernel_rfl)⟩,(by kernel_rfl)⟩,(by kernel_rfl)⟩,(by kernel_rfl)⟩,(by kernel_rfl)⟩,(by kernel_rfl)⟩,(by kernel_rfl)⟩,ft14_5⟩,rfl⟩,ft12_5⟩,ft13_5⟩,ft15_5⟩,ft16_5⟩,(by kernel_rfl)⟩,(by kernel_rfl)⟩,(by kernel_rfl)⟩,(by kernel_rfl)⟩
theorem inst5:decide (Tryz.f5.isInstance Tryz.prog Rows.topAlikeRow.origin Rows.topAlikeRow.targs)=true:=by kernel_rfl
theorem wrap5:Tryz.f5.isWrapper Tryz.prog Rows.topAlikeRow.wrapper Rows.topAlikeRow.mainSum:=by
 unfold Func.isWrapper;first|(rw[if_pos (by decide +kernel)];kernel_rfl)|(rw[if_neg (by decide +kernel)];exact⟨rfl,rfl⟩)
theorem over5:Rows.topAlikeRow.holds Tryz.pinned (OpenSpec.ofChange Rows.topAlikeSpec):=
 OpenClaim.holds_of_wide 5 Tryz.f5 rfl rfl rfl rfl rfl rfl rfl ⟨rfl,rfl,rfl,rfl,rfl⟩ rfl rfl rfl rfl rfl name5 Tryz.func5 facts5
  (of_decide_eq_true inst5) wrap5
  (fun os started H enc _=>lifted5 os started H enc)
theorem topAlike:Rows.TopAlikeSaid:=over5
end Go.Proofs.YthenlgnbegeliaaGreat
