/- Texts that the claim rests on: CSize, VEng, CCheck, CHead, CFirst, CHeader, CRowS, CLiftG, VCPiece, VCPiece2, VCPiece3, VCPiece4, VCPiece5, VPiece, VCRange, CPlan, CMake, PFlat, CFlat, PRun, CExec, CTape. No condition. -/
import Derived.KernelRfl
import Derived.RangeFuncLeaves
import Derived.RangeFuncNested
import Derived.Test.YthenlgnbegeliaaGreatM02
namespace Go.VC
open Go Go.Proofs
variable {H:Heap}{R:Value->Heap->Prop}
def framesC (F:List (Nat × UInt64 × Nat)):List Value:=F.flatMap fun f=>[.int .i64 (f.1:Int),.int .i64 (f.2.2:Int)]
theorem framesC_length (F:List (Nat × UInt64 × Nat)):(framesC F).length=F.length*2:=by
 induction F with
 | nil=>rfl
 | cons f F ih=>simp only[framesC,List.flatMap_cons,List.length_append,List.length_cons,List.length_nil] at *;omega
theorem framesC_app (F:List (Nat × UInt64 × Nat))(a:Nat)(v:UInt64)(w:Nat):framesC (F++[(a,v,w)])=framesC F++[.int .i64 (a:Int),.int .i64 (w:Int)]:=by simp[framesC]
theorem Buf.top {H:Heap}{n:Nat}{a:Option Addr}{m c:Nat}{X:List Value}{u w:Value}(h:Buf 2 H n a (m+1) c (X++[u,w]))(hX:X.length=m*2) :
  ∃b,a=some ⟨b,0,none⟩/\n<=b/\rd H b (m*2)=some u/\rd H b (m*2+1)=some w/\WOk H b (m*2+1) 1/\∀z,Buf 2 (wr H b (m*2+1) z) n a (m+1) c (X++[u,z]):=by
 have hc:=h.le
 rcases h.ok with h0|⟨b,e,hn,hr,hw⟩
 ·omega
 ·have h2:=(rdL_append.1 hr).2
  rw[hX,Nat.zero_add] at h2
  refine⟨b,e,hn,h2.1,h2.2.1,wok_sub hw (by omega) (by omega),fun z=>⟨by simp[hX];omega,hc,.inr ⟨b,e,hn,?_,wok_wr hw⟩⟩⟩
  have:=rdL_wr_set (k:=m*2+1) (v:=z) hr
  rw[Nat.zero_add] at this
  have e2:(X++[u,w]).set (m*2+1) z=X++[u,z]:=by
   rw[List.set_append,if_neg (by omega),hX,show m*2+1-m*2=1 from by omega];rfl
  rwa [e2] at this
theorem c261 {q:Nat}(x y:Int)(h:RowI H (some ⟨q,0,none⟩) 2 [x,y])(h1:I64 x)(h2:I64 (x+y))(k:R (.int .i64 (x+y)) H):Ru 261 [.slice (some ⟨q,0,none⟩) 2 2] H R:=by
 refine v261 _ _ _ ⟨fun s i H'=>H'=H/\((i=0/\s=0)\/(i=1/\s=x)\/(i=2/\s=x+y)),fun _ i _=>(2-i).toNat,⟨rfl,.inl ⟨rfl,rfl⟩⟩,?_⟩
 rintro _ s i ⟨rfl,hs⟩
 refine⟨fun hlt=>?_,fun hge=>?_⟩
 ·rcases hs with ⟨rfl,rfl⟩|⟨rfl,rfl⟩|⟨rfl,rfl⟩
  ·refine RowI.idx h (by omega) hlt ?_
   exact⟨by simpa using h1,⟨by omega,by omega⟩,⟨rfl,.inr (.inl ⟨by omega,by simp⟩)⟩,by dsimp only;omega⟩
  ·refine RowI.idx h (by omega) hlt ?_
   exact⟨h2,⟨by omega,by omega⟩,⟨rfl,.inr (.inr ⟨by omega,by simp⟩)⟩,by dsimp only;omega⟩
  ·omega
 ·rcases hs with ⟨rfl,rfl⟩|⟨rfl,rfl⟩|⟨rfl,rfl⟩
  ·omega
  ·omega
  ·exact k
structure ZW (H0 H:Heap)(ops:List Op)(l q q1:Nat)(a:Option Addr)(lf c k:Nat)(F:List (Nat × UInt64 × Nat))(sz:List Int):Prop where
 fold:zfold (ops.take k) 0 ([(0,0,0)],List.replicate l 0)=some (F,sz)
 len:sz.length=l
 hlf:lf=F.length
 buf:Buf 2 H (max q q1+1) a lf c (framesC F)
 s:Own H q (i64s sz)
 r:∃rs:List Int,rs.length=l/\Own H q1 (i64s rs)
 ext:Ext H0 H
 scan:∃d,scan (ops.take k) 0=some d/\F.length=d+1
 at_:∀f∈F.drop 1,∃_:f.1<l,∀h':f.1<ops.length,(ops[f.1]).v=f.2.1
 few:∀f∈F,f.2.2<=65536*k
theorem zfold_succ {ops:List Op}{k:Nat}{s0 s:MS}(hk:k<ops.length)(h:zfold (ops.take k) 0 s0=some s):zfold (ops.take (k+1)) 0 s0=zstep ops[k] k s:=by
 rw[List.take_succ_eq_append_getElem hk,zfold_append,h,Option.bind_some]
 simp only[zfold,List.length_take,Nat.zero_add,Nat.min_eq_left (Nat.le_of_lt hk)]
 cases zstep ops[k] k s<;>rfl
theorem zfold_none {ops:List Op}{k:Nat}{s0:MS}(h:zfold (ops.take k) 0 s0=none):zfold ops 0 s0=none:=by
 rw[<-List.take_append_drop k ops,zfold_append,h];rfl
theorem scan_prefix {ops:List Op}{k d:Nat}(hk:k<ops.length)(hs:scan ops 0=some 0)(h:scan (ops.take k) 0=some d):0<=ops[k].kind/\ops[k].kind<=7/\(ops[k].kind=0->1<=d):=by
 have e:ops=ops.take k++ops[k] ::ops.drop (k+1):=by rw[<-List.drop_eq_getElem_cons hk,List.take_append_drop]
 rw[e,scan_append,h,Option.bind_some] at hs
 simp only[scan] at hs
 split at hs
 ·cases hs
 ·refine⟨by omega,by omega,fun h0=>?_⟩
  rw[if_pos h0] at hs
  cases d with
  | zero=>cases hs
  | succ d=>omega
theorem c203 {a:Option Addr}{l c:Nat}{ops:List Op}(h:RowO H a l ops)(hl:l<=4398046511104)
  (kn:∀H',scan ops 0≠some 0->Ext H H'->R (.tuple #[.slice none 0 0,.slice none 0 0,.int .i64 0,.int .i64 6]) H')
  (ke:∀H' t,Tree.Ok t->t.flat=ops->¬(t.SizeOk/\t.size<=65536)->Ext H H'->R (.tuple #[.slice none 0 0,.slice none 0 0,.int .i64 0,.int .i64 9]) H')
  (ko:∀H' t a1 a2,Tree.Ok t->t.flat=ops->t.SizeOk->t.size<=65536->Ext H H'->Buf 1 H' H.size a1 l l (i64s (sizesT t))->R (.tuple #[.slice a1 l l,.slice a2 l l,.int .i64 (t.size:Int),.int .i64 0]) H') :
  Ru 203 [.slice a l c] H R:=by
 have hlen:=h.len
 refine v203 _ _ _ (c130 h hl (fun H1 t a1 ht hf e1 _=>⟨_,_,_,_,rfl,by simp,fun _=>?_⟩) (fun H1 hs e1=>⟨_,_,_,_,rfl,fun _=>kn _ hs e1,by simp⟩))
 have hsc:scan ops 0=some 0:=(scan_iff _).2 ⟨t,ht,hf⟩
 have htree:=zfold_tree ht [] [] [] 0 0 0
 rw[hf,hlen] at htree
 simp only[List.nil_append,List.append_nil,List.length_nil,Nat.zero_add] at htree
 have hbig:(0:Int)<=(l:Int)/\(l:Int)<=(l:Int)/\(8:Int)*(l:Int)<=(281474976710656:Int)/\I64 (l:Int):=⟨by omega,by omega,by omega,by omega,by omega⟩
 simp only[Int.toNat_natCast,rep_i64]
 refine⟨fun b lb cb b1 lb1 cb1 H2=>∃q q1,b=some ⟨q,0,none⟩/\l=lb/\l=cb/\b1=some ⟨q1,0,none⟩/\l=lb1/\l=cb1/\q≠q1/\H.size<=q/\H.size<=q1/\q<H2.size/\q1<H2.size/\Own H2 q (i64s (List.replicate l 0))/\Own H2 q1 (i64s (List.replicate l 0))/\Ext H H2,
  ⟨⟨hbig,fun H2 q n2=>⟨hbig,fun H3 q1 n3=>?_⟩⟩,hbig,fun H2 q n2=>⟨hbig,fun H3 q1 n3=>?_⟩⟩,?_⟩
 ·have:=n2.ge;have:=n3.ge;have:=n2.lt;have:=n3.lt;have:=e1.1
  exact⟨q,q1,rfl,rfl,rfl,rfl,rfl,rfl,by omega,by omega,by omega,by omega,by omega,n2.own.mod n3.mod (by simp),n3.own,(e1.new n2).new n3⟩
 ·have:=n2.ge;have:=n3.ge;have:=n2.lt;have:=n3.lt;have:=e1.1
  exact⟨q1,q,rfl,rfl,rfl,rfl,rfl,rfl,by omega,by omega,by omega,by omega,by omega,n3.own,n2.own.mod n3.mod (by simp),(e1.new n2).new n3⟩
 rintro H2 _ _ _ _ _ _ ⟨q,q1,rfl,rfl,rfl,rfl,rfl,rfl,hqq,hq,hq1,hql,hq1l,oq,oq1,e2⟩
 refine⟨trivial,fun H3 qf n3=>⟨fun e af lf cf H'=>(e=9/\¬t.SizeOk/\Ext H H')\/(e=0/\t.SizeOk/\Ext H H'/\Buf 2 H' 0 af 1 cf (framesC [(0,0,t.size)])/\lf=1/\Own H' q (i64s (sizesT t))),
  ⟨fun e af lf cf i H'=>e=0/\∃k:Nat,i=k/\k<=l/\∃F sz,ZW H H' ops l q q1 af lf cf k F sz,fun _ _ _ _ i _=>(l-i).toNat,⟨rfl,0,rfl,by omega,[(0,0,0)],List.replicate l 0,?_⟩,?_⟩,?_⟩⟩
 ·refine⟨rfl,by simp,rfl,?_,oq.mod n3.mod (by simp),⟨_,by simp,oq1.mod n3.mod (by simp)⟩,e2.new n3,⟨0,rfl,rfl⟩,by simp,by simp⟩
  have:=n3.ge
  exact (n3.buf (sz:=2) (l:=1) rfl).down (by omega)
 ·rintro H4 _ af lf cf _ ⟨rfl,k,rfl,hkl,F,sz,Z⟩
  refine⟨fun hlt=>?_,fun hge=>?_⟩
  ·have hk:k<ops.length:=by omega
   obtain⟨hfo,hsl,hlf,hB,hs,⟨rs,hrl,hr⟩,hE,⟨d,hd,hFd⟩,hat,hfew⟩:=Z
   obtain⟨hk0,hk7,hkd⟩:=scan_prefix hk hsc hd
   have hnz:=zfold_succ hk hfo
   have hds:scan (ops.take (k+1)) 0=scan [ops[k]] d:=by rw[List.take_succ_eq_append_getElem hk,scan_append,hd];rfl
   have hne:F≠[]:=by intro e;rw[e] at hFd;simp at hFd
   obtain⟨F',⟨at_,v,w⟩,rfl⟩:∃F' ft,F=F'++[ft]:=⟨F.dropLast,F.getLast hne,(List.dropLast_concat_getLast hne).symm⟩
   have hFl:F'.length=d:=by simpa using hFd
   have hlf1:lf=F'.length+1:=by rw[hlf];simp
   subst hlf1
   have hwb:w<=65536*k:=hfew (at_,v,w) (by simp)
   have hdk:d<=k:=by have:=scan_bound _ _ _ hd;simp at this;omega
   rw[framesC_app] at hB
   refine RowO.load (Ext.row hE h) (by omega) hlt rfl fun H5 p hO e5 hp hpl=>?_
   simp only[Int.toNat_natCast] at hO
   have hE5:=hE.thenExt e5
   obtain⟨b,rfl,hnb,hr1,hr2,hw2,hset⟩:=Buf.top (m:=F'.length) (hB.ext e5) (by rw[framesC_length])
   have hs5:=hs.mod e5 (by simp)
   have hr5:=hr.mod e5 (by simp)
   have elf:(((F'.length+1:Nat):Int)-1).toNat=F'.length:=by omega
   have hB5:=hB.ext e5
   rw[elf]
   have hz5:=e5.1
   refine⟨⟨by omega,by omega⟩,b,0,rfl,⟨by omega,by omega⟩,_,hO.rd 0 rfl,fun h7=>?_,fun h7=>⟨fun h0=>?_,fun h0=>?_⟩⟩
   ·refine⟨rfl,fun H6 q6 n6=>⟨_,rfl,.inr ⟨q6,0,rfl,n6.rdL⟩,?_⟩⟩
    have hdq:max q q1+1<=H5.size:=by have:=hE.1;have:=hs.lt (by intro e;have:=congrArg List.length e;rw[i64s_length,hsl,List.length_nil] at this;omega);have:=hr.lt (by intro e;have:=congrArg List.length e;rw[i64s_length,hrl,List.length_nil] at this;omega);omega
    refine (hB5.ext n6.mod).app' (Nat.le_trans hdq n6.mod.1) rfl rfl ?_ (by omega) (by omega) fun a7 c7 H7 S hB7 m7 hS7 hf7=>?_
    ·intro x hx;simp at hx;rcases hx with rfl|rfl<;>trivial
    ·have hSn:∀x,x<max q q1+1->x∉S:=fun x hx hm=>by have:=(hS7 x hm).1;omega
     refine⟨⟨by omega,by omega⟩,⟨rfl,k+1,by push_cast;rfl,by omega,F'++[(at_,v,w)]++[(k,ops[k].v,0)],sz,⟨?_,hsl,by simp,?_,(hs5.mod n6.mod (by simp)).mod m7 (hSn _ (by omega)),⟨rs,hrl,(hr5.mod n6.mod (by simp)).mod m7 (hSn _ (by omega))⟩,(hE5.new n6).trans_new m7 fun x hx=>.inr (by have:=(hS7 x hx).1;omega),⟨d+1,?_,by simp[hFl]⟩,?_,?_⟩⟩,by (try dsimp only);omega⟩
     ·rw[hnz];unfold zstep;rw[if_pos h7]
     ·rw[framesC_app,framesC_app];exact hB7
     ·rw[hds];simp only[scan];rw[if_neg (by omega),if_neg (by omega),if_pos h7]
     ·intro f hf'
      rw[List.drop_append_of_le_length (by simp)] at hf'
      rcases List.mem_append.1 hf' with h'|h'
      ·exact hat f h'
      ·simp at h';subst h';exact⟨by dsimp only;omega,fun _=>rfl⟩
     ·intro f hf'
      rcases List.mem_append.1 hf' with h'|h'
      ·have:=hfew f h';omega
      ·simp at h';subst h';exact Nat.zero_le _
   ·have hd1:=hkd h0
    obtain⟨F2,⟨a2,v2,w2⟩,rfl⟩:∃F2 ft,F'=F2++[ft]:=by
     have hne2:F'≠[]:=by intro e;rw[e] at hFl;simp at hFl;omega
     exact⟨F'.dropLast,F'.getLast hne2,(List.dropLast_concat_getLast hne2).symm⟩
    obtain⟨hatl,hatv⟩:=hat (at_,v,w) (by
     rw[List.drop_append_of_le_length (by simp)];simp)
    obtain⟨bo,oo,eo,hro⟩:=RowO.rdL (Ext.row hE5 h) (i:=(at_:Int)) (by omega) (by dsimp only at hatl;omega)
    simp only[Int.toNat_natCast] at hro
    refine⟨_,by rw[Nat.zero_add];exact hr2,_,by rw[Nat.zero_add];exact hr1,bo,oo,eo,⟨by omega,by dsimp only at hatl;omega⟩,_,(by have:=hro.2.2.2.2.1;simpa [Nat.add_assoc] using this),?_⟩
    rw[hatv (by dsimp only at hatl;omega)]
    refine c260 w v (fun hBk=>⟨_,_,rfl,by simp,fun _=>?_⟩) (fun hBk=>⟨_,_,rfl,fun _=>?_,by simp⟩)
    ·have hal:at_<l:=hatl
     have hnv:v.toNat*w<=65536:=by
      rcases hBk with rfl|⟨h1,h2⟩
      ·simp
      ·exact Nat.le_trans (Nat.mul_le_mul_right w h2) (Nat.div_mul_le_self _ _)
     refine⟨_,by rw[Nat.zero_add];exact hr1,_,by rw[Nat.zero_add];exact hr1,_,by rw[Nat.zero_add];exact hr2,q,0,rfl,⟨by omega,by omega⟩,wok_sub hs5.2 (by omega) (by rw[i64s_length,hsl];omega),?_⟩
     rintro _ rfl
     simp only[Int.toNat_natCast,Nat.zero_add]
     have m6:Mod [q] H5 (wr H5 q at_ (.int .i64 ((v.toNat*w:Nat):Int))):=Mod.refl.wr (.inl (by simp))
     have hs6:=hs5.wr at_ (.int .i64 ((v.toNat*w:Nat):Int))
     rw[i64s_set] at hs6
     have hr6:=hr5.mod m6 (by simp;omega)
     have hB6:=hB5.mod m6 (by simp;omega)
     generalize wr H5 q at_ (.int .i64 ((v.toNat*w:Nat):Int))=H6 at *
     refine⟨q1,0,rfl,⟨by omega,by omega⟩,wok_sub hr6.2 (by omega) (by rw[i64s_length,hrl];omega),?_⟩
     rintro _ rfl
     simp only[Nat.zero_add]
     have m7:Mod [q1] H6 (wr H6 q1 at_ (.int .i64 (w:Int))):=Mod.refl.wr (.inl (by simp))
     have hr7:=hr6.wr at_ (.int .i64 (w:Int))
     rw[i64s_set] at hr7
     have hs7:=hs6.mod m7 (by simp;omega)
     have hB7:=hB6.mod m7 (by simp;omega)
     generalize wr H6 q1 at_ (.int .i64 (w:Int))=H7 at *
     rw[framesC_app] at hB7
     have hF2l:(F2++[(a2,v2,w2)]).length=F2.length+1:=by simp
     have hB7':Buf 2 H7 (max q q1+1) (some ⟨b,0,none⟩) (F2.length+1) cf (framesC F2++[.int .i64 (a2:Int),.int .i64 (w2:Int)]):=hB7.shrink (by simp[framesC_length];omega) (by omega)
     obtain⟨b',eb',_,_,hr2',_,_⟩:=Buf.top (m:=F2.length) hB7' (by rw[framesC_length])
     cases eb'
     have hcf:=hB5.le
     have ef2:((((F2++[(a2,v2,w2)]).length:Nat):Int)-1).toNat=F2.length:=by rw[hF2l];omega
     refine⟨⟨by omega,by omega⟩,⟨by omega,by omega⟩,⟨by omega,by omega⟩,⟨by omega,by omega⟩,b,0,rfl,⟨by omega,by omega⟩,_,by rw[ef2,Nat.zero_add];exact hr2',fun H8 q8 n8=>?_⟩
     have hw2b:w2<=65536*k:=hfew (a2,v2,w2) (by simp)
     refine c261 _ _ ⟨rfl,.inr ⟨q8,0,rfl,n8.rdL⟩⟩ ⟨by omega,by omega⟩ ⟨by omega,by omega⟩ ⟨_,rfl,b,0,rfl,⟨by omega,by omega⟩,?_⟩
     obtain⟨b',eb',_,_,_,hw8,hset8⟩:=Buf.top (m:=F2.length) (hB7'.ext n8.mod) (by rw[framesC_length])
     cases eb'
     rw[ef2,Nat.zero_add]
     refine⟨hw8,?_⟩
     rintro _ rfl
     have hB9:=hset8 (.int .i64 ((w2:Int)+((v.toNat*w:Nat):Int)))
     have m9:Mod [b] H8 (wr H8 b (F2.length*2+1) (.int .i64 ((w2:Int)+((v.toNat*w:Nat):Int)))):=Mod.refl.wr (.inl (by simp))
     have z67:=m6.1;have z78:=m7.1
     have hE7:Ext H H7:=(hE5.trans_new m6 (by simp;omega)).trans_new m7 (by simp;omega)
     have hqH:H.size<=b:=by omega
     refine⟨⟨by omega,by omega⟩,⟨(by first|rfl|trivial),k+1,by push_cast;rfl,by omega,F2++[(a2,v2,w2+v.toNat*w)],sz.set at_ ((v.toNat*w:Nat):Int),⟨?_,by simp[hsl],?_,?_,(hs7.mod n8.mod (by simp)).mod m9 (by simp;omega),⟨_,by simp[hrl],(hr7.mod n8.mod (by simp)).mod m9 (by simp;omega)⟩,(hE7.new n8).trans_new m9 (by simpa using hqH),⟨d-1,?_,?_⟩,?_,?_⟩⟩,by (try dsimp only);omega⟩
     ·rw[hnz];unfold zstep
      rw[if_neg (by omega),if_pos h0]
      simp only[List.getLast?_append,List.getLast?_singleton,Option.some_or,List.dropLast_concat]
      rw[if_pos (show BlockOk w v from hBk),topAdd_app]
     ·simp
     ·rw[framesC_app,hF2l];push_cast at hB9 ⊢;exact hB9
     ·rw[hds];simp only[scan]
      obtain⟨d',rfl⟩:∃d',d=d'+1:=⟨d-1,by omega⟩
      rw[if_neg (by omega),if_pos h0];simp
     ·simp at hFl ⊢;omega
     ·intro f hf'
      have hat2:=hat
      clear hat
      cases F2 with
      | nil=>simp at hf'
      | cons g F3=>
       simp only[List.cons_append,List.drop_succ_cons,List.drop_zero] at hf' hat2
       rcases List.mem_append.1 hf' with h'|h'
       ·exact hat2 f (by simp[h'])
       ·simp at h';subst h';exact hat2 (a2,v2,w2) (by simp)
     ·intro f hf'
      rcases List.mem_append.1 hf' with h'|h'
      ·have:=hfew f (by simp[h']);omega
      ·simp at h';subst h';dsimp only;omega
    ·refine .inl ⟨rfl,fun hso=>?_,hE5⟩
     have hn:zfold ops 0 ([(0,0,0)],List.replicate l 0)=none:=by
      refine zfold_none (k:=k+1) ?_
      rw[hnz];unfold zstep
      rw[if_neg (by omega),if_pos h0]
      simp only[List.getLast?_append,List.getLast?_singleton,Option.some_or]
      rw[if_neg (show ¬BlockOk w v from hBk)]
     rw[htree.1 hso] at hn;cases hn
   ·refine⟨_,rfl,hO.1,c262 _ (fun hdk2 H6 e6=>⟨_,_,rfl,fun _=>?_,by simp⟩) (fun hdk2 H6 e6=>?_)⟩
    ·have hs6:=hs5.mod e6 (by simp)
     have hr6:=hr5.mod e6 (by simp)
     have hB6:=hB5.ext e6
     refine⟨q,0,rfl,⟨by omega,by omega⟩,wok_sub hs6.2 (by omega) (by rw[i64s_length,hsl];omega),?_⟩
     rintro _ rfl
     simp only[Int.toNat_natCast,Nat.zero_add]
     have m7:Mod [q] H6 (wr H6 q k (.int .i64 1)):=Mod.refl.wr (.inl (by simp))
     have hs7:=hs6.wr k (.int .i64 1)
     rw[i64s_set] at hs7
     have hr7:=hr6.mod m7 (by simp;omega)
     have hB7:=hB6.mod m7 (by simp;omega)
     have hE7:Ext H (wr H6 q k (.int .i64 1)):=(hE5.thenExt e6).trans_new m7 (by simp;omega)
     generalize wr H6 q k (.int .i64 1)=H7 at *
     obtain⟨b',eb',_,_,hr8,hw8,hset8⟩:=Buf.top (m:=F'.length) hB7 (by rw[framesC_length])
     cases eb'
     refine⟨_,hr8,⟨by omega,by omega⟩,hw8,?_⟩
     rintro _ rfl
     have hB9:=hset8 (.int .i64 ((w:Int)+1))
     have m9:Mod [b] H7 (wr H7 b (F'.length*2+1) (.int .i64 ((w:Int)+1))):=Mod.refl.wr (.inl (by simp))
     refine⟨⟨by omega,by omega⟩,⟨(by first|rfl|trivial),k+1,by push_cast;rfl,by omega,F'++[(at_,v,w+1)],sz.set k 1,⟨?_,by simp[hsl],by simp,?_,hs7.mod m9 (by simp;omega),⟨_,hrl,hr7.mod m9 (by simp;omega)⟩,hE7.trans_new m9 (by simp;omega),⟨d,?_,by simp[hFl]⟩,?_,?_⟩⟩,by (try dsimp only);omega⟩
     ·rw[hnz];unfold zstep
      rw[if_neg h7,if_neg h0,topAdd_app]
     ·rw[framesC_app];push_cast at hB9 ⊢;exact hB9
     ·rw[hds];simp only[scan]
      rw[if_neg (by omega),if_neg h0,if_neg h7]
     ·intro f hf'
      have hat2:=hat
      clear hat
      cases F' with
      | nil=>simp at hf'
      | cons g F3=>
       simp only[List.cons_append,List.drop_succ_cons,List.drop_zero] at hf' hat2
       rcases List.mem_append.1 hf' with h'|h'
       ·exact hat2 f (by simp[h'])
       ·simp at h';subst h';exact hat2 (at_,v,w) (by simp)
     ·intro f hf'
      rcases List.mem_append.1 hf' with h'|h'
      ·have:=hfew f (by simp[h']);omega
      ·simp at h';subst h';dsimp only;omega
    ·simp[askD] at hdk2;omega
  ·have hk:k=l:=by omega
   subst hk
   obtain⟨hfo,hsl,hlf,hB,hs,_,hE,_,_,_⟩:=Z
   rw[<-hlen,List.take_length,hlen] at hfo
   by_cases hso:t.SizeOk
   ·rw[htree.1 hso] at hfo
    cases hfo
    exact .inr ⟨rfl,hso,hE,by have:=hB.down (Nat.zero_le _);rw[hlf] at this;exact this,hlf,hs⟩
   ·rw[htree.2 hso] at hfo;cases hfo
 ·rintro H4 e af lf cf hJ
  refine⟨fun e' H'=>H'=H4/\((e'=9/\¬(t.SizeOk/\t.size<=65536)/\Ext H H')\/(e'=0/\t.size<=65536/\t.SizeOk/\Ext H H'/\Buf 2 H' 0 af 1 cf (framesC [(0,0,t.size)])/\lf=1/\Own H' q (i64s (sizesT t)))),⟨fun h0=>?_,fun h0=>?_⟩,?_⟩
  ·rcases hJ with ⟨rfl,_⟩|⟨_,hso,hE,hB,rfl,hs⟩
   ·cases h0
   ·obtain⟨b,rfl,_,hr1,hr2,_⟩:=Buf.top (X:=[]) (m:=0) hB rfl
    refine⟨b,0,rfl,⟨by omega,by omega⟩,_,hr2,fun hb=>⟨rfl,.inl ⟨rfl,fun h'=>by dsimp only at hb;omega,hE⟩⟩,fun hb=>⟨rfl,.inr ⟨h0,by dsimp only at hb;omega,hso,hE,hB,rfl,hs⟩⟩⟩
  ·rcases hJ with ⟨rfl,hn,hE⟩|⟨rfl,_⟩
   ·exact⟨rfl,.inl ⟨rfl,fun h'=>hn h'.1,hE⟩⟩
   ·exact (h0 rfl).elim
  ·rintro _ e' ⟨rfl,(⟨rfl,hn,hE⟩|⟨rfl,hz,hso,hE,hB,rfl,hs⟩)⟩
   ·exact⟨fun _=>ke _ t ht hf hn hE,by simp⟩
   ·obtain⟨b,rfl,_,hr1,hr2,_⟩:=Buf.top (X:=[]) (m:=0) hB rfl
    refine⟨by simp,fun _=>⟨b,0,rfl,⟨by omega,by omega⟩,_,hr2,hr2,hr2,?_⟩⟩
    refine ko _ t _ _ ht hf hso hz hE ⟨by simp[sizesT_length,hf,hlen],Nat.le_refl _,.inr ⟨q,rfl,hq,hs.1,?_⟩⟩
    have:=hs.2
    simpa [sizesT_length,hf,hlen] using this
end Go.VC
set_option linter.unusedVariables false
namespace Go.VC
open Go Go.Proofs
set_option maxRecDepth 100000
variable {H:Heap}{R:Value->Heap->Prop}
theorem v9 (x0:List Value)(h:∀H' p,New H x0 27 H' p->∃cs:List Value,cs.length=9/\RdL H' p 0 cs/\Ru 49 [.agg cs.toArray] H' fun r H'=>∃v n,r=.tuple #[v,.i n]/\(¬n=0->R (.tuple #[.pointer none,.i n]) H')/\(¬¬n=0->∃cs:List Value,cs.length=9/\RdL H' p 0 cs/\Ru 50 [.agg cs.toArray,v] H' fun r H'=>R (.tuple #[r,.i 0]) H')):Ru 9 [.agg x0.toArray] H R:=vcr nn [.agg x0] h
theorem v11 (x0 o0:Nat)(h:Ru 52 [.p x0 o0] H fun r H'=>∃c,r=.bool c/\(c=true->∃n,rd H' x0 (o0+1)=some (.i n)/\(n=2->∃c,rd H' x0 (o0+3)=some (.bool c)/\R (.bool !c) H')/\(¬n=(2:Int)->R (.bool false) H'))/\(c=false->R (.bool false) H')):Ru 11 [.p x0 o0] H R:=vcr nn [.ptr x0 o0] h
theorem v12 (x0 o0:Nat)(h:∀H' p,New H [.i 0,.i 0] 39 H' p->∃c,rd H' x0 (o0+4)=some (.bool c)/\(c=true->2=2/\(∀v∈[.i 0,.i 0],One v)/\WOk H' p 0 2/\∀H'_1,H'_1=wrL H' p 0 [.i 0,.i 0]->∃cs:List Value,cs.length=2/\RdL H'_1 p 0 cs/\R (.tuple #[.agg cs.toArray,.bool false,.i 14]) H'_1)/\(c=false->∃v,rd H' x0 (o0+2)=some v/\∃g u v_1,v=.func (.func g) u v_1/\callable Tryz.prog g=true/\Ru g (Array.toList u++[.p x0 o0]++Array.toList v_1) H' fun r H'=>∃cs:List Value,cs.length=2/\∃c,r=.tuple #[.agg cs.toArray,.bool c]/\∀H'_1 p_1,New H' [.i 0,.i 0] 39 H'_1 p_1->cs.length=2/\(∀v∈cs,One v)/\WOk H'_1 p_1 0 2/\∀H',H'=wrL H'_1 p_1 0 cs->((!c)=true->2=2/\(∀v∈[.i 0,.i 0],One v)/\WOk H' p 0 2/\∀H'_2,H'_2=wrL H' p 0 [.i 0,.i 0]->∃cs:List Value,cs.length=2/\RdL H'_2 p 0 cs/\R (.tuple #[.agg (List.toArray cs),.bool false,.i 0]) H'_2)/\((!c)=false->∃v,rd H' x0 o0=some v/\∃cs:List Value,cs.length=2/\RdL H' p_1 0 cs/\Ru 53 [v,.agg cs.toArray] H' fun r H'=>∃n,r=.i n/\(¬n=(0:Int)->2=2/\(∀v∈[.i 0,.i 0],One v)/\WOk H' p 0 2/\∀H'_2,H'_2=wrL H' p 0 [.i 0,.i 0]->∃cs:List Value,cs.length=2/\RdL H'_2 p 0 cs/\R (.tuple #[.agg cs.toArray,.bool false,.i n]) H'_2)/\(¬¬n=0->∃cs:List Value,cs.length=2/\RdL H' p_1 0 cs/\cs.length=2/\(∀v∈cs,One v)/\WOk H' p 0 2/\∀H'_2,H'_2=wrL H' p 0 cs->∃cs:List Value,cs.length=2/\RdL H'_2 p 0 cs/\R (.tuple #[.agg cs.toArray,.bool true,.i 0]) H'_2)))):Ru 12 [.p x0 o0] H R:=vcr nn [.ptr x0 o0] h
theorem v13 (x0 o0:Nat)(h:Ru 54 [.p x0 o0] H fun r H'=>Ru 55 [r] H' fun r H'=>∃n,r=.i n/\R (.i n) H'):Ru 13 [.p x0 o0] H R:=vcr nn [.ptr x0 o0] h
theorem v14 (x0 o0:Nat)(x1:Bool)(h:∃c,rd H x0 (o0+4)=some (.bool c)/\(c=true->R (.i 14) H)/\(c=false->Ru 11 [.p x0 o0] H fun r H'=>∃c,r=.bool c/\((!c)=true->R (.i 19) H')/\((!c)=false->((!x1)=true->WOk H' x0 (o0+3) 1/\∀H'_1,H'_1=wr H' x0 (o0+3) (.bool true)->R (.i 0) H'_1)/\((!x1)=false->∃v,rd H' x0 o0=some v/\Ru 56 [v] H' fun r H'=>∃n,r=.i n/\WOk H' x0 (o0+4) 1/\∀H'_1,H'_1=wr H' x0 (o0+4) (.bool (decide (n=14)))->R (.i n) H'_1)))):Ru 14 [.p x0 o0,.bool x1] H R:=vcr nn [.ptr x0 o0,.bl x1] h
theorem v15 (x0:Int)(x1:Int)(h:∃(J:Heap->Prop),((x0<(0:Int)->R (.tuple #[.i 0,.i 2]) H)/\(¬x0<(0:Int)->((65536:Int)<=x0->R (.tuple #[.i 0,.i 2]) H)/\(¬(65536:Int)<=x0->(x1<(1:Int)->R (.tuple #[.i 0,.i 2]) H)/\(¬x1<(1:Int)->((1048576:Int)<x1->R (.tuple #[.i 0,.i 2]) H)/\(¬(1048576:Int)<x1->J H)))))/\∀H,J H->∃(I:Int->Heap->Prop),∃(μ:Int->Heap->Nat),I (1:Int) H/\∀H n,I n H->I64 (x1*n)/\(x0<x1*n->R (.tuple #[.i n,.i 0]) H)/\(¬x0<x1*n->I64 (n*(2:Int))/\I (n*(2:Int)) H/\μ (n*(2:Int)) H<μ n H)):Ru 15 [.i x0,.i x1] H R:=vcr ⟨fun|4=>some [(6,.int .i64)]|_=>none,fun|3=>some []|_=>none⟩ [.int .i64 x0,.int .i64 x1] h
theorem v16 (x0 o0:Nat)(h:∀H' p,New H [.i 0,.i 0,.slice none 0 0] 48 H' p->Ru 54 [.p x0 o0] H' fun r H'=>Ru 57 [r] H' fun r H'=>∃cs:List Value,cs.length=3/\r=.agg cs.toArray/\cs.length=3/\(∀v∈cs,One v)/\WOk H' p 0 3/\∀H'_1,H'_1=wrL H' p 0 cs->∃cs:List Value,cs.length=3/\RdL H'_1 p 0 cs/\R (.agg cs.toArray) H'_1):Ru 16 [.p x0 o0] H R:=vcr nn [.ptr x0 o0] h
theorem v17 (x0 o0:Nat)(h:∃(I:Int->Heap->Prop),∃(μ:Int->Heap->Nat),I (0:Int) H/\∀H n,I n H->Ru 12 [.p x0 o0] H fun r H'=>∃cs:List Value,cs.length=2/\∃c n_1,r=.tuple #[.agg (List.toArray cs),.bool c,.i n_1]/\∀H'_1 p,New H' [.i 0,.i 0] 39 H'_1 p->cs.length=2/\(∀v∈cs,One v)/\WOk H'_1 p 0 2/\∀H',H'=wrL H'_1 p 0 cs->(¬n_1=0->R (.tuple #[.i 0,.i n_1]) H')/\(¬¬n_1=0->(c=true->I64 (n+(1:Int))/\I (n+(1:Int)) H'/\μ (n+(1:Int)) H'<μ n H)/\(c=false->R (.tuple #[.i n,.i 0]) H'))):Ru 17 [.p x0 o0] H R:=vcr ⟨fun|2=>some [(4,.int .i64)]|_=>none,fun _=>none⟩ [.ptr x0 o0] h
theorem v18 (x0 o0:Nat)(h:∀H' p,New H [.int .u64 0,.slice none 0 0,.slice none 0 0] 53 H' p->Ru 54 [.p x0 o0] H' fun r H'=>Ru 58 [r] H' fun r H'=>∃cs:List Value,cs.length=3/\∃n,r=.tuple #[.agg cs.toArray,.i n]/\cs.length=3/\(∀v∈cs,One v)/\WOk H' p 0 3/\∀H'_1,H'_1=wrL H' p 0 cs->∃cs:List Value,cs.length=3/\RdL H'_1 p 0 cs/\R (.tuple #[.agg cs.toArray,.i n]) H'_1):Ru 18 [.p x0 o0] H R:=vcr nn [.ptr x0 o0] h
theorem v31 (x0 o0:Nat)(h:Ru 52 [.p x0 o0] H fun r H'=>∃c,r=.bool c/\(c=true->Ru 16 [.p x0 o0] H' fun r H'=>∃cs:List Value,cs.length=3/\r=.agg cs.toArray/\True/\∃v,cs[1]?=some v/\∃n,v=.i n/\R (.bool (decide (n=0))) H')/\(c=false->R (.bool false) H')):Ru 31 [.p x0 o0] H R:=vcr nn [.ptr x0 o0] h
theorem v34 (x0 o0:Nat)(x1:List Value)(h:∀H' p,New H x1 39 H' p->∃(J:Bool->Heap->Prop),(∃cs:List Value,cs.length=2/\RdL H' p 0 cs/\Ru 80 [.agg cs.toArray] H' fun r H'=>∃c,r=.bool c/\((!c)=true->J true H')/\((!c)=false->∃n,rd H' p 0=some (.i n)/\J (decP ((7:Int)<n) inferInstance) H'))/\∀H c,J c H->(c=true->R (.i 2) H)/\(c=false->∃n,rd H p 0=some (.i n)/\((2:Int)<=n->∃n,rd H p 0=some (.i n)/\(n<=(4:Int)->∃n,rd H p 1=some (.i n)/\∃a l c,rd H x0 (o0+4)=some (.slice a l c)/\((↑l:Int)<=n->R (.i 2) H)/\(¬(↑l:Int)<=n->∃n,rd H p 0=some (.i n)/\∃n_1,rd H p 1=some (.i n_1)/\Ru 81 [.p x0 o0] H fun r H'=>∃cs:List Value,cs.length=8/\r=.agg cs.toArray/\rd H' p 1=some (.i n_1)/\rd H' p 0=some (.int .i64 n)/\((0:Int)<=n/\n<(8:Int))/\∃v,cs[n.toNat*1]?=some v/\∃g u v_1,v=.func (.func g) u v_1/\callable Tryz.prog g=true/\Ru g (Array.toList u++[.i n_1]++Array.toList v_1) H' fun r H'=>∃n,r=.i n/\R (.i n) H'))/\(¬n<=(4:Int)->∃n,rd H p 0=some (.i n)/\∃n_1,rd H p 1=some (.i n_1)/\Ru 81 [.p x0 o0] H fun r H'=>∃cs:List Value,cs.length=8/\r=.agg cs.toArray/\rd H' p 1=some (.i n_1)/\rd H' p 0=some (.i n)/\((0:Int)<=n/\n<(8:Int))/\∃v,cs[n.toNat*1]?=some v/\∃g u v_1,v=.func (.func g) u v_1/\callable Tryz.prog g=true/\Ru g (Array.toList u++[.i n_1]++Array.toList v_1) H' fun r H'=>∃n,r=.i n/\R (.i n) H'))/\(¬(2:Int)<=n->∃n,rd H p 0=some (.i n)/\∃n_1,rd H p 1=some (.i n_1)/\Ru 81 [.p x0 o0] H fun r H'=>∃cs:List Value,cs.length=8/\r=.agg cs.toArray/\rd H' p 1=some (.i n_1)/\rd H' p 0=some (.int .i64 n)/\((0:Int)<=n/\n<(8:Int))/\∃v,cs[n.toNat*1]?=some v/\∃g u v_1,v=.func (.func g) u v_1/\callable Tryz.prog g=true/\Ru g (Array.toList u++[.i n_1]++Array.toList v_1) H' fun r H'=>∃n,r=.i n/\R (.i n) H'))):Ru 34 [.p x0 o0,.agg x1.toArray] H R:=vcr ⟨fun _=>none,fun|4=>some [(8,.bool)]|_=>none⟩ [.ptr x0 o0,.agg x1] h
theorem v42 (x0 o0:Nat)(h:∀H' p,New H [.i 0,.i 0,.i 0,.i 0] 64 H' p->Ru 54 [.p x0 o0] H' fun r H'=>Ru 87 [r] H' fun r H'=>∃cs:List Value,cs.length=4/\r=.agg (List.toArray cs)/\cs.length=4/\(∀v∈cs,One v)/\WOk H' p 0 4/\∀H'_1,H'_1=wrL H' p 0 cs->∃cs:List Value,cs.length=4/\RdL H'_1 p 0 cs/\R (.agg cs.toArray) H'_1):Ru 42 [.p x0 o0] H R:=vcr nn [.ptr x0 o0] h
theorem v50 (x0:List Value)(x1 o1:Nat)(h:∀H' p,New H x0 27 H' p->One Value.nilFunc/\∀H'_1 p_1,New H' [Value.nilFunc,Value.nilFunc,Value.nilFunc,Value.nilFunc] 190 H'_1 p_1->4=4/\(∀v∈[Value.nilFunc,.func (.func 113) #[] #[],.func (.func 114) #[] #[],.func (.func 115) #[] #[]],One v)/\WOk H'_1 p_1 0 4/\∀H',H'=wrL H'_1 p_1 0 [Value.nilFunc,.func (.func 113) #[] #[],.func (.func 114) #[] #[],.func (.func 115) #[] #[]]->∃n,rd H' p 0=some (.i n)/\∃n_1,rd H' p 0=some (.i n_1)/\((0:Int)<=n_1/\n_1<(4:Int))/\∃v,rd H' p_1 (0+n_1.toNat*1)=some v/\One v/\∀H'_2 p,New H' [.p x1 o1,.i n,v,.bool false,.bool false] 119 H'_2 p->R (.p p 0) H'_2):Ru 50 [.agg x0.toArray,.p x1 o1] H R:=vcr nn [.agg x0,.ptr x1 o1] h
theorem v52 (x0 o0:Nat)(h:∃c,rd H x0 (o0+4)=some (.bool c)/\(c=true->R (.bool false) H)/\(c=false->∃v,rd H x0 (o0+2)=some v/\∃g u v_1,v=.func (.func g) u v_1/\callable Tryz.prog g=true/\Ru g (Array.toList u++[.p x0 o0]++Array.toList v_1) H fun r H'=>∃cs:List Value,cs.length=2/\∃c,r=.tuple #[.agg cs.toArray,.bool c]/\∀H'_1 p,New H' [.i 0,.i 0] 39 H'_1 p->cs.length=2/\(∀v∈cs,One v)/\WOk H'_1 p 0 2/\∀H',H'=wrL H'_1 p 0 cs->R (.bool !c) H')):Ru 52 [.p x0 o0] H R:=vcr nn [.ptr x0 o0] h
theorem v54 (x0 o0:Nat)(h:∃v,rd H x0 o0=some v/\R v H):Ru 54 [.p x0 o0] H R:=vcr nn [.ptr x0 o0] h
theorem v72 (x0:Int)(h:((0:Int)<=x0->R (.bool (decide (x0<(65536:Int)))) H)/\(¬(0:Int)<=x0->R (.bool false) H)):Ru 72 [.i x0] H R:=vcr nn [.int .i64 x0] h
theorem v80 (x0:List Value)(h:∀H' p,New H x0 39 H' p->∃(J:Bool->Heap->Prop),(∃n,rd H' p 0=some (.i n)/\(n<(1:Int)->J true H')/\(¬n<(1:Int)->∃n,rd H' p 0=some (.i n)/\J (decP ((9:Int)<n) inferInstance) H'))/\∀H c,J c H->(c=true->R (.bool false) H)/\(c=false->∃n,rd H p 0=some (.i n)/\(n=1->∃n,rd H p 1=some (.i n)/\((1:Int)<=n->∃n,rd H p 1=some (.i n)/\R (.bool (decide (n<(65536:Int)))) H)/\(¬(1:Int)<=n->R (.bool false) H))/\(¬n=1->∃n,rd H p 0=some (.i n)/\Ru 142 [.i n] H fun r H'=>∃c,r=.bool c/\(c=true->∃n,rd H' p 1=some (.i n)/\((0:Int)<=n->∃n,rd H' p 1=some (.i n)/\R (.bool (decide (n<(1048576:Int)))) H')/\(¬(0:Int)<=n->R (.bool false) H'))/\(c=false->∃n,rd H' p 1=some (.i n)/\R (.bool (decide (n=0))) H')))):Ru 80 [.agg x0.toArray] H R:=vcr ⟨fun _=>none,fun|2=>some [(3,.bool)]|_=>none⟩ [.agg x0] h
theorem v81 (x0 o0:Nat)(h:∀H' p,New H [Value.nilFunc,Value.nilFunc,Value.nilFunc,Value.nilFunc,Value.nilFunc,Value.nilFunc,Value.nilFunc,Value.nilFunc] 153 H' p->One Value.nilFunc/\List.length (α:=Value) [Value.nilFunc,.func (.func 143) #[.p x0 o0] #[],.func (.func 144) #[.p x0 o0] #[],.func (.func 145) #[.p x0 o0] #[],.func (.func 146) #[.p x0 o0] #[],.func (.func 147) #[.p x0 o0] #[],.func (.func 148) #[.p x0 o0] #[],.func (.func 149) #[.p x0 o0] #[]]=8/\(∀v∈[Value.nilFunc,.func (.func 143) #[.p x0 o0] #[],.func (.func 144) #[.p x0 o0] #[],.func (.func 145) #[.p x0 o0] #[],.func (.func 146) #[.p x0 o0] #[],.func (.func 147) #[.p x0 o0] #[],.func (.func 148) #[.p x0 o0] #[],.func (.func 149) #[.p x0 o0] #[]],One v)/\WOk H' p 0 8/\∀H'_1,H'_1=wrL H' p 0 [Value.nilFunc,.func (.func 143) #[.p x0 o0] #[],.func (.func 144) #[.p x0 o0] #[],.func (.func 145) #[.p x0 o0] #[],.func (.func 146) #[.pointer (some ⟨x0,o0,none⟩)] #[],.func (.func 147) #[.p x0 o0] #[],.func (.func 148) #[.p x0 o0] #[],.func (.func 149) #[.p x0 o0] #[]]->∃cs:List Value,cs.length=8/\RdL H'_1 p 0 cs/\R (.agg cs.toArray) H'_1):Ru 81 [.p x0 o0] H R:=vcr nn [.ptr x0 o0] h
theorem v113 (x0 o0:Nat)(h:∀H' p,New H [.i 0,.i 0] 39 H' p->Ru 13 [.p x0 o0] H' fun r H'=>∃n,r=.i n/\Ru 16 [.p x0 o0] H' fun r H'=>∃cs:List Value,cs.length=3/\r=.agg cs.toArray/\Ru 178 [.i n,.agg cs.toArray] H' fun r H'=>∃cs:List Value,cs.length=2/\∃c,r=.tuple #[.agg cs.toArray,.bool c]/\cs.length=2/\(∀(v:Value),v∈cs->One v)/\WOk H' p 0 2/\∀H'_1,H'_1=wrL H' p 0 cs->∃cs:List Value,cs.length=2/\RdL H'_1 p 0 cs/\R (.tuple #[.agg cs.toArray,.bool c]) H'_1):Ru 113 [.p x0 o0] H R:=vcr nn [.ptr x0 o0] h
theorem v114 (x0 o0:Nat)(h:∀H' p,New H [.i 0,.i 0] 39 H' p->∃c,rd H' x0 (o0+3)=some (.bool c)/\Ru 13 [.p x0 o0] H' fun r H'=>∃n,r=.i n/\rd H' x0 (o0+3)=some (.bool c)/\Ru 16 [.p x0 o0] H' fun r H'=>∃cs:List Value,cs.length=3/\r=.agg cs.toArray/\rd H' x0 (o0+3)=some (.bool c)/\Ru 179 [.i n,.bool c,.agg cs.toArray] H' fun r H'=>∃cs:List Value,cs.length=2/\∃c,r=.tuple #[.agg cs.toArray,.bool c]/\cs.length=2/\(∀v∈cs,One v)/\WOk H' p 0 2/\∀H'_1,H'_1=wrL H' p 0 cs->∃(cs:List Value),cs.length=2/\RdL H'_1 p 0 cs/\R (.tuple #[.agg cs.toArray,.bool c]) H'_1):Ru 114 [.p x0 o0] H R:=vcr nn [.ptr x0 o0] h
theorem v115 (x0 o0:Nat)(h:∀H' p,New H [.i 0,.i 0] 39 H' p->Ru 16 [.p x0 o0] H' fun r H'=>∃cs:List Value,cs.length=3/\r=.agg cs.toArray/\∀H'_1 p_1,New H' [.i 0,.i 0,.slice none 0 0] 48 H'_1 p_1->cs.length=3/\(∀v∈cs,One v)/\WOk H'_1 p_1 0 3/\∀H',H'=wrL H'_1 p_1 0 cs->∃n,rd H' p_1 1=some (.i n)/\(n<(0:Int)->∃n,rd H' p_1 0=some (.i n)/\Ru 13 [.p x0 o0] H' fun r H'=>∃n_1,r=.i n_1/\rd H' p_1 0=some (.i n)/\(n<n_1->2=2/\(∀v∈[.i 8,.i 0],One v)/\WOk H' p 0 2/\∀H'_2,H'_2=wrL H' p 0 [.i 8,.i 0]->∃cs:List Value,cs.length=2/\RdL H'_2 p 0 cs/\R (.tuple #[.agg cs.toArray,.bool true]) H'_2)/\(¬n<n_1->∃n,rd H' p_1 1=some (.i n)/\(n<(0:Int)->2=2/\(∀v∈[.i 5,.i 0],One v)/\WOk H' p 0 2/\∀H'_2,H'_2=wrL H' p 0 [.i 5,.i 0]->∃cs:List Value,cs.length=2/\RdL H'_2 p 0 cs/\R (.tuple #[.agg cs.toArray,.bool true]) H'_2)/\(¬n<(0:Int)->∃n,rd H' p_1 1=some (.i n)/\((0:Int)<n->2=2/\(∀v∈[.i 9,.i 0],One v)/\WOk H' p 0 2/\∀H'_2,H'_2=wrL H' p 0 [.i 9,.i 0]->∃cs:List Value,cs.length=2/\RdL H'_2 p 0 cs/\R (.tuple #[.agg cs.toArray,.bool true]) H'_2)/\(¬(0:Int)<n->2=2/\(∀v∈  [.i 0,.i 0],One v)/\WOk H' p 0 2/\∀H'_2,H'_2=wrL H' p 0 [.i 0,.i 0]->∃cs:List Value,cs.length=2/\RdL H'_2 p 0 cs/\R (.tuple #[.agg cs.toArray,.bool false]) H'_2))))/\(¬n<(0:Int)->∃n,rd H' p_1 1=some (.i n)/\(n<(0:Int)->2=2/\(∀v∈[.i 5,.i 0],One v)/\WOk H' p 0 2/\∀H'_2,H'_2=wrL H' p 0 [.i 5,.int .i64 0]->∃cs:List Value,cs.length=2/\RdL H'_2 p 0 cs/\R (.tuple #[.agg cs.toArray,.bool true]) H'_2)/\(¬n<(0:Int)->∃n,rd H' p_1 1=some (.i n)/\((0:Int)<n->2=2/\(∀(v:Value),v∈[.i 9,.i 0]->One v)/\WOk H' p 0 2/\∀H'_2,H'_2=wrL H' p 0 [.i 9,.i 0]->∃cs:List Value,cs.length=2/\RdL H'_2 p 0 cs/\R (.tuple #[.agg cs.toArray,.bool true]) H'_2)/\(¬(0:Int)<n->2=2/\(∀v∈[.i 0,.i 0],One v)/\WOk H' p 0 2/\∀H'_2,H'_2=wrL H' p 0 [.i 0,.i 0]->∃cs:List Value,cs.length=2/\RdL H'_2 p 0 cs/\R (.tuple #[.agg cs.toArray,.bool false]) H'_2)))):Ru 115 [.p x0 o0] H R:=vcr nn [.ptr x0 o0] h
theorem v117 (x0:Int)(x1:List Value)(h:∀H' p,New H [.i x0] 3 H' p->∀H'_1 p_1,New H' x1 48 H'_1 p_1->∃(J:Heap->Prop),(∃n,rd H'_1 p 0=some (.i n)/\Ru 72 [.i n] H'_1 fun r H'=>∃c,r=.bool c/\((!c)=true->R (.tuple #[.pointer none,.i 2]) H')/\((!c)=false->∃a l c,rd H' p_1 2=some (.slice a l c)/\((1048576:Int)<(↑l:Int)->R (.tuple #[.pointer none,.i 2]) H')/\(¬(1048576:Int)<(↑l:Int)->∃n,rd H' p_1 0=some (.i n)/\(n=(-1:Int)->R (.tuple #[.pointer none,.i 2]) H')/\(¬n=(-1:Int)->∃n,rd H' p_1 0=some (.i n)/\Ru 186 [.i n,.p p 0] H' fun r H'=>∃c,r=.bool c/\(c=true->R (.tuple #[.pointer none,.i 2]) H')/\(c=false->∃n,rd H' p_1 1=some (.i n)/\Ru 186 [.i n,.p p 0] H' fun r H'=>∃c,r=.bool c/\(c=true->R (.tuple #[.pointer none,.i 2]) H')/\(c=false->∃a l c,rd H' p_1 2=some (.slice a l c)/\Ru 187 [.slice a l c,.func (.func 186) #[] #[.p p 0]] H' fun r H'=>∃c,r=.bool c/\(c=true->R (.tuple #[.pointer none,.i 2]) H')/\(c=false->J H')))))))/\∀H,J H->∃n,rd H p_1 0=some (.i n)/\∃n_1,rd H p_1 1=some (.i n_1)/\∃n_2,rd H p 0=some (.i n_2)/\∃a l c,rd H p_1 2=some (.slice a l c)/\Ru 97 [.slice a l c] H fun r H'=>∃a l c,r=.slice a l c/\rd H' p 0=some (.i n_2)/\rd H' p_1 1=some (.i n_1)/\rd H' p_1 0=some (.i n)/\List.length (α:=Value) [.i n,.i n_1]=2/\∀H'_2 p,New H' [.i n,.i n_1,.i n_2,.i 0,.slice a l c] 143 H'_2 p->R (.tuple #[.p p 0,.i 0]) H'_2):Ru 117 [.i x0,.agg x1.toArray] H R:=vcr ⟨fun _=>none,fun|4=>some []|_=>none⟩ [.int .i64 x0,.agg x1] h
theorem v119 (x0 o0:Nat)(h:∀H' p,New H [.i 0,.i 0,.slice none 0 0] 48 H' p->∃n,rd H' x0 o0=some (.i n)/\∃n_1,rd H' x0 (o0+1)=some (.i n_1)/\∃a l c,rd H' x0 (o0+4)=some (.slice a l c)/\Ru 97 [.slice a l c] H' fun r H'=>∃a l c,r=.slice a l c/\rd H' x0 (o0+1)=some (.i n_1)/\rd H' x0 o0=some (.i n)/\List.length (α:=Value) [.i n,.i n_1,.slice a l c]=3/\(∀(v:Value),v∈[.i n,.i n_1,.slice a l c]->One v)/\WOk H' p 0 3/\∀H'_1,H'_1=wrL H' p 0 [.i n,.i n_1,.slice a l c]->∃cs:List Value,cs.length=3/\RdL H'_1 p 0 cs/\R (.agg cs.toArray) H'_1):Ru 119 [.p x0 o0] H R:=vcr nn [.ptr x0 o0] h
theorem v142 (x0:Int)(h:((1:Int)<=x0->R (.bool (decide (x0<=(4:Int)))) H)/\(¬(1:Int)<=x0->R (.bool false) H)):Ru 142 [.i x0] H R:=vcr nn [.int .i64 x0] h
theorem v143 (x0 o0:Nat)(x1:Int)(h:∃n,rd H x0 (o0+2)=some (.i n)/\∃n_1,rd H x0 o0=some (.i n_1)/\I64 (n-n_1)/\(n-n_1<x1->R (.i 17) H)/\(¬n-n_1<x1->∃n,rd H x0 o0=some (.i n)/\I64 (n+x1)/\WOk H x0 o0 1/\∀H',H'=wr H x0 o0 (.i (n+x1))->∃n,rd H' x0 (o0+3)=some (.i n)/\I64 (n+x1)/\WOk H' x0 (o0+3) 1/\∀H'_1,H'_1=wr H' x0 (o0+3) (.i (n+x1))->R (.i 0) H'_1)):Ru 143 [.p x0 o0,.i x1] H R:=vcr nn [.ptr x0 o0,.int .i64 x1] h
theorem v144 (x0 o0:Nat)(x1:Int)(h:∃a l c,rd H x0 (o0+4)=some (.slice a l c)/\∃b o,At a b o/\((0:Int)<=x1/\x1<(↑l:Int))/\∃n,rd H b (o+x1.toNat)=some (.i n)/\((0:Int)<=n->R (.i 15) H)/\(¬(0:Int)<=n->∃a l c,rd H x0 (o0+4)=some (.slice a l c)/\∃n,rd H x0 o0=some (.i n)/\∃b o,At a b o/\((0:Int)<=x1/\x1<(↑l:Int))/\WOk H b (o+x1.toNat) 1/\∀H',H'=wr H b (o+x1.toNat) (.i n)->R (.i 0) H')):Ru 144 [.p x0 o0,.i x1] H R:=vcr nn [.ptr x0 o0,.int .i64 x1] h
theorem v145 (x0 o0:Nat)(x1:Int)(h:∃a l c,rd H x0 (o0+4)=some (.slice a l c)/\∃b o,At a b o/\((0:Int)<=x1/\x1<(↑l:Int))/\∃n,rd H b (o+x1.toNat)=some (.i n)/\(n<(0:Int)->R (.i 16) H)/\(¬n<(0:Int)->∃a l c,rd H x0 (o0+4)=some (.slice a l c)/\∃b o,At a b o/\((0:Int)<=x1/\x1<(↑l:Int))/\∃n,rd H b (o+x1.toNat)=some (.i n)/\WOk H x0 o0 1/\∀H',H'=wr H x0 o0 (.i n)->R (.int .i64 0) H')):Ru 145 [.p x0 o0,.i x1] H R:=vcr nn [.ptr x0 o0,.int .i64 x1] h
theorem v146 (x0 o0:Nat)(x1:Int)(h:∃a l c,rd H x0 (o0+4)=some (.slice a l c)/\∃b o,At a b o/\((0:Int)<=x1/\x1<(↑l:Int))/\∃n,rd H b (o+x1.toNat)=some (.i n)/\(n<(0:Int)->R (.i 16) H)/\(¬n<(0:Int)->∃a l c,rd H x0 (o0+4)=some (.slice a l c)/\∃b o,At a b o/\((0:Int)<=x1/\x1<(↑l:Int))/\WOk H b (o+x1.toNat) 1/\∀H',H'=wr H b (o+x1.toNat) (.i (-1))->R (.i 0) H')):Ru 146 [.p x0 o0,.i x1] H R:=vcr nn [.ptr x0 o0,.int .i64 x1] h
theorem v147 (x0 o0:Nat)(x1:Int)(h:Ru 210 [.p x0 o0,.i 0] H fun r H'=>∃n,r=.i n/\R (.i n) H'):Ru 147 [.p x0 o0,.i x1] H R:=vcr nn [.ptr x0 o0,.int .i64 x1] h
theorem v148 (x0 o0:Nat)(x1:Int)(h:Ru 210 [.p x0 o0,.i 1] H fun r H'=>∃n,r=.i n/\R (.i n) H'):Ru 148 [.p x0 o0,.i x1] H R:=vcr nn [.ptr x0 o0,.int .i64 x1] h
theorem v149 (x0 o0:Nat)(x1:Int)(h:∃n,rd H x0 (o0+1)=some (.i n)/\(n<=(0:Int)->R (.i 18) H)/\(¬n<=(0:Int)->∃n,rd H x0 o0=some (.i n)/\∃n_1,rd H x0 (o0+1)=some (.i n_1)/\I64 (n_1-(1:Int))/\(¬n=n_1-(1:Int)->R (.i 17) H)/\(¬¬n=n_1-(1:Int)->∃n,rd H x0 o0=some (.i n)/\WOk H x0 (o0+1) 1/\∀H',H'=wr H x0 (o0+1) (.i n)->R (.i 0) H'))):Ru 149 [.p x0 o0,.i x1] H R:=vcr nn [.ptr x0 o0,.int .i64 x1] h
theorem v152 (x0:Int)(x1:Int)(h:∀H' p,New H [.i x0] 3 H' p->∀H'_1 p_1,New H' [.i x1] 3 H'_1 p_1->∃n,rd H'_1 p 0=some (.i n)/\(n<(0:Int)->R (.tuple #[.i 0,.i 2]) H'_1)/\(¬n<(0:Int)->∃n,rd H'_1 p 0=some (.i n)/\((65536:Int)<=n->R (.tuple #[.i 0,.i 2]) H'_1)/\(¬(65536:Int)<=n->∃n,rd H'_1 p_1 0=some (.i n)/\Ru 211 [.i n] H'_1 fun r H'=>∃c,r=.bool c/\((!c)=true->R (.tuple #[.i 0,.i 2]) H')/\((!c)=false->∃n,rd H' p 0=some (.i n)/\Ru 212 [.i n,.func (.func 213) #[] #[.p p 0,.p p_1 0]] H' fun r H'=>∃n,r=.i n/\R (.tuple #[.i n,.i 0]) H')))):Ru 152 [.i x0,.i x1] H R:=vcr nn [.int .i64 x0,.int .i64 x1] h
theorem v153 (x0:Int)(x1:Int)(h:∃(J:Heap->Prop),((x0<(0:Int)->R (.i 0) H)/\(¬x0<(0:Int)->(x1<(0:Int)->R (.i 0) H)/\(¬x1<(0:Int)->(x0<x1->R (.i 0) H)/\(¬x0<x1->J H))))/\∀H,J H->I64 (x0-x1)/\∃(I:Int->Int->Heap->Prop),∃(μ:Int->Int->Heap->Nat),I (1:Int) (1:Int) H/\∀H n n_1,I n n_1 H->(n_1<=maxI false x1 (x0-x1)->(n<(1099511627776:Int)->I64 (x0-maxI false x1 (x0-x1))/\I64 (x0-maxI false x1 (x0-x1)+n_1)/\Ru 215 [.i n,.i (x0-maxI false x1 (x0-x1)+n_1),.i n_1] H fun r H'=>∃n_2,r=.i n_2/\I64 (n_1+(1:Int))/\I n_2 (n_1+(1:Int)) H'/\μ n_2 (n_1+(1:Int)) H'<μ n n_1 H)/\(¬n<(1099511627776:Int)->R (.i n) H))/\(¬n_1<=maxI false x1 (x0-x1)->R (.i n) H)):Ru 153 [.i x0,.i x1] H R:=vcr ⟨fun|6=>some [(5,.int .i64),(6,.int .i64)]|_=>none,fun|3=>some []|_=>none⟩ [.int .i64 x0,.int .i64 x1] h
theorem v178 (x0:Int)(x1:List Value)(h:∀H' p,New H x1 48 H' p->∀H'_1 p_1,New H' [.i 0,.i 0] 39 H'_1 p_1->∃cs:List Value,cs.length=3/\RdL H'_1 p 0 cs/\Ru 226 [.i x0,.agg cs.toArray] H'_1 fun r H'=>∃c,r=.bool c/\((!c)=true->Ru 227 [] H' fun r H'=>∃cs:List Value,cs.length=2/\∃c,r=.tuple #[.agg cs.toArray,.bool c]/\cs.length=2/\(∀v∈cs,One v)/\WOk H' p_1 0 2/\∀H'_2,H'_2=wrL H' p_1 0 cs->∃cs:List Value,cs.length=2/\RdL H'_2 p_1 0 cs/\R (.tuple #[.agg cs.toArray,.bool c]) H'_2)/\((!c)=false->∃cs:List Value,cs.length=3/\RdL H' p 0 cs/\Ru 228 [.i x0,.agg cs.toArray] H' fun r H'=>∃cs:List Value,cs.length=8/\r=.agg cs.toArray/\Ru 229 [.agg cs.toArray,.i x0] H' fun r H'=>∃a l c,r=.slice a l c/\∃(I:Int->Heap->Prop),∃(μ:Int->Heap->Nat),I (0:Int) H'/\∀H n,I n H->(n<(↑l:Int)->∃b o,At a b o/\((0:Int)<=n/\n<(↑l:Int))/\∃cs:List Value,cs.length=2/\RdL H b (o+Int.toNat n*2) cs/\∀H' p,New H [Value.nilFunc,Value.nilFunc] 318 H' p->cs.length=2/\(∀v∈cs,One v)/\WOk H' p 0 2/\∀H'_2,H'_2=wrL H' p 0 cs->∃v,rd H'_2 p 0=some v/\∃g u v_1,v=.func (.func g) u v_1/\callable Tryz.prog g=true/\Ru g (Array.toList u++[]++Array.toList v_1) H'_2 fun r H'=>∃c,r=.bool c/\(c=true->∃v,rd H' p 1=some v/\∃g u v_2,v=.func (.func g) u v_2/\callable Tryz.prog g=true/\Ru g (Array.toList u++[]++Array.toList v_2) H' fun r H'=>∃cs:List Value,cs.length=2/\∃c,r=.tuple #[.agg cs.toArray,.bool c]/\cs.length=2/\(∀v∈  cs,One v)/\WOk H' p_1 0 2/\∀H'_3,H'_3=wrL H' p_1 0 cs->∃cs:List Value,cs.length=2/\RdL H'_3 p_1 0 cs/\R (.tuple #[.agg cs.toArray,.bool c]) H'_3)/\(c=false->I64 (n+(1:Int))/\I (n+(1:Int)) H'/\μ (n+(1:Int)) H'<μ n H))/\(¬n<(↑l:Int)->Ru 227 [] H fun r H'=>∃cs:List Value,cs.length=2/\∃c,r=.tuple #[.agg cs.toArray,.bool c]/\cs.length=2/\(∀(v:Value),v∈cs->One v)/\WOk H' p_1 0 2/\∀H'_2,H'_2=wrL H' p_1 0 cs->∃cs:List Value,cs.length=2/\RdL H'_2 p_1 0 cs/\R (.tuple #[.agg cs.toArray,.bool c]) H'_2))):Ru 178 [.i x0,.agg x1.toArray] H R:=vcr ⟨fun|4=>some [(21,.int .i64)]|_=>none,fun _=>none⟩ [.int .i64 x0,.agg x1] h
theorem v179 (x0:Int)(x1:Bool)(x2:List Value)(h:∀H' p,New H x2 48 H' p->∀H'_1 p_1,New H' [.i 0,.i 0] 39 H'_1 p_1->∃cs:List Value,cs.length=3/\RdL H'_1 p 0 cs/\Ru 117 [.i x0,.agg cs.toArray] H'_1 fun r H'=>∃v n,r=.tuple #[v,.i n]/\(¬n=0->Ru 230 [] H' fun r H'=>∃cs:List Value,cs.length=2/\∃c,r=.tuple #[.agg cs.toArray,.bool c]/\cs.length=2/\(∀v∈cs,One v)/\WOk H' p_1 0 2/\∀H'_2,H'_2=wrL H' p_1 0 cs->∃cs:List Value,cs.length=2/\RdL H'_2 p_1 0 cs/\R (.tuple #[.agg cs.toArray,.bool c]) H'_2)/\(¬¬n=0->∃a l c,rd H' p 2=some (.slice a l c)/\((↑l:Int)=(0:Int)->Ru 230 [] H' fun r H'=>∃cs:List Value,cs.length=2/\∃c,r=.tuple #[.agg cs.toArray,.bool c]/\cs.length=2/\(∀v∈cs,One v)/\WOk H' p_1 0 2/\∀H'_2,H'_2=wrL H' p_1 0 cs->∃cs:List Value,cs.length=2/\RdL H'_2 p_1 0 cs/\R (.tuple #[.agg cs.toArray,.bool c]) H'_2)/\(¬(↑l:Int)=(0:Int)->∃n,rd H' p 1=some (.i n)/\(n<(0:Int)->∃cs:List Value,cs.length=3/\RdL H' p 0 cs/\Ru 231 [.i x0,.bool x1,.agg cs.toArray] H' fun r H'=>∃cs:List Value,cs.length=2/\∃c,r=.tuple #[.agg cs.toArray,.bool c]/\cs.length=2/\(∀v∈cs,One v)/\WOk H' p_1 0 2/\∀H'_2,H'_2=wrL H' p_1 0 cs->∃cs:List Value,cs.length=2/\RdL H'_2 p_1 0 cs/\R (.tuple #[.agg cs.toArray,.bool c]) H'_2)/\(¬n<(0:Int)->∃cs:List Value,cs.length=3/\RdL H' p 0 cs/\Ru 232 [.agg cs.toArray] H' fun r H'=>∃cs:List Value,cs.length=2/\∃c,r=.tuple #[.agg cs.toArray,.bool c]/\cs.length=2/\(∀v∈cs,One v)/\WOk H' p_1 0 2/\∀H'_2,H'_2=wrL H' p_1 0 cs->∃cs:List Value,cs.length=2/\RdL H'_2 p_1 0 cs/\R (.tuple #[.agg cs.toArray,.bool c]) H'_2)))):Ru 179 [.i x0,.bool x1,.agg x2.toArray] H R:=vcr nn [.int .i64 x0,.bl x1,.agg x2] h
theorem v186 (x0:Int)(x1 o1:Nat)(h:(x0<(-1:Int)->R (.bool true) H)/\(¬x0<(-1:Int)->∃n,rd H x1 o1=some (.i n)/\R (.bool (decide (n<x0))) H)):Ru 186 [.i x0,.p x1 o1] H R:=vcr nn [.int .i64 x0,.ptr x1 o1] h
theorem v210 (x0 o0:Nat)(x1:Int)(h:∃n,rd H x0 (o0+2)=some (.i n)/\I64 (n-x1)/\∀H' p,New H [.i 0,.i 0] 141 H' p->List.length (α:=Value) [.i (n-x1),.i (-1)]=2/\(∀v∈[.i (n-x1),.i (-1)],One v)/\WOk H' p 0 2/\∀H'_1,H'_1=wrL H' p 0 [.i (n-x1),.i (-1)]->∃n,rd H'_1 x0 (o0+1)=some (.i n)/\∃n_1,rd H'_1 p 1=some (.i n_1)/\(¬n=n_1->R (.i 18) H'_1)/\(¬¬n=n_1->∃cs:List Value,cs.length=2/\RdL H'_1 x0 o0 cs/\∃cs_1:List Value,cs_1.length=2/\RdL H'_1 p 0 cs_1/\∃c,IsB Tryz.prog (cmpS BinOp.neq 141 (Operand.tmp 26) (Operand.tmp 27) (.agg cs.toArray) (.agg cs_1.toArray)) c/\(c=true->R (.i 17) H'_1)/\(c=false->∃n,rd H'_1 x0 o0=some (.i n)/\WOk H'_1 x0 (o0+1) 1/\∀H',H'=wr H'_1 x0 (o0+1) (.i n)->R (.i 0) H'))):Ru 210 [.p x0 o0,.i x1] H R:=vcr nn [.ptr x0 o0,.int .i64 x1] h
theorem v211 (x0:Int)(h:((1:Int)<=x0->R (.bool (decide (x0<=(1048576:Int)))) H)/\(¬(1:Int)<=x0->R (.bool false) H)):Ru 211 [.i x0] H R:=vcr nn [.int .i64 x0] h
theorem v212 (x0:Int)(x1:Value)(h:∃(I:Int->Int->Heap->Prop),∃(μ:Int->Int->Heap->Nat),I (0:Int) x0 H/\∀H n n_1,I n n_1 H->(n<n_1->I64 (n+n_1)/\((0:Int)<=n+n_1/\(0:Int)<(2:Int)/\I64 (n+n_1))/\∃g u v,x1=.func (.func g) u v/\callable Tryz.prog g=true/\Ru g (Array.toList u++[.i ((n+n_1) / (2:Int))]++Array.toList v) H fun r H'=>∃c,r=.bool c/\(c=true->I n ((n+n_1) / (2:Int)) H'/\μ n ((n+n_1) / (2:Int)) H'<μ n n_1 H)/\(c=false->I64 ((n+n_1) / (2:Int)+(1:Int))/\I ((n+n_1) / (2:Int)+(1:Int)) n_1 H'/\μ ((n+n_1) / (2:Int)+(1:Int)) n_1 H'<μ n n_1 H))/\(¬n<n_1->R (.i n) H)):Ru 212 [.i x0,x1] H R:=vcr ⟨fun|2=>some [(5,.int .i64),(6,.int .i64)]|_=>none,fun _=>none⟩ [.int .i64 x0,.op x1] h
theorem v213 (x0:Int)(x1 o1:Nat)(x2 o2:Nat)(h:∃n,rd H x1 o1=some (.i n)/\∃n_1,rd H x2 o2=some (.i n_1)/\Ru 214 [.i x0,.i n_1] H fun r H'=>∃n_2,r=.i n_2/\rd H' x1 o1=some (.i n)/\R (.bool (decide (n<=n_2))) H'):Ru 213 [.i x0,.p x1 o1,.p x2 o2] H R:=vcr nn [.int .i64 x0,.ptr x1 o1,.ptr x2 o2] h
theorem v214 (x0:Int)(x1:Int)(h:((1099511627776:Int)<=x0->R (.i 1099511627776) H)/\(¬(1099511627776:Int)<=x0->I64 (x1+x0)/\Ru 153 [.i (x1+x0),.i x1] H fun r H'=>∃n,r=.i n/\R (.i n) H')):Ru 214 [.i x0,.i x1] H R:=vcr nn [.int .i64 x0,.int .i64 x1] h
theorem v215 (x0:Int)(x1:Int)(x2:Int)(h:Ru 208 [.int .u64 (↑(UInt64.toNat (UInt64.ofInt x0)):Int),.int .u64 (↑(UInt64.toNat (UInt64.ofInt x1)):Int)] H fun r H'=>∃x x_1,r=.tuple #[.u x,.int .u64 (↑(UInt64.toNat x_1):Int)]/\(UInt64.ofInt x2<=x->R (.i 1099511627776) H')/\(¬UInt64.ofInt x2<=x->Ru 275 [.u x,.u x_1,.int .u64 (↑(UInt64.toNat (UInt64.ofInt x2)):Int)] H' fun r H'=>∃x x_2,r=.tuple #[.u x,.u x_2]/\(UInt64.ofNat (nat_lit 1099511627776)<x->R (.i 1099511627776) H')/\(¬UInt64.ofNat (nat_lit 1099511627776)<x->UInt64.toNat x<=9223372036854775807/\R (.i (↑(UInt64.toNat x):Int)) H'))):Ru 215 [.i x0,.i x1,.i x2] H R:=vcr nn [.int .i64 x0,.int .i64 x1,.int .i64 x2] h
theorem v226 (x0:Int)(x1:List Value)(h:∀H' p,New H x1 48 H' p->∃cs:List Value,cs.length=3/\RdL H' p 0 cs/\Ru 117 [.i x0,.agg cs.toArray] H' fun r H'=>∃v n,r=.tuple #[v,.i n]/\(n=0->∃a l c,rd H' p 2=some (.slice a l c)/\R (.bool (decide ((0:Int)<(↑l:Int)))) H')/\(¬n=0->R (.bool false) H')):Ru 226 [.i x0,.agg x1.toArray] H R:=vcr nn [.int .i64 x0,.agg x1] h
theorem v227  (h:∀H' p,New H [.i 0,.i 0] 39 H' p->2=2/\(∀v∈[.i 0,.i 0],One v)/\WOk H' p 0 2/\∀H'_1,H'_1=wrL H' p 0 [.i 0,.i 0]->∃cs:List Value,cs.length=2/\RdL H'_1 p 0 cs/\R (.tuple #[.agg cs.toArray,.bool false]) H'_1):Ru 227 [] H R:=vcr nn [] h
theorem v228 (x0:Int)(x1:List Value)(h:∀H' p,New H x1 48 H' p->∀H'_1 p_1,New H' [.i 0,.i 0,.slice none 0 0,.i 0,.i 0,.i 0,.i 0,.i 0] 314 H'_1 p_1->∃cs:List Value,cs.length=3/\RdL H'_1 p 0 cs/\∃n,rd H'_1 p 1=some (.i n)/\cs.length=3/\∀H' p_2,New H'_1 [.i 0,.i 0,.slice none 0 0,.i 0,.i 0,.i 0,.i 0,.i 0] 314 H' p_2->List.length (List.set (List.set (List.set (cs++[.i 0,.i 0,.i 0,.i 0,.i 0]) 3 (.i n)) 4 (.i (-1))) 7 (.i (-1)))=8/\(∀v∈List.set (List.set (List.set (cs++[.i 0,.i 0,.i 0,.i 0,.i 0]) 3 (.i n)) 4 (.i (-1))) 7 (.i (-1)),One v)/\WOk H' p_2 0 8/\∀H'_2,H'_2=wrL H' p_2 0 (List.set (List.set (List.set (cs++[.i 0,.i 0,.i 0,.i 0,.i 0]) 3 (.i n)) 4 (.i (-1))) 7 (.i (-1)))->∃(J:Heap->Prop),(∃n,rd H'_2 p 1=some (.i n)/\(n<(0:Int)->WOk H'_2 p_2 3 1/\∀H',H'=wr H'_2 p_2 3 (.i x0)->J H')/\(¬n<(0:Int)->J H'_2))/\∀H,J H->∃a l c,rd H p 2=some (.slice a l c)/\∃(I:Int->Heap->Prop),∃(μ:Int->Heap->Nat),I (0:Int) H/\∀H n,I n H->(n<(↑l:Int)->∃b o,At a b o/\((0:Int)<=n/\n<(↑l:Int))/\∃n_1,rd H b (o+n.toNat)=some (.i n_1)/\∃n_2,rd H p_2 4=some (.i n_2)/\(n_2<n_1->WOk H p_2 4 1/\∀H',H'=wr H p_2 4 (.i n_1)->WOk H' p_2 5 1/\∀H'_3,H'_3=wr H' p_2 5 (.i n)->I64 (n+(1:Int))/\I (n+(1:Int)) H'_3/\μ (n+(1:Int)) H'_3<μ n H)/\(¬n_2<n_1->(n_1<(0:Int)->∃n_3,rd H p_2 6=some (.i n_3)/\I64 (n_3+(1:Int))/\WOk H p_2 6 1/\∀H',H'=wr H p_2 6 (.i (n_3+(1:Int)))->∃n_4,rd H' p_2 7=some (.i n_4)/\(n_4<(0:Int)->WOk H' p_2 7 1/\∀H'_3,H'_3=wr H' p_2 7 (.i n)->I64 (n+(1:Int))/\I (n+(1:Int)) H'_3/\μ (n+(1:Int)) H'_3<μ n H)/\(¬n_4<(0:Int)->I64 (n+(1:Int))/\I (n+(1:Int)) H'/\μ (n+(1:Int)) H'<μ n H))/\(¬n_1<(0:Int)->I64 (n+(1:Int))/\I (n+(1:Int)) H/\μ (n+(1:Int)) H<μ n H)))/\(¬n<(↑l:Int)->∃cs:List Value,cs.length=8/\RdL H p_2 0 cs/\cs.length=8/\(∀v∈cs,One v)/\WOk H p_1 0 8/\∀H',H'=wrL H p_1 0 cs->∃cs:List Value,cs.length=8/\RdL H' p_1 0 cs/\R (.agg cs.toArray) H')):Ru 228 [.i x0,.agg x1.toArray] H R:=vcr ⟨fun|5=>some [(20,.int .i64)]|_=>none,fun|4=>some []|_=>none⟩ [.int .i64 x0,.agg x1] h
theorem v229 (x0:List Value)(x1:Int)(h:∀H' p,New H x0 314 H' p->∀H'_1 p_1,New H' [.i x1] 3 H'_1 p_1->∃n,rd H'_1 p 5=some (.i n)/\∃cs:List Value,cs.length=8/\RdL H'_1 p 0 cs/\∃cs_1:List Value,cs_1.length=8/\RdL H'_1 p 0 cs_1/\∃n_1,rd H'_1 p 5=some (.i n_1)/\∃n_2,rd H'_1 p 7=some (.i n_2)/\∃n_3,rd H'_1 p 3=some (.i n_3)/\I64 (n_3-(1:Int))/\∃n_4,rd H'_1 p 0=some (.i n_4)/\I64 (n_3-(1:Int)-n_4)/\∃cs_2:List Value,cs_2.length=8/\RdL H'_1 p 0 cs_2/\Ru 292 [.i 4,.i n] H'_1 fun r H'=>RdL H' p 0 cs_2/\rd H' p 0=some (.i n_4)/\rd H' p 3=some (.i n_3)/\rd H' p 7=some (.i n_2)/\rd H' p 5=some (.i n_1)/\RdL H' p 0 cs_1/\RdL H' p 0 cs/\One r/\Ru 292 [.i 5,.i 0] H' fun r_1 H'=>RdL H' p 0 cs_2/\rd H' p 0=some (.i n_4)/\rd H' p 3=some (.i n_3)/\rd H' p 7=some (.i n_2)/\rd H' p 5=some (.i n_1)/\RdL H' p 0 cs_1/\RdL H' p 0 cs/\One r_1/\Ru 292 [.i 3,.i n_1] H' fun r_2 H'=>RdL H' p 0 cs_2/\rd H' p 0=some (.i n_4)/\rd H' p 3=some (.i n_3)/\rd H' p 7=some (.i n_2)/\RdL H' p 0 cs_1/\RdL H' p 0 cs/\One r_2/\Ru 292 [.i 2,.i n_2] H' fun r_3 H'=>RdL H' p 0 cs_2/\rd H' p 0=some (.i n_4)/\rd H' p 3=some (.i n_3)/\RdL H' p 0 cs_1/\RdL H' p 0 cs/\One r_3/\Ru 292 [.i 1,.i (n_3-(1:Int)-n_4)] H' fun r_4 H'=>RdL H' p 0 cs_2/\RdL H' p 0 cs_1/\RdL H' p 0 cs/\One r_4/\(List.length (α:=Value) [.func (.func 290) #[] #[.p p 0],r]=2/\List.length (α:=Value) [.func (.func 293) #[] #[.pointer (some ⟨p,0,none⟩)],.func (.func 227) #[] #[]]=2/\List.length (α:=Value) [.func (.func 294) #[] #[.p p 0,.p p_1 0],r_1]=2/\List.length (α:=Value) [.func (.func 295) #[] #[.p p 0],.func (.func 296) #[.agg cs.toArray] #[]]=2/\List.length (α:=Value) [.func (.func 297) #[] #[.p p 0],.func (.func 298) #[.agg cs_1.toArray] #[]]=2/\List.length (α:=Value) [.func (.func 299) #[] #[.p p 0],r_2]=2/\List.length (α:=Value) [.func (.func 300) #[] #[.p p 0],r_3]=2/\List.length (α:=Value) [.func (.func 301) #[] #[.p p 0],r_4]=2/\List.length (α:=Value) [.func (.func 302) #[] #[],.func (.func 303) #[.agg cs_2.toArray] #[]]=2)/\∀H'_2 q,New H' [.func (.func 290) #[] #[.pointer (some ⟨p,0,none⟩)],r,.func (.func 293) #[] #[.p p 0],.func (.func 227) #[] #[],.func (.func 294) #[] #[.p p 0,.p p_1 0],r_1,.func (.func 295) #[] #[.p p 0],.func (.func 296) #[.agg cs.toArray] #[],.func (.func 297) #[] #[.p p 0],.func (.func 298) #[.agg cs_1.toArray] #[],.func (.func 299) #[] #[.pointer (some ⟨p,0,none⟩)],r_2,.func (.func 300) #[] #[.p p 0],r_3,.func (.func 301) #[] #[.p p 0],r_4,.func (.func 302) #[] #[],.func (.func 303) #[.agg cs_2.toArray] #[]] 318 H'_2 q->R (.slice (some ⟨q,0,none⟩) 9 9) H'_2):Ru 229 [.agg x0.toArray,.i x1] H R:=vcr nn [.agg x0,.int .i64 x1] h
theorem v230  (h:∀H' p,New H [.i 0,.i 0] 39 H' p->2=2/\(∀v∈[.i 0,.i 0],One v)/\WOk H' p 0 2/\∀H'_1,H'_1=wrL H' p 0 [.i 0,.i 0]->∃cs:List Value,cs.length=2/\RdL H'_1 p 0 cs/\R (.tuple #[.agg cs.toArray,.bool false]) H'_1):Ru 230 [] H R:=vcr nn [] h
theorem v231 (x0:Int)(x1:Bool)(x2:List Value)(h:∀H' p,New H [.i x0] 3 H' p->∀H'_1 p_1,New H' x2 48 H'_1 p_1->∀H' p_2,New H'_1 [.i 0,.i 0] 39 H' p_2->∃n,rd H' p 0=some (.i n)/\∃a l c,rd H' p_1 2=some (.slice a l c)/\Ru 15 [.i n,.i (↑l:Int)] H' fun r H'=>∃n n_1,r=.tuple #[.i n,.i n_1]/\∀H'_2 p_3,New H' [.i 0] 3 H'_2 p_3->WOk H'_2 p_3 0 1/\∀H',H'=wr H'_2 p_3 0 (.i n)->∃n,rd H' p_1 0=some (.i n)/\∃n_2,rd H' p 0=some (.i n_2)/\(n<n_2->∃n,rd H' p 0=some (.i n)/\∃n_3,rd H' p_1 0=some (.i n_3)/\I64 (n-n_3)/\Ru 304 [.i 1,.i (n-n_3)] H' fun r H'=>∃cs:List Value,cs.length=2/\∃c,r=.tuple #[.agg cs.toArray,.bool c]/\cs.length=2/\(∀v∈cs,One v)/\WOk H' p_2 0 2/\∀H'_3,H'_3=wrL H' p_2 0 cs->∃(cs:List Value),cs.length=2/\RdL H'_3 p_2 0 cs/\R (.tuple #[.agg cs.toArray,.bool c]) H'_3)/\(¬n<n_2->∃a l c,rd H' p_1 2=some (.slice a l c)/\Ru 305 [.slice a l c,.func (.func 306) #[] #[.p p_3 0],.func (.func 307) #[] #[]] H' fun r H'=>∃n,r=.i n/\((0:Int)<=n->Ru 304 [.i 4,.i n] H' fun r H'=>∃cs:List Value,cs.length=2/\∃c,r=.tuple #[.agg cs.toArray,.bool c]/\cs.length=2/\(∀v∈cs,One v)/\WOk H' p_2 0 2/\∀H'_3,H'_3=wrL H' p_2 0 cs->∃cs:List Value,cs.length=2/\RdL H'_3 p_2 0 cs/\R (.tuple #[.agg cs.toArray,.bool c]) H'_3)/\(¬(0:Int)<=n->∃a l c,rd H' p_1 2=some (.slice a l c)/\Ru 305 [.slice a l c,.func (.func 308) #[] #[.p p 0],.func (.func 307) #[] #[]] H' fun r H'=>∃n,r=.i n/\∃a l c,rd H' p_1 2=some (.slice a l c)/\Ru 305 [.slice a l c,.func (.func 309) #[] #[],.func (.func 307) #[] #[]] H' fun r H'=>∃n_3,r=.i n_3/\∃(J:Bool->Heap->Prop),(∃n_4,rd H' p 0=some (.i n_4)/\∃n_5,rd H' p_3 0=some (.i n_5)/\((0:Int)<=n_4/\(0:Int)<n_5)/\(n_4 % n_5=0->(n<(0:Int)->J (decP ((0:Int)<=n_3) inferInstance) H')/\(¬n<(0:Int)->J false H'))/\(¬n_4 % n_5=0->J false H'))/\∀H c,J c H->(c=true->Ru 304 [.i 2,.i n_3] H fun r H'=>∃cs:List Value,cs.length=2/\∃c,r=.tuple #[.agg cs.toArray,.bool c]/\cs.length=2/\(∀v∈cs,One v)/\WOk H' p_2 0 2/\∀H'_3,H'_3=wrL H' p_2 0 cs->∃cs:List Value,cs.length=2/\RdL H'_3 p_2 0 cs/\R (.tuple #[.agg cs.toArray,.bool c]) H'_3)/\(c=false->(x1=true->Ru 304 [.i 5,.i 0] H fun r H'=>∃cs:List Value,cs.length=2/\∃c,r=.tuple #[.agg cs.toArray,.bool c]/\cs.length=2/\(∀v∈cs,One v)/\WOk H' p_2 0 2/\∀H'_3,H'_3=wrL H' p_2 0 cs->∃cs:List Value,cs.length=2/\RdL H'_3 p_2 0 cs/\R (.tuple #[.agg cs.toArray,.bool c]) H'_3)/\(x1=false->Ru 230 [] H fun r H'=>∃cs:List Value,cs.length=2/\∃c,r=.tuple #[.agg cs.toArray,.bool c]/\cs.length=2/\(∀v∈cs,One v)/\WOk H' p_2 0 2/\∀H'_3,H'_3=wrL H' p_2 0 cs->∃cs:List Value,cs.length=2/\RdL H'_3 p_2 0 cs/\R (.tuple #[.agg cs.toArray,.bool c]) H'_3))))):Ru 231 [.i x0,.bool x1,.agg x2.toArray] H R:=vcr ⟨fun _=>none,fun|10=>some [(49,.bool)]|_=>none⟩ [.int .i64 x0,.bl x1,.agg x2] h
theorem v232 (x0:List Value)(h:∀H' p,New H x0 48 H' p->∀H'_1 p_1,New H' [.i 0,.i 0] 39 H'_1 p_1->∃n,rd H'_1 p 1=some (.i n)/\∃a l c,rd H'_1 p 2=some (.slice a l c)/\Ru 305 [.slice a l c,.func (.func 310) #[] #[],.func (.func 311) #[] #[]] H'_1 fun r H'=>∃n_1,r=.i n_1/\∃(J:Bool->Heap->Prop),(((0:Int)<=n_1->∃a l c,rd H' p 2=some (.slice a l c)/\∃b o,At a b o/\((0:Int)<=n_1/\n_1<(↑l:Int))/\∃n_2,rd H' b (o+n_1.toNat)=some (.i n_2)/\J (decP (n<=n_2) inferInstance) H')/\(¬(0:Int)<=n_1->J false H'))/\∀H c,J c H->(c=true->Ru 304 [.i 4,.i n_1] H fun r H'=>∃(cs:List Value),cs.length=2/\∃c,r=.tuple #[.agg cs.toArray,.bool c]/\cs.length=2/\(∀v∈cs,One v)/\WOk H' p_1 0 2/\∀H'_2,H'_2=wrL H' p_1 0 cs->∃cs:List Value,cs.length=2/\RdL H'_2 p_1 0 cs/\R (.tuple #[.agg cs.toArray,.bool c]) H'_2)/\(c=false->(n=0->Ru 230 [] H fun r H'=>∃cs:List Value,cs.length=2/\∃c,r=.tuple #[.agg cs.toArray,.bool c]/\cs.length=2/\(∀v∈cs,One v)/\WOk H' p_1 0 2/\∀H'_2,H'_2=wrL H' p_1 0 cs->∃cs:List Value,cs.length=2/\RdL H'_2 p_1 0 cs/\R (.tuple #[.agg cs.toArray,.bool c]) H'_2)/\(¬n=0->∃n_2,rd H p 0=some (.i n_2)/\I64 (n-(1:Int))/\(n_2=n-(1:Int)->Ru 304 [.i 7,.i 0] H fun r H'=>∃cs:List Value,List.length cs=2/\∃c,r=.tuple #[.agg cs.toArray,.bool c]/\cs.length=2/\(∀v∈cs,One v)/\WOk H' p_1 0 2/\∀H'_2,H'_2=wrL H' p_1 0 cs->∃cs:List Value,cs.length=2/\RdL H'_2 p_1 0 cs/\R (.tuple #[.agg cs.toArray,.bool c]) H'_2)/\(¬n_2=n-(1:Int)->∃(J:Bool->Heap->Prop),(((0:Int)<=n_1->∃n_3,rd H p 0=some (.i n_3)/\∃a l c,rd H p 2=some (.slice a l c)/\∃b o,At a b o/\((0:Int)<=n_1/\n_1<(↑l:Int))/\∃n_4,rd H b (o+n_1.toNat)=some (.i n_4)/\(n_3<n_4->J true H)/\(¬n_3<n_4->∃n_5,rd H p 0=some (.i n_5)/\J (decP (n<=n_5) inferInstance) H))/\(¬(0:Int)<=n_1->J false H))/\∀H c,J c H->(c=true->Ru 304 [.i 3,.i n_1] H fun r H'=>∃cs:List Value,cs.length=2/\∃c,r=.tuple #[.agg cs.toArray,.bool c]/\cs.length=2/\(∀v∈cs,One v)/\WOk H' p_1 0 2/\∀H'_2,H'_2=wrL H' p_1 0 cs->∃cs:List Value,cs.length=2/\RdL H'_2 p_1 0 cs/\R (.tuple #[.agg cs.toArray,.bool c]) H'_2)/\(c=false->∃n_3,rd H p 0=some (.i n_3)/\(n_3<n->I64 (n-(1:Int))/\∃n_4,rd H p 0=some (.i n_4)/\I64 (n-(1:Int)-n_4)/\Ru 304 [.i 1,.i (n-(1:Int)-n_4)] H fun r H'=>∃cs:List Value,cs.length=2/\∃c,r=.tuple #[.agg cs.toArray,.bool c]/\cs.length=2/\(∀v∈cs,One v)/\WOk H' p_1 0 2/\∀H'_2,H'_2=wrL H' p_1 0 cs->∃(cs:List Value),cs.length=2/\RdL H'_2 p_1 0 cs/\R (.tuple #[.agg cs.toArray,.bool c]) H'_2)/\(¬n_3<n->Ru 230 [] H fun r H'=>∃cs:List Value,cs.length=2/\∃c,r=.tuple #[.agg cs.toArray,.bool c]/\cs.length=2/\(∀v∈cs,One v)/\WOk H' p_1 0 2/\∀H'_2,H'_2=wrL H' p_1 0 cs->∃cs:List Value,cs.length=2/\RdL H'_2 p_1 0 cs/\R (.tuple #[.agg cs.toArray,.bool c]) H'_2)))))):Ru 232 [.agg x0.toArray] H R:=vcr ⟨fun _=>none,fun|4=>some [(11,.bool)]|10=>some [(42,.bool)]|_=>none⟩ [.agg x0] h
theorem v290 (x0 o0:Nat)(h:∃cs:List Value,cs.length=8/\RdL H x0 o0 cs/\Ru 291 [.agg cs.toArray] H fun r H'=>∃c,r=.bool c/\(c=true->∃n,rd H' x0 (o0+4)=some (.i n)/\∃n_1,rd H' x0 (o0+3)=some (.i n_1)/\R (.bool (decide (n_1<=n))) H')/\(c=false->R (.bool false) H')):Ru 290 [.p x0 o0] H R:=vcr nn [.ptr x0 o0] h
theorem v291 (x0:List Value)(h:∀H' p,New H x0 314 H' p->∃n,rd H' p 1=some (.i n)/\R (.bool (decide ((0:Int)<=n))) H'):Ru 291 [.agg x0.toArray] H R:=vcr nn [.agg x0] h
theorem v292 (x0:Int)(x1:Int)(h:∀H' p,New H [.i x0] 3 H' p->∀H'_1 p_1,New H' [.i x1] 3 H'_1 p_1->R (.func (.func 351) #[] #[.p p 0,.p p_1 0]) H'_1):Ru 292 [.i x0,.i x1] H R:=vcr nn [.int .i64 x0,.int .i64 x1] h
theorem v293 (x0 o0:Nat)(h:∃n,rd H x0 (o0+1)=some (.i n)/\R (.bool (decide (n=0))) H):Ru 293 [.p x0 o0] H R:=vcr nn [.ptr x0 o0] h
theorem v294 (x0 o0:Nat)(x1 o1:Nat)(h:∃cs:List Value,cs.length=8/\RdL H x0 o0 cs/\Ru 291 [.agg cs.toArray] H fun r H'=>∃c,r=.bool c/\((!c)=true->∃n,rd H' x0 o0=some (.i n)/\∃n_1,rd H' x1 o1=some (.i n_1)/\R (.bool (decide (n=n_1))) H')/\((!c)=false->R (.bool false) H')):Ru 294 [.p x0 o0,.p x1 o1] H R:=vcr nn [.ptr x0 o0,.ptr x1 o1] h
theorem v295 (x0 o0:Nat)(h:∃n,rd H x0 o0=some (.i n)/\∃n_1,rd H x0 (o0+3)=some (.i n_1)/\I64 (n_1-(1:Int))/\R (.bool (decide (n=n_1-(1:Int)))) H):Ru 295 [.p x0 o0] H R:=vcr nn [.ptr x0 o0] h
theorem v296 (x0:List Value)(h:∀H' p,New H x0 314 H' p->∀H'_1 p_1,New H' [.i 0,.i 0] 39 H'_1 p_1->∃cs:List Value,cs.length=8/\RdL H'_1 p 0 cs/\Ru 291 [.agg cs.toArray] H'_1 fun r H'=>∃c,r=.bool c/\(c=true->2=2/\(∀v∈[.i 7,.i 0],One v)/\WOk H' p_1 0 2/\∀H'_2,H'_2=wrL H' p_1 0 [.i 7,.i 0]->∃cs:List Value,cs.length=2/\RdL H'_2 p_1 0 cs/\R (.tuple #[.agg cs.toArray,.bool true]) H'_2)/\(c=false->2=2/\(∀v∈[.i 6,.i 0],One v)/\WOk H' p_1 0 2/\∀H'_2,H'_2=wrL H' p_1 0 [.i 6,.i 0]->∃(cs:List Value),cs.length=2/\RdL H'_2 p_1 0 cs/\R (.tuple #[.agg cs.toArray,.bool true]) H'_2)):Ru 296 [.agg x0.toArray] H R:=vcr nn [.agg x0] h
theorem v297 (x0 o0:Nat)(h:∃n,rd H x0 (o0+4)=some (.i n)/\R (.bool (decide (n<(0:Int)))) H):Ru 297 [.p x0 o0] H R:=vcr nn [.ptr x0 o0] h
theorem v298 (x0:List Value)(h:∀H' p,New H x0 314 H' p->∀H'_1 p_1,New H' [.i 0,.i 0] 39 H'_1 p_1->∃n,rd H'_1 p 0=some (.i n)/\∃n_1,rd H'_1 p 3=some (.i n_1)/\(n_1<=n->Ru 227 [] H'_1 fun r H'=>∃(cs:List Value),cs.length=2/\∃c,r=.tuple #[.agg cs.toArray,.bool c]/\cs.length=2/\(∀v∈cs,One v)/\WOk H' p_1 0 2/\∀H'_2,H'_2=wrL H' p_1 0 cs->∃cs:List Value,cs.length=2/\RdL H'_2 p_1 0 cs/\R (.tuple #[.agg cs.toArray,.bool c]) H'_2)/\(¬n_1<=n->2=2/\(∀v∈[.i 2,.i 0],One v)/\WOk H'_1 p_1 0 2/\∀H',H'=wrL H'_1 p_1 0 [.i 2,.i 0]->∃cs:List Value,cs.length=2/\RdL H' p_1 0 cs/\R (.tuple #[.agg cs.toArray,.bool true]) H')):Ru 298 [.agg x0.toArray] H R:=vcr nn [.agg x0] h
theorem v299 (x0 o0:Nat)(h:∃n,rd H x0 o0=some (.i n)/\∃n_1,rd H x0 (o0+4)=some (.i n_1)/\(n<n_1->R (.bool true) H)/\(¬n<n_1->∃n,rd H x0 o0=some (.i n)/\∃n_2,rd H x0 (o0+3)=some (.i n_2)/\R (.bool (decide (n_2<=n))) H)):Ru 299 [.p x0 o0] H R:=vcr nn [.ptr x0 o0] h
theorem v300 (x0 o0:Nat)(h:∃n,rd H x0 o0=some (.i n)/\∃n_1,rd H x0 (o0+4)=some (.i n_1)/\(n_1<n->∃n,rd H x0 (o0+6)=some (.i n)/\R (.bool (decide ((0:Int)<n))) H)/\(¬n_1<n->R (.bool false) H)):Ru 300 [.p x0 o0] H R:=vcr nn [.ptr x0 o0] h
theorem v301 (x0 o0:Nat)(h:∃n,rd H x0 o0=some (.i n)/\∃n_1,rd H x0 (o0+4)=some (.i n_1)/\R (.bool (decide (n_1<n))) H):Ru 301 [.p x0 o0] H R:=vcr nn [.ptr x0 o0] h
theorem v302  (h:R (.bool true) H):Ru 302 [] H R:=vcr nn [] h
theorem v303 (x0:List Value)(h:∀H' p,New H x0 314 H' p->∀H'_1 p_1,New H' [.i 0,.i 0] 39 H'_1 p_1->∃n,rd H'_1 p 3=some (.i n)/\∃n_1,rd H'_1 p 4=some (.i n_1)/\I64 (n-n_1)/\∃n_2,rd H'_1 p 6=some (.i n_2)/\I64 (n_2+(1:Int))/\Ru 352 [.i (n-n_1),.i (n_2+(1:Int))] H'_1 fun r H'=>∃n n_3,r=.tuple #[.i n,.i n_3]/\List.length (α:=Value) [.i 1,.i n]=2/\(∀v∈[.i 1,.i n],One v)/\WOk H' p_1 0 2/\∀H'_2,H'_2=wrL H' p_1 0 [.i 1,.i n]->∃cs:List Value,cs.length=2/\RdL H'_2 p_1 0 cs/\R (.tuple #[.agg cs.toArray,.bool true]) H'_2):Ru 303 [.agg x0.toArray] H R:=vcr nn [.agg x0] h
theorem v304 (x0:Int)(x1:Int)(h:∀H' p,New H [.i 0,.i 0] 39 H' p->List.length (α:=Value) [.i x0,.i x1]=2/\(∀v∈[.i x0,.i x1],One v)/\WOk H' p 0 2/\∀H'_1,H'_1=wrL H' p 0 [.i x0,.i x1]->∃cs:List Value,cs.length=2/\RdL H'_1 p 0 cs/\R (.tuple #[.agg cs.toArray,.bool true]) H'_1):Ru 304 [.i x0,.i x1] H R:=vcr nn [.int .i64 x0,.int .i64 x1] h
theorem v305 (x0:Option Addr)(l0 c0:Nat)(x1:Value)(x2:Value)(h:∃(I:Int->Int->Heap->Prop),∃(μ:Int->Int->Heap->Nat),I (-1:Int) (0:Int) H/\∀H n n_1,I n n_1 H->(n_1<(↑l0:Int)->∃b o,At x0 b o/\((0:Int)<=n_1/\n_1<(↑l0:Int))/\∃n_2,rd H b (o+n_1.toNat)=some (.i n_2)/\∃g u v,x1=.func (.func g) u v/\callable Tryz.prog g=true/\Ru g (Array.toList u++[.i n_2]++Array.toList v) H fun r H'=>∃c,r=.bool c/\(c=true->(n<(0:Int)->I64 (n_1+(1:Int))/\I n_1 (n_1+(1:Int)) H'/\μ n_1 (n_1+(1:Int)) H'<μ n n_1 H)/\(¬n<(0:Int)->∃b o,At x0 b o/\((0:Int)<=n/\n<(↑l0:Int))/\∃n_3,rd H' b (o+n.toNat)=some (.i n_3)/\∃g u v,x2=.func (.func g) u v/\callable Tryz.prog g=true/\Ru g (Array.toList u++[.i n_2,.i n_3]++Array.toList v) H' fun r H'=>∃c,r=.bool c/\(c=true->I64 (n_1+(1:Int))/\I n_1 (n_1+(1:Int)) H'/\μ n_1 (n_1+(1:Int)) H'<μ n n_1 H)/\(c=false->I64 (n_1+(1:Int))/\I n (n_1+(1:Int)) H'/\μ n (n_1+(1:Int)) H'<μ n n_1 H)))/\(c=false->I64 (n_1+(1:Int))/\I n (n_1+(1:Int)) H'/\μ n (n_1+(1:Int)) H'<μ n n_1 H))/\(¬n_1<(↑l0:Int)->R (.i n) H)):Ru 305 [.slice x0 l0 c0,x1,x2] H R:=vcr ⟨fun|3=>some [(7,.int .i64),(12,.int .i64)]|_=>none,fun _=>none⟩ [.slc x0 l0 c0,.op x1,.op x2] h
theorem v306 (x0:Int)(x1 o1:Nat)(h:((0:Int)<=x0->∃n,rd H x1 o1=some (.i n)/\((0:Int)<=x0/\(0:Int)<n)/\R (.bool (decide ¬x0 % n=0)) H)/\(¬(0:Int)<=x0->R (.bool false) H)):Ru 306 [.i x0,.p x1 o1] H R:=vcr nn [.int .i64 x0,.ptr x1 o1] h
theorem v307 (x0:Int)(x1:Int)(h:R (.bool (decide (x0<x1))) H):Ru 307 [.i x0,.i x1] H R:=vcr nn [.int .i64 x0,.int .i64 x1] h
theorem v308 (x0:Int)(x1 o1:Nat)(h:∃n,rd H x1 o1=some (.i n)/\R (.bool (decide (x0=n))) H):Ru 308 [.i x0,.p x1 o1] H R:=vcr nn [.int .i64 x0,.ptr x1 o1] h
theorem v309 (x0:Int)(h:R (.bool (decide (x0<(0:Int)))) H):Ru 309 [.i x0] H R:=vcr nn [.int .i64 x0] h
theorem v310 (x0:Int)(h:R (.bool (decide ((0:Int)<=x0))) H):Ru 310 [.i x0] H R:=vcr nn [.int .i64 x0] h
theorem v311 (x0:Int)(x1:Int)(h:R (.bool (decide (x1<x0))) H):Ru 311 [.i x0,.i x1] H R:=vcr nn [.int .i64 x0,.int .i64 x1] h
theorem v351 (x0 o0:Nat)(x1 o1:Nat)(h:∀H' p,New H [.i 0,.i 0] 39 H' p->∃n,rd H' x0 o0=some (.i n)/\∃n_1,rd H' x1 o1=some (.i n_1)/\List.length (α:=Value) [.i n,.i n_1]=2/\(∀v∈[.i n,.i n_1],One v)/\WOk H' p 0 2/\∀H'_1,H'_1=wrL H' p 0 [.i n,.i n_1]->∃cs:List Value,cs.length=2/\RdL H'_1 p 0 cs/\R (.tuple #[.agg cs.toArray,.bool true]) H'_1):Ru 351 [.p x0 o0,.p x1 o1] H R:=vcr nn [.ptr x0 o0,.ptr x1 o1] h
theorem v352 (x0:Int)(x1:Int)(h:(x0<(2:Int)->R (.tuple #[.i 0,.i 2]) H)/\(¬x0<(2:Int)->Ru 152 [.i x0,.i x1] H fun r H'=>∃n n_1,r=.tuple #[.i n,.i n_1]/\(¬n_1=0->R (.tuple #[.i 0,.i n_1]) H')/\(¬¬n_1=0->I64 (x1+n)/\I64 (x1+n-(2:Int))/\Ru 153 [.i (x1+n-(2:Int)),.i x1] H' fun r H'=>∃n_2,r=.i n_2/\I64 (x1+n)/\I64 (x1+n-(1:Int))/\I64 (x1-(1:Int))/\Ru 153 [.i (x1+n-(1:Int)),.i (x1-(1:Int))] H' fun r H'=>∃n,r=.i n/\I64 (x0-n)/\∀H'_1 q,New H' [.i 1,.i n_2,.i (x0-n)] 3 H'_1 q->Ru 369 [.slice (some ⟨q,0,none⟩) 3 3] H'_1 fun r H'=>∃n,r=.i n/\R (.tuple #[.i n,.i 0]) H'))):Ru 352 [.i x0,.i x1] H R:=vcr nn [.int .i64 x0,.int .i64 x1] h
theorem v369 (x0:Option Addr)(l0 c0:Nat)(h:∃b o,At x0 b o/\((0:Int)<=(0:Int)/\(0:Int)<(↑l0:Int))/\∃n,rd H b o=some (.i n)/\∃(I:Int->Int->Heap->Prop),∃(μ:Int->Int->Heap->Nat),I n (0:Int) H/\∀H n n_1,I n n_1 H->(n_1<(↑l0:Int)->∃b o,At x0 b o/\((0:Int)<=n_1/\n_1<(↑l0:Int))/\∃n_2,rd H b (o+n_1.toNat)=some (.i n_2)/\I64 (n_1+(1:Int))/\I (maxI true n n_2) (n_1+(1:Int)) H/\μ (maxI true n n_2) (n_1+(1:Int)) H<μ n n_1 H)/\(¬n_1<(↑l0:Int)->R (.i n) H)):Ru 369 [.slice x0 l0 c0] H R:=vcr ⟨fun|3=>some [(3,.int .i64),(11,.int .i64)]|_=>none,fun _=>none⟩ [.slc x0 l0 c0] h
end Go.VC
namespace Go.VC
open Go Go.Proofs
variable {H:Heap}{R:Value->Heap->Prop}
structure GoodP (p:Prog)(t:Tree):Prop where
 form:formB p
 regs:regsB p
 ok:t.Ok
 flat:t.flat=p.ops
 depth:t.depth<=8
 size:t.SizeOk
 few:t.size<=65536
theorem c167 {a:Option Addr}{l c:Nat}{ops:List Op}(h:RowO H a l ops)(hl:l<=4398046511104)
  (kn:∀H',scan ops 0≠some 0->Ext H H'->R (.tuple #[.int .i64 0,.int .i64 6]) H')
  (ke:∀H' t,Tree.Ok t->t.flat=ops->¬(t.SizeOk/\t.size<=65536)->Ext H H'->R (.tuple #[.int .i64 0,.int .i64 9]) H')
  (ko:∀H' t,Tree.Ok t->t.flat=ops->t.SizeOk->t.size<=65536->Ext H H'->R (.tuple #[.int .i64 (t.size:Int),.int .i64 0]) H'):Ru 167 [.slice a l c] H R:=
 v167 _ _ _ (c203 h hl (fun H' hs e=>⟨_,_,_,_,_,_,_,_,rfl,kn H' hs e⟩) (fun H' t ht hf hn e=>⟨_,_,_,_,_,_,_,_,rfl,ke H' t ht hf hn e⟩) (fun H' t a1 a2 ht hf hs hz e _=>⟨_,_,_,_,_,_,_,_,rfl,ko H' t ht hf hs hz e⟩))
theorem c131 {a:Option Addr}{l c:Nat}{ops:List Op}(h:RowO H a l ops)(hl:l<=4398046511104){t:Tree}(ht:t.Ok)(hf:t.flat=ops)(hs:t.SizeOk)(hz:t.size<=65536)
  (ko:∀H' t' a1,Tree.Ok t'->t'.flat=ops->Ext H H'->Buf 1 H' H.size a1 l l (i64s (sizesT t'))->R (.tuple #[.slice a1 l l,.int .i64 0]) H'):Ru 131 [.slice a l c] H R:=by
 have hsc:scan ops 0=some 0:=(scan_iff _).2 ⟨t,ht,hf⟩
 refine v131 _ _ _ (c203 h hl (fun H' hs' e=>(hs' hsc).elim) (fun H' t' ht' hf' hn e=>?_) (fun H' t' a1 a2 ht' hf' hs' hz' e hB=>⟨_,_,_,_,_,_,_,_,rfl,ko H' t' a1 ht' hf' e hB⟩))
 exfalso
 have h1:=zfold_tree ht [] [] [] 0 0 0
 have h2:=zfold_tree ht' [] [] [] 0 0 0
 rw[hf',<-hf] at h2
 have e1:=h1.1 hs
 by_cases hs':t'.SizeOk
 ·have e2:=h2.1 hs'
  rw[e1] at e2
  simp only[Option.some.injEq,Prod.mk.injEq,List.nil_append,List.cons.injEq,and_true,true_and,Nat.zero_add] at e2
  exact hn ⟨hs',by omega⟩
 ·have e2:=h2.2 hs'
  rw[e1] at e2;cases e2
theorem c266 {p:Prog}{a:Option Addr}{l c:Nat}(h:RowO H a l p.ops)(hl:l<=4398046511104){t:Tree}(ht:t.Ok)(hf:t.flat=p.ops)
  (k1:∀t':Tree,t'.Ok->t'.flat=p.ops->t'.SizeOk/\t'.size<=65536->∀H',Ext H H'->R (.int .i64 0) H') (k2:∀t':Tree,t'.Ok->t'.flat=p.ops->¬(t'.SizeOk/\t'.size<=65536)->∀H',Ext H H'->R (.int .i64 9) H'):Ru 266 [.agg (progC p a l c).toArray] H R:=
 v266 (progC p a l c) fun _ _ n1=>⟨_,_,_,n1.rd 1,c167 (Ext.row n1.mod h) hl (fun _ hs _=>(hs ((scan_iff _).2 ⟨t,ht,hf⟩)).elim)
  (fun _ t' ht' hf' hn e=>⟨_,_,rfl,k2 t' ht' hf' hn _ (n1.mod.thenExt e)⟩) (fun _ t' ht' hf' hs hz e=>⟨_,_,rfl,k1 t' ht' hf' ⟨hs,hz⟩ _ (n1.mod.thenExt e)⟩)⟩
theorem c166 (b:Bool)(e:Int)(k:R (.int .i64 (if b then e else 0)) H):Ru 166 [.bool b,.int .i64 e] H R:=
 v166 _ _ ⟨fun h=>by subst h;exact k,fun h=>by subst h;exact k⟩
theorem c66 {s1 s2:Int}{w1 w2:Value}(x th:Int)(hx:0<=x)(hth:0<=th)
  (k1:(1<=x/\x<=64/\th<=64/\x+th+1<=s1/\x+th<=s2)->∀H',Ext H H'->R (.int .i64 0) H') (k2:¬(1<=x/\x<=64/\th<=64/\x+th+1<=s1/\x+th<=s2)->∀H',Ext H H'->R (.int .i64 10) H') :
  Ru 66 [.agg #[.int .i64 s1,w1],.agg #[.int .i64 s2,w2],.int .i64 x,.int .i64 th] H R:=by
 refine v66 [.int .i64 s1,w1] [.int .i64 s2,w2] _ _ fun H1 p n1 H2 p1 n2=>⟨fun b H'=>H'=H2/\(b=true<->¬(1<=x/\x<=64/\0<=th/\th<=64)),⟨fun h=>⟨rfl,by simp;omega⟩,fun h=>⟨fun h=>⟨rfl,by simp;omega⟩,fun h=>⟨fun h=>⟨rfl,by simp;omega⟩,fun h=>⟨rfl,by simp[decP];omega⟩⟩⟩⟩,?_⟩
 have e2:=n1.mod.new n2
 rintro _ b ⟨rfl,hb⟩
 refine⟨fun h=>c134 _ _ ⟨_,rfl,k2 (fun h'=>(hb.1 h) ⟨by omega,by omega,by omega,by omega⟩) _ e2⟩,fun h=>?_⟩
 have hg:1<=x/\x<=64/\0<=th/\th<=64:=Classical.byContradiction fun h'=>by rw[hb.2 h'] at h;cases h
 refine⟨_,n2.mod.rd (by simp) (n1.rd 0),⟨by omega,by omega⟩,⟨by omega,by omega⟩,fun h1=>c134 _ _ ⟨_,rfl,k2 (by omega) _ e2⟩,fun h1=>⟨_,n2.rd 0,⟨by omega,by omega⟩,c134 _ _ ⟨_,rfl,?_⟩⟩⟩
 by_cases h3:s2<x+th
 ·rw[decide_eq_true h3];exact k2 (by omega) _ e2
 ·rw[decide_eq_false h3];exact k1 (by omega) _ e2
end Go.VC
namespace Go.VC
open Go Go.Proofs
variable {H:Heap}{R:Value->Heap->Prop}
structure Hdr where
 mode:Int
 x:List UInt64
 th:List UInt64
 step:Prog
 loss:Prog
 len:Int
 words:Int
structure HAt where
 xa:Option Addr
 xc:Nat
 ta:Option Addr
 tc:Nat
 sa:Option Addr
 sc:Nat
 la:Option Addr
 lc:Nat
def hdrC (h:Hdr)(p:HAt):List Value:=
 [.int .i64 h.mode,.slice p.xa h.x.length p.xc,.slice p.ta h.th.length p.tc,.int .i64 h.step.regs,.slice p.sa h.step.ops.length p.sc,.int .i64 h.loss.regs,.slice p.la h.loss.ops.length p.lc,.int .i64 h.len,.int .i64 h.words]
theorem c98 (h:Hdr)(p:HAt)(k1:1<=h.mode/\h.mode<=3->∀H',Ext H H'->R (.int .i64 0) H')(k2:¬(1<=h.mode/\h.mode<=3)->∀H',Ext H H'->R (.int .i64 5) H'):Ru 98 [.agg (hdrC h p).toArray] H R:=by
 refine v98 (hdrC h p) fun H1 q n1=>⟨_,n1.rd 0,fun h1=>c166 _ _ ⟨_,rfl,k2 (by omega) _ n1.mod⟩,fun h1=>⟨_,n1.rd 0,c166 _ _ ⟨_,rfl,?_⟩⟩⟩
 by_cases h3:3<h.mode
 ·rw[decide_eq_true h3];exact k2 (by omega) _ n1.mod
 ·rw[decide_eq_false h3];exact k1 (by omega) _ n1.mod
def lenOk (h:Hdr):Prop:=0<=h.len/\h.len<=(if h.mode=2 then 0 else 65535)
theorem c101 (h:Hdr)(p:HAt)(k1:lenOk h->∀H',Ext H H'->R (.int .i64 0) H')(k2:¬lenOk h->∀H',Ext H H'->R (.int .i64 11) H'):Ru 101 [.agg (hdrC h p).toArray] H R:=by
 unfold lenOk at k1 k2
 refine v101 (hdrC h p) fun H1 q n1=>⟨_,n1.rd 0,fun hm=>?_,fun hm=>?_⟩
 ·rw[if_pos hm] at k1 k2
  refine⟨_,n1.rd 7,fun h1=>c166 _ _ ⟨_,rfl,k2 (by omega) _ n1.mod⟩,fun h1=>⟨_,n1.rd 7,c166 _ _ ⟨_,rfl,?_⟩⟩⟩
  by_cases h3:0<h.len
  ·rw[decide_eq_true h3];exact k2 (by omega) _ n1.mod
  ·rw[decide_eq_false h3];exact k1 (by omega) _ n1.mod
 ·rw[if_neg hm] at k1 k2
  refine⟨_,n1.rd 7,fun h1=>c166 _ _ ⟨_,rfl,k2 (by omega) _ n1.mod⟩,fun h1=>⟨_,n1.rd 7,c166 _ _ ⟨_,rfl,?_⟩⟩⟩
  by_cases h3:65535<h.len
  ·rw[decide_eq_true h3];exact k2 (by omega) _ n1.mod
  ·rw[decide_eq_false h3];exact k1 (by omega) _ n1.mod
theorem c102 (h:Hdr)(p:HAt)(k1:0<=h.words/\h.words<=1048576->∀H',Ext H H'->R (.int .i64 0) H')(k2:¬(0<=h.words/\h.words<=1048576)->∀H',Ext H H'->R (.int .i64 12) H'):Ru 102 [.agg (hdrC h p).toArray] H R:=by
 refine v102 (hdrC h p) fun H1 q n1=>⟨_,n1.rd 8,fun h1=>c166 _ _ ⟨_,rfl,k2 (by omega) _ n1.mod⟩,fun h1=>⟨_,n1.rd 8,c166 _ _ ⟨_,rfl,?_⟩⟩⟩
 by_cases h3:1048576<h.words
 ·rw[decide_eq_true h3];exact k2 (by omega) _ n1.mod
 ·rw[decide_eq_false h3];exact k1 (by omega) _ n1.mod
def looksC (p:Prog)(a:Option Addr)(l c:Nat):List Value:=
 [.func (.func 263) #[.agg (progC p a l c).toArray] #[],.func (.func 264) #[.agg (progC p a l c).toArray] #[],.func (.func 265) #[.agg (progC p a l c).toArray] #[],.func (.func 266) #[.agg (progC p a l c).toArray] #[]]
theorem c204 (p:Prog)(a:Option Addr)(l c:Nat)(k:∀H' q,Own H' q (looksC p a l c)->Ext H H'->H.size<=q->q<H'.size->R (.slice (some ⟨q,0,none⟩) 4 4) H'):Ru 204 [.agg (progC p a l c).toArray] H R:=
 v204 (progC p a l c) fun _ _ n1=>⟨_,rfl,n1.rdL,_,rfl,n1.rdL,_,rfl,n1.rdL,_,rfl,n1.rdL,fun _ q n2=>k _ q n2.own (n1.mod.new n2) (Nat.le_trans n1.mod.1 n2.ge) n2.lt⟩
end Go.VC
namespace Go.VC
open Go Go.Proofs
abbrev PAt:=Prog × Option Addr × Nat
def pC (x:PAt):List Value:=progC x.1 x.2.1 x.1.ops.length x.2.2
def lC (x:PAt):List Value:=looksC x.1 x.2.1 x.1.ops.length x.2.2
theorem flatMap_get {α β:Type}(f:α->List β)(n:Nat)(hf:∀x,(f x).length=n){L:List α}{i:Nat}(hi:i<L.length):∃r,(L.flatMap f).drop (i*n)=f L[i]++r:=by
 have h:L=L.take i++L[i] ::L.drop (i+1):=by rw[<-List.drop_eq_getElem_cons hi,List.take_append_drop]
 have e:L.flatMap f=(L.take i).flatMap f++(f L[i]++(L.drop (i+1)).flatMap f):=(congrArg (List.flatMap f) h).trans (by simp only[List.flatMap_append,List.flatMap_cons])
 refine⟨(L.drop (i+1)).flatMap f,?_⟩
 have hlen:∀M:List α,(M.flatMap f).length=M.length*n:=by
  intro M;induction M with
  | nil=>simp
  | cons m M ih=>simp[ih,hf,Nat.add_mul];omega
 rw[e]
 have hl:((L.take i).flatMap f).length=i*n:=by rw[hlen,List.length_take,Nat.min_eq_left (by omega)]
 rw[<-hl,List.drop_left]
def passed (p:Prog)(i:Nat):Prop:=
 (0<i->formB p)/\(1<i->regsB p)/\(2<i->∀t:Tree,t.Ok->t.flat=p.ops->t.depth<=8)/\(3<i->∀t:Tree,t.Ok->t.flat=p.ops->t.SizeOk/\t.size<=65536)
theorem passed_zero (p:Prog):passed p 0:=⟨by omega,by omega,by omega,by omega⟩
theorem passed_four {p:Prog}(h:passed p 4):∃t,GoodP p t:=by
 have hf:=h.1 (by omega)
 obtain⟨t,ht,hfl⟩:=(scan_iff _).1 hf.2.1
 have hz:=h.2.2.2 (by omega) t ht hfl
 exact⟨t,hf,h.2.1 (by omega),ht,hfl,h.2.2.1 (by omega) t ht hfl,hz.1,hz.2⟩
theorem good_passed {p:Prog}{t:Tree}(h:GoodP p t)(i:Nat):passed p i:=
 ⟨fun _=>h.form,fun _=>h.regs,fun _ u hu hf=>by rw[flat_inj hu h.ok (hf.trans h.flat.symm)];exact h.depth,fun _ u hu hf=>by rw[flat_inj hu h.ok (hf.trans h.flat.symm)];exact⟨h.size,h.few⟩⟩
theorem oneLook {H:Heap}{K:Value->Heap->Prop}(x:PAt)(i:Nat)(hi:i<4)(hr:RowO H x.2.1 x.1.ops.length x.1.ops)(hl:x.1.ops.length<=4398046511104)(hp:passed x.1 i)
  (k1:∀H',passed x.1 (i+1)->Ext H H'->K (.int .i64 0) H') (k2:∀n H',n≠0->¬passed x.1 (i+1)->Ext H H'->K (.int .i64 n) H') :
  ∃g u v,(lC x)[i]?=some (.func (.func g) u v)/\callable Tryz.prog g=true/\Ru g (u.toList++[]++v.toList) H K:=by
 match i,hi with
 | 0,_=>exact⟨263,_,_,rfl,by kernel_rfl,c263 hr hl (fun h H' e=>k1 H' ⟨fun _=>h,by omega,by omega,by omega⟩ e) (fun h H' e=>k2 _ H' (by omega) (fun h'=>h (h'.1 (by omega))) e)⟩
 | 1,_=>exact⟨264,_,_,rfl,by kernel_rfl,c264 hr hl (fun h H' e=>k1 H' ⟨fun _=>hp.1 (by omega),fun _=>h,by omega,by omega⟩ e) (fun h H' e=>k2 _ H' (by omega) (fun h'=>h (h'.2.1 (by omega))) e)⟩
 | 2,_=>
  obtain⟨t,ht,hf⟩:=(scan_iff _).1 (hp.1 (by omega)).2.1
  exact⟨265,_,_,rfl,by kernel_rfl,c265 hr hl ht hf (fun h H' e=>k1 H' ⟨fun _=>hp.1 (by omega),fun _=>hp.2.1 (by omega),fun _ u hu hfu=>by rw[flat_inj hu ht (hfu.trans hf.symm)];exact h,by omega⟩ e) (fun h H' e=>k2 _ H' (by omega) (fun h'=>h (h'.2.2.1 (by omega) t ht hf)) e)⟩
 | 3,_=>
  obtain⟨t,ht,hf⟩:=(scan_iff _).1 (hp.1 (by omega)).2.1
  exact⟨266,_,_,rfl,by kernel_rfl,c266 hr hl ht hf (fun t' ht' hf' h H' e=>k1 H' ⟨fun _=>hp.1 (by omega),fun _=>hp.2.1 (by omega),fun _=>hp.2.2.1 (by omega),fun _ u hu hfu=>by rw[flat_inj hu ht' (hfu.trans hf'.symm)];exact h⟩ e)
   (fun t' ht' hf' h H' e=>k2 _ H' (by omega) (fun h'=>h (h'.2.2.2 (by omega) t' ht' hf')) e)⟩
structure Gath (H0 H:Heap)(L:List PAt)(k:Nat)(qs:List Nat)(a:Option Addr)(c:Nat):Prop where
 len:qs.length=k
 le:k<=L.length
 buf:Buf 1 H H0.size a k c (qs.map fun q=>Value.slice (some ⟨q,0,none⟩) 4 4)
 at_:∀j (h:j<L.length) (h':j<qs.length),RdL H qs[j] 0 (lC L[j])
 new:∀q∈qs,H0.size<=q/\q<H.size/\(0<c->a≠some ⟨q,0,none⟩)
 ext:Ext H0 H
theorem Gath.then {H0 H H':Heap}{L:List PAt}{k:Nat}{qs:List Nat}{a:Option Addr}{c:Nat}(g:Gath H0 H L k qs a c)(e:Ext H H'):Gath H0 H' L k qs a c:=
 ⟨g.len,g.le,g.buf.ext e,fun j h h'=>e.rdL (by simp) (g.at_ j h h'),fun q hq=>⟨(g.new q hq).1,Nat.lt_of_lt_of_le (g.new q hq).2.1 e.1,(g.new q hq).2.2⟩,g.ext.thenExt e⟩
theorem c133 {H:Heap}{R:Value->Heap->Prop}{a:Option Addr}{c:Nat}{L:List PAt}(h:Row 2 H a L.length (L.flatMap pC))(hL:L.length<=4)
  (hr:∀x∈L,RowO H x.2.1 x.1.ops.length x.1.ops/\x.1.ops.length<=4398046511104)
  (k1:(∀x∈L,∃t,GoodP x.1 t)->∀H',Ext H H'->R (.int .i64 0) H') (k2:∀n H',n≠0->¬(∀x∈L,∃t,GoodP x.1 t)->Ext H H'->R (.int .i64 n) H'):Ru 133 [.slice a L.length c] H R:=by
 refine v133 _ _ _ ⟨fun b m cb H'=>m=L.length/\∃qs,Gath H H' L L.length qs b cb,⟨fun b m cb n H'=>∃k:Nat,n=k/\m=k/\∃qs,Gath H H' L k qs b cb,fun _ _ _ n _=>(L.length-n).toNat,
  ⟨0,rfl,rfl,[],rfl,by omega,Buf.nil,by simp,by simp,Mod.refl⟩,?_⟩,?_⟩
 ·rintro H1 b k cb _ ⟨_,rfl,rfl,qs,g⟩
  refine⟨fun hlt=>?_,fun hge=>?_⟩
  rotate_left
  ·have:=g.le
   have hk:k=L.length:=by omega
   subst hk
   exact⟨rfl,qs,g⟩
  have hk:k<L.length:=by omega
  obtain⟨bb,o,eb,hrd⟩:=(Ext.row g.ext h).at (by omega)
  obtain⟨r,hd⟩:=flatMap_get pC 2 (fun _=>rfl) hk
  have hcell:=rdL_drop (k:=k*2) hrd
  rw[hd] at hcell
  have hcell:=(rdL_append.1 hcell).1
  refine⟨bb,o,eb,⟨by omega,hlt⟩,_,rfl,hcell,fun H2 p n2=>⟨rfl,?_,n2.own.w 0 2 rfl,?_⟩⟩
  ·intro x hx;simp[pC,progC] at hx;rcases hx with rfl|rfl<;>trivial
  rintro _ rfl
  have ho:=n2.own.wrL 0 (pC L[k]) (Nat.le_refl 2)
  have e3:Ext H1 (wrL H2 p 0 (pC L[k])):=n2.mod.trans_new (Mod.refl.wrL (S:=[p]) (.inl (by simp))) (by simpa using n2.ge)
  simp only[List.take_zero,List.nil_append] at ho
  have hcs:RdL (wrL H2 p 0 (pC L[k])) p 0 (pC L[k]):=(rdL_append.1 ho.1).1
  generalize wrL H2 p 0 (pC L[k])=H3 at *
  refine⟨_,rfl,hcs,c204 _ _ _ _ fun H4 q ho4 e4 hq hql=>⟨_,_,_,rfl,fun H5 q5 n5=>⟨_,rfl,.inr ⟨q5,0,rfl,n5.rdL⟩,?_⟩⟩⟩
  have e5:Ext H1 H5:=(e3.thenExt e4).new n5
  have g5:=g.then e5
  have z1:=e3.1;have z4:=e4.1;have z5:=n5.mod.1
  refine g5.buf.app' g5.ext.1 rfl rfl (by intro x hx;simp at hx;subst hx;trivial) (by omega) (by omega) fun a6 c6 H6 S hB6 m6 hS6 hf6=>?_
  have hSq:∀x,x∈qs++[q]->x∉S:=by
   intro x hx hm
   obtain⟨_,hc,e⟩:=hS6 x hm
   rcases List.mem_append.1 hx with h'|h'
   ·exact (g.new x h').2.2 hc e
   ·simp at h';subst h'
    rcases g.buf.ok with h0|⟨b',e',_,_,hw⟩
    ·omega
    ·rw[e'] at e;cases e
     have:=rdsome_lt (hw 0 (by omega)).1
     omega
  refine⟨⟨by omega,by omega⟩,⟨k+1,by push_cast;rfl,rfl,qs++[q],by simp[g.len],by omega,by simpa using hB6,?_,?_,g5.ext.trans_new m6 fun x hx=>.inr (hS6 x hx).1⟩,by (try dsimp only);omega⟩
  ·intro j hj hj'
   by_cases hjk:j<qs.length
   ·rw[List.getElem_append_left hjk]
    exact m6.rdL (hSq _ (by simp)) (g5.at_ j hj hjk)
   ·have:j=k:=by simp at hj';have:=g.len;omega
    subst this
    rw[List.getElem_append_right (by omega)]
    simp only[g.len,Nat.sub_self,List.getElem_cons_zero]
    exact m6.rdL (hSq _ (by simp)) (n5.mod.rdL (by simp) ho4.1)
  ·intro x hx
   have hz6:=m6.1
   have hxb:H.size<=x/\x<H5.size:=by
    rcases List.mem_append.1 hx with h'|h'
    ·exact⟨(g5.new x h').1,(g5.new x h').2.1⟩
    ·simp at h';subst h';have:=g.ext.1;omega
   refine⟨hxb.1,by omega,fun hc e=>?_⟩
   rcases hf6 with ⟨rfl,rfl⟩|⟨p6,e6,hp6⟩
   ·rcases List.mem_append.1 hx with h'|h'
    ·exact (g.new x h').2.2 hc e
    ·simp at h';subst h'
     rcases g.buf.ok with h0|⟨b',e',_,_,hw⟩
     ·omega
     ·rw[e'] at e;cases e
      have:=rdsome_lt (hw 0 (by omega)).1
      omega
   ·rw[e6] at e;cases e;omega
 ·rintro H1 b m cb ⟨rfl,qs,g⟩
  refine⟨fun n H'=>∃i:Nat,n=i/\i<=4/\Ext H1 H'/\∀x∈L,passed x.1 i,fun n _=>(4-n).toNat,⟨0,rfl,by omega,Mod.refl,fun x _=>passed_zero _⟩,?_⟩
  rintro H2 _ ⟨i,rfl,hi4,e2,hp⟩
  refine⟨fun hlt=>?_,fun hge=>k1 (fun x hx=>passed_four (by have:=hp x hx;rwa [show i=4 by omega] at this)) _ (g.ext.thenExt e2)⟩
  refine⟨fun m H'=>∃j:Nat,m=j/\j<=L.length/\Ext H1 H'/\∀x∈L.take j,passed x.1 (i+1),fun m _=>(L.length-m).toNat,⟨0,rfl,by omega,e2,by simp⟩,?_⟩
  rintro H3 _ ⟨j,rfl,hjl,e3,hpj⟩
  refine⟨fun hlt2=>?_,fun hge2=>⟨⟨by omega,by omega⟩,⟨i+1,by push_cast;rfl,by omega,e3,fun x hx=>hpj x (by rw[List.take_of_length_le (by omega)];exact hx)⟩,by (try dsimp only);omega⟩⟩
  have hj:j<L.length:=by omega
  have g3:=g.then e3
  have hjq:j<qs.length:=by rw[g.len];omega
  obtain⟨bb,o,eb,hrd⟩:=g3.buf.row.at (by omega)
  have hcell:=rdL_get' hrd (j:=j) (v:=.slice (some ⟨qs[j],0,none⟩) 4 4) (by simp[hjq])
  have hro:=hr L[j] (List.getElem_mem hj)
  obtain⟨gg,u,v,hlk,hcall,hrun⟩:=oneLook (K:=fun r H'=>∃n,r=.int .i64 n/\(¬n=(0:Int)->R (.int .i64 n) H')/\(¬¬n=(0:Int)->I64 ((j:Int)+(1:Int))/\(∃j':Nat,((j:Int)+(1:Int))=j'/\j'<=L.length/\Ext H1 H'/\∀x∈L.take j',passed x.1 (i+1))/\(L.length-((j:Int)+(1:Int))).toNat<(L.length-(j:Int)).toNat)) L[j] i (by omega) (Ext.row g3.ext hro.1) hro.2 (hp _ (List.getElem_mem hj))
   (fun H' hpass e=>⟨_,rfl,by simp,fun _=>⟨⟨by omega,by omega⟩,⟨j+1,by push_cast;rfl,by omega,e3.thenExt e,fun x hx=>by
    rw[List.take_succ_eq_append_getElem hj] at hx
    rcases List.mem_append.1 hx with h'|h'
    ·exact hpj x h'
    ·simp at h';subst h';exact hpass⟩,by omega⟩⟩)
   (fun n H' hn hpass e=>⟨_,rfl,fun _=>k2 n H' hn (fun hall=>hpass (by obtain⟨t,ht⟩:=hall _ (List.getElem_mem hj);exact good_passed ht _)) (g3.ext.thenExt e),fun h'=>(h' hn).elim⟩)
  exact⟨bb,o,eb,⟨by omega,hlt2⟩,_,_,_,hcell,qs[j],0,rfl,⟨by omega,by omega⟩,_,rdL_get' (g3.at_ j hj hjq) (by simpa using hlk),gg,u,v,rfl,hcall,hrun⟩
end Go.VC
namespace Go.VC
open Go Go.Proofs
variable {H:Heap}{R:Value->Heap->Prop}
structure HRows (H:Heap)(h:Hdr)(p:HAt):Prop where
 x:RowU H p.xa h.x.length h.x
 th:RowU H p.ta h.th.length h.th
 s:RowO H p.sa h.step.ops.length h.step.ops
 l:RowO H p.la h.loss.ops.length h.loss.ops
 x1:h.x.length<=17592186044416
 th1:h.th.length<=17592186044416
 s1:h.step.ops.length<=4398046511104
 l1:h.loss.ops.length<=4398046511104
theorem HRows.ext {H H':Heap}{h:Hdr}{p:HAt}(r:HRows H h p)(e:Ext H H'):HRows H' h p:=
 ⟨Ext.row e r.x,Ext.row e r.th,Ext.row e r.s,Ext.row e r.l,r.x1,r.th1,r.s1,r.l1⟩
def stepP (h:Hdr)(p:HAt):PAt:=(h.step,p.sa,p.sc)
def lossP (h:Hdr)(p:HAt):PAt:=(h.loss,p.la,p.lc)
theorem c65 (h:Hdr)(p:HAt)(r:HRows H h p)
  (k1:(∃t,GoodP h.step t)->(∃t,GoodP h.loss t)->∀H',Ext H H'->R (.int .i64 0) H') (k2:∀n H',n≠0->¬((∃t,GoodP h.step t)/\∃t,GoodP h.loss t)->Ext H H'->R (.int .i64 n) H') :
  Ru 65 [.agg (pC (stepP h p)).toArray,.agg (pC (lossP h p)).toArray] H R:=by
 refine v65 (pC (stepP h p)) (pC (lossP h p)) fun H1 q n1 H2 q2 n2=>⟨_,rfl,n2.mod.rdL (by simp) n1.rdL,_,rfl,n2.rdL,⟨rfl,rfl⟩,fun H3 q3 n3=>?_⟩
 have e3:=(n1.mod.new n2).new n3
 have r3:=r.ext e3
 refine c133 (L:=[stepP h p,lossP h p]) ⟨rfl,.inr ⟨q3,0,rfl,n3.rdL⟩⟩ (by simp) ?_ (fun hall H' e=>⟨_,rfl,?_⟩) (fun n H' hn hall e=>⟨_,rfl,?_⟩)
 ·intro x hx
  simp only[List.mem_cons,List.not_mem_nil,or_false] at hx
  rcases hx with rfl|rfl
  ·exact⟨r3.s,r3.s1⟩
  ·exact⟨r3.l,r3.l1⟩
 ·exact k1 (hall (stepP h p) (by simp)) (hall (lossP h p) (by simp)) _ (e3.thenExt e)
 ·refine k2 n H' hn (fun h'=>hall ?_) (e3.thenExt e)
  intro x hx
  simp only[List.mem_cons,List.not_mem_nil,or_false] at hx
  rcases hx with rfl|rfl
  ·exact h'.1
  ·exact h'.2
def dimsOk (h:Hdr):Prop:=1<=(h.x.length:Int)/\(h.x.length:Int)<=64/\(h.th.length:Int)<=64/\(h.x.length:Int)+h.th.length+1<=h.step.regs/\(h.x.length:Int)+h.th.length<=h.loss.regs
structure OkH (h:Hdr):Prop where
 mode:1<=h.mode/\h.mode<=3
 step:∃t,GoodP h.step t
 loss:∃t,GoodP h.loss t
 dims:dimsOk h
 len:lenOk h
 words:0<=h.words/\h.words<=1048576
theorem c99 (h:Hdr)(p:HAt)(r:HRows H h p)
  (k1:(∃t,GoodP h.step t)->(∃t,GoodP h.loss t)->∀H',Ext H H'->R (.int .i64 0) H') (k2:∀n H',n≠0->¬((∃t,GoodP h.step t)/\∃t,GoodP h.loss t)->Ext H H'->R (.int .i64 n) H'):Ru 99 [.agg (hdrC h p).toArray] H R:=by
 refine v99 (hdrC h p) fun H1 q n1=>⟨pC (stepP h p),rfl,⟨n1.rd 3,n1.rd 4,trivial⟩,pC (lossP h p),rfl,⟨n1.rd 5,n1.rd 6,trivial⟩,?_⟩
 exact c65 h p (r.ext n1.mod) (fun h1 h2 H' e=>⟨_,rfl,k1 h1 h2 _ (n1.mod.thenExt e)⟩) (fun n H' hn hb e=>⟨_,rfl,k2 n H' hn hb (n1.mod.thenExt e)⟩)
theorem c100 (h:Hdr)(p:HAt)(r:HRows H h p)
  (k1:dimsOk h->∀H',Ext H H'->R (.int .i64 0) H') (k2:¬dimsOk h->∀H',Ext H H'->R (.int .i64 10) H'):Ru 100 [.agg (hdrC h p).toArray] H R:=by
 refine v100 (hdrC h p) fun H1 q n1=>⟨pC (stepP h p),rfl,⟨n1.rd 3,n1.rd 4,trivial⟩,pC (lossP h p),rfl,⟨n1.rd 5,n1.rd 6,trivial⟩,_,_,_,n1.rd 1,_,_,_,n1.rd 2,?_⟩
 refine c66 _ _ (by omega) (by omega) (fun hd H' e=>⟨_,rfl,k1 hd _ (n1.mod.thenExt e)⟩) (fun hd H' e=>⟨_,rfl,k2 hd _ (n1.mod.thenExt e)⟩)
def seen (h:Hdr)(i:Nat):Prop:=
 (0<i->1<=h.mode/\h.mode<=3)/\(1<i->(∃t,GoodP h.step t)/\∃t,GoodP h.loss t)/\(2<i->dimsOk h)/\(3<i->lenOk h)/\(4<i->0<=h.words/\h.words<=1048576)
theorem seen_ok {h:Hdr}(k:OkH h)(i:Nat):seen h i:=⟨fun _=>k.mode,fun _=>⟨k.step,k.loss⟩,fun _=>k.dims,fun _=>k.len,fun _=>k.words⟩
theorem seen_five {h:Hdr}(k:seen h 5):OkH h:=⟨k.1 (by omega),(k.2.1 (by omega)).1,(k.2.1 (by omega)).2,k.2.2.1 (by omega),k.2.2.2.1 (by omega),k.2.2.2.2 (by omega)⟩
def headC (h:Hdr)(p:HAt):List Value:=
 [.func (.func 98) #[.agg (hdrC h p).toArray] #[],.func (.func 99) #[.agg (hdrC h p).toArray] #[],.func (.func 100) #[.agg (hdrC h p).toArray] #[],.func (.func 101) #[.agg (hdrC h p).toArray] #[],.func (.func 102) #[.agg (hdrC h p).toArray] #[]]
theorem headLook {H:Heap}{K:Value->Heap->Prop}(h:Hdr)(p:HAt)(r:HRows H h p)(i:Nat)(hi:i<5)(hp:seen h i)
  (k1:∀H',seen h (i+1)->Ext H H'->K (.int .i64 0) H') (k2:∀n H',n≠0->¬seen h (i+1)->Ext H H'->K (.int .i64 n) H') :
  ∃g u v,(headC h p)[i]?=some (.func (.func g) u v)/\callable Tryz.prog g=true/\Ru g (u.toList++[]++v.toList) H K:=by
 obtain⟨p0,p1,p2,p3,p4⟩:=hp
 match i,hi with
 | 0,_=>exact⟨98,_,_,rfl,by kernel_rfl,c98 h p (fun a H' e=>k1 H' ⟨fun _=>a,by omega,by omega,by omega,by omega⟩ e) (fun a H' e=>k2 _ H' (by omega) (fun s=>a (s.1 (by omega))) e)⟩
 | 1,_=>exact⟨99,_,_,rfl,by kernel_rfl,c99 h p r (fun a b H' e=>k1 H' ⟨fun _=>p0 (by omega),fun _=>⟨a,b⟩,by omega,by omega,by omega⟩ e) (fun n H' hn a e=>k2 _ H' hn (fun s=>a (s.2.1 (by omega))) e)⟩
 | 2,_=>exact⟨100,_,_,rfl,by kernel_rfl,c100 h p r (fun a H' e=>k1 H' ⟨fun _=>p0 (by omega),fun _=>p1 (by omega),fun _=>a,by omega,by omega⟩ e) (fun a H' e=>k2 _ H' (by omega) (fun s=>a (s.2.2.1 (by omega))) e)⟩
 | 3,_=>exact⟨101,_,_,rfl,by kernel_rfl,c101 h p (fun a H' e=>k1 H' ⟨fun _=>p0 (by omega),fun _=>p1 (by omega),fun _=>p2 (by omega),fun _=>a,by omega⟩ e) (fun a H' e=>k2 _ H' (by omega) (fun s=>a (s.2.2.2.1 (by omega))) e)⟩
 | 4,_=>exact⟨102,_,_,rfl,by kernel_rfl,c102 h p (fun a H' e=>k1 H' ⟨fun _=>p0 (by omega),fun _=>p1 (by omega),fun _=>p2 (by omega),fun _=>p3 (by omega),fun _=>a⟩ e) (fun a H' e=>k2 _ H' (by omega) (fun s=>a (s.2.2.2.2 (by omega))) e)⟩
theorem hdrC_length (h:Hdr)(p:HAt):(hdrC h p).length=9:=by simp[hdrC]
theorem hdrC_one {h:Hdr}{p:HAt}:∀v∈hdrC h p,One v:=by
 intro v hv;simp[hdrC] at hv;rcases hv with rfl|rfl|rfl|rfl|rfl|rfl|rfl|rfl|rfl<;>trivial
theorem c46 (h:Hdr)(p:HAt)(r:HRows H h p)
  (k1:OkH h->∀H',Ext H H'->R (.int .i64 0) H') (k2:∀n H',n≠0->¬OkH h->Ext H H'->R (.int .i64 n) H'):Ru 46 [.agg (hdrC h p).toArray] H R:=by
 refine v46 (hdrC h p) fun H1 q n1=>⟨hdrC h p,hdrC_length h p,n1.rdL,fun H2 q2 n2=>⟨hdrC_length h p,hdrC_one,by have:=n2.own.w 0 9 (by simp);exact this,?_⟩⟩
 intro H3 hH3
 have hc:RdL H3 q2 0 (hdrC h p):=by rw[hH3];exact rdL_wrL (by have:=n2.own.w 0 9 (by simp);exact this)
 have e3:Ext H H3:=by rw[hH3];exact (n1.mod.new n2).trans_new (Mod.refl.wrL (S:=[q2]) (.inl (by simp))) (by simpa using Nat.le_trans n1.mod.1 n2.ge)
 clear hH3
 refine⟨hdrC h p,hdrC_length h p,hc,hdrC h p,hdrC_length h p,hc,hdrC h p,hdrC_length h p,hc,hdrC h p,hdrC_length h p,hc,hdrC h p,hdrC_length h p,hc,fun H4 q4 n4=>⟨fun n H'=>∃i:Nat,n=i/\i<=5/\Ext H4 H'/\seen h i,fun n _=>(5-n).toNat,⟨0,rfl,by omega,Mod.refl,⟨by omega,by omega,by omega,by omega,by omega⟩⟩,?_⟩⟩
 have e4:=e3.new n4
 rintro H5 _ ⟨i,rfl,hi,e5,hs⟩
 refine⟨fun hlt=>?_,fun hge=>k1 (seen_five (by rwa [show i=5 by omega] at hs)) _ (e4.thenExt e5)⟩
 obtain⟨g,u,v,hlk,hcall,hrun⟩:=headLook (K:=fun r H'=>∃n_1,r=.int .i64 n_1/\(¬n_1=(0:Int)->R (.int .i64 n_1) H')/\(¬¬n_1=(0:Int)->I64 ((i:Int)+(1:Int))/\(∃j:Nat,((i:Int)+(1:Int))=j/\j<=5/\Ext H4 H'/\seen h j)/\((5:Int)-((i:Int)+(1:Int))).toNat<((5:Int)-(i:Int)).toNat)) h p (r.ext (e4.thenExt e5)) i (by omega) hs
  (fun H' hpass e=>⟨_,rfl,by simp,fun _=>⟨⟨by omega,by omega⟩,⟨i+1,by push_cast;rfl,by omega,e5.thenExt e,hpass⟩,by omega⟩⟩)
  (fun n H' hn hpass e=>⟨_,rfl,fun _=>k2 n H' hn (fun hall=>hpass (seen_ok hall _)) ((e4.thenExt e5).thenExt e),fun h'=>(h' hn).elim⟩)
 exact⟨q4,0,rfl,⟨by omega,hlt⟩,_,rdL_get' (e5.rdL (by simp) n4.rdL) hlk,g,u,v,rfl,hcall,hrun⟩
end Go.VC
namespace Go.VC
open Go Go.Proofs Go.Proofs.YthenlgnbegeliaaGreat Go.ChangeShapes Go.WideShapes Go.ChangeAt Go.RowKit Go.WideElems
variable {H:Type}{enc:TypeId × Value->H}
theorem open_prog {w:World}{base:Nat}{sp:Nat->Bool}{held:Bool}{fuel:Nat}{cs:List Value}{x:DataW H × List MemPlace}(h:DataW.trod enc Tryz.prog w base sp held fuel 25 cs=some x) :
  ∃p a c,cs=progC p a p.ops.length c/\RowO w.heap a p.ops.length p.ops/\((x.1.weights Tryz.prog 25).all (·<=reachBytes)=true->p.ops.length<=4398046511104):=by
 obtain⟨xs,n,_,rfl,hl,hxl,hf⟩:=DataW.trod_struct und25 h
 have hl':cs.length=2:=hl.trans cells25
 obtain⟨c0,c1,rfl⟩:∃c0 c1,cs=[c0,c1]:=by
  clear hf hl h
  match cs,hl' with
  | [c0,c1],_=>exact⟨c0,c1,rfl⟩
 have hx:xs.length=2:=hxl
 obtain⟨y0,y1,rfl⟩:∃y0 y1,xs=[y0,y1]:=by
  clear hf hl h hxl
  match xs,hx with
  | [y0,y1],_=>exact⟨y0,y1,rfl⟩
 have f0:DataW.trod enc Tryz.prog w base sp held n 3 (([c0,c1].drop 0).take (Tryz.prog.cellsOf 3))=some y0:=hf 0 _ rfl
 have f1:DataW.trod enc Tryz.prog w base sp held n 23 (([c0,c1].drop 1).take (Tryz.prog.cellsOf 23))=some y1:=hf 1 _ rfl
 rw[cells3] at f0
 rw[cells23] at f1
 obtain⟨n0,e0,_,_⟩:=DataW.trod_int und3 f0
 obtain⟨a,l,c,ops,e1,hr,hw⟩:=open_ops f1
 simp at e0 e1
 subst e0 e1
 have hol:=RowO.len hr
 subst hol
 refine⟨⟨n0,ops⟩,a,c,rfl,hr,fun hq=>hw ?_⟩
 simp only[DataW.weights,und25,List.map_cons,List.map_nil,DataW.weightsEach,List.all_append,Bool.and_eq_true] at hq
 exact hq.2.1
theorem open_header {w:World}{base:Nat}{sp:Nat->Bool}{held:Bool}{fuel:Nat}{cs:List Value}{x:DataW H × List MemPlace}(h:DataW.trod enc Tryz.prog w base sp held fuel 27 cs=some x) :
  ∃hd hp,cs=hdrC hd hp/\((x.1.weights Tryz.prog 27).all (·<=reachBytes)=true->HRows w.heap hd hp):=by
 obtain⟨xs,n,_,rfl,hl,hxl,hf⟩:=DataW.trod_struct und27 h
 have hl':cs.length=9:=hl.trans cells27
 obtain⟨c0,c1,c2,c3,c4,c5,c6,c7,c8,rfl⟩:∃c0 c1 c2 c3 c4 c5 c6 c7 c8,cs=[c0,c1,c2,c3,c4,c5,c6,c7,c8]:=by
  clear hf hl h
  match cs,hl' with
  | [c0,c1,c2,c3,c4,c5,c6,c7,c8],_=>exact⟨c0,c1,c2,c3,c4,c5,c6,c7,c8,rfl⟩
 have hx:xs.length=7:=hxl
 obtain⟨y0,y1,y2,y3,y4,y5,y6,rfl⟩:∃y0 y1 y2 y3 y4 y5 y6,xs=[y0,y1,y2,y3,y4,y5,y6]:=by
  clear hf hl h hxl
  match xs,hx with
  | [y0,y1,y2,y3,y4,y5,y6],_=>exact⟨y0,y1,y2,y3,y4,y5,y6,rfl⟩
 have f0:DataW.trod enc Tryz.prog w base sp held n 3 (([c0,c1,c2,c3,c4,c5,c6,c7,c8].drop 0).take (Tryz.prog.cellsOf 3))=some y0:=hf 0 _ rfl
 have f1:DataW.trod enc Tryz.prog w base sp held n 22 (([c0,c1,c2,c3,c4,c5,c6,c7,c8].drop 1).take (Tryz.prog.cellsOf 22))=some y1:=hf 1 _ rfl
 have f2:DataW.trod enc Tryz.prog w base sp held n 22 (([c0,c1,c2,c3,c4,c5,c6,c7,c8].drop 2).take (Tryz.prog.cellsOf 22))=some y2:=hf 2 _ rfl
 have f3:DataW.trod enc Tryz.prog w base sp held n 25 (([c0,c1,c2,c3,c4,c5,c6,c7,c8].drop 3).take (Tryz.prog.cellsOf 25))=some y3:=hf 3 _ rfl
 have f4:DataW.trod enc Tryz.prog w base sp held n 25 (([c0,c1,c2,c3,c4,c5,c6,c7,c8].drop 5).take (Tryz.prog.cellsOf 25))=some y4:=hf 4 _ rfl
 have f5:DataW.trod enc Tryz.prog w base sp held n 3 (([c0,c1,c2,c3,c4,c5,c6,c7,c8].drop 7).take (Tryz.prog.cellsOf 3))=some y5:=hf 5 _ rfl
 have f6:DataW.trod enc Tryz.prog w base sp held n 3 (([c0,c1,c2,c3,c4,c5,c6,c7,c8].drop 8).take (Tryz.prog.cellsOf 3))=some y6:=hf 6 _ rfl
 rw[cells3] at f0 f5 f6
 rw[cells22] at f1 f2
 rw[cells25] at f3 f4
 obtain⟨n0,e0,_,_⟩:=DataW.trod_int und3 f0
 obtain⟨xa,xl,xc,xv,e1,hr1,hw1⟩:=open_words f1
 obtain⟨ta,tl,tc,tv,e2,hr2,hw2⟩:=open_words f2
 obtain⟨ps,sa,sc,e3,hr3,hw3⟩:=open_prog f3
 obtain⟨pl,la,lc,e4,hr4,hw4⟩:=open_prog f4
 obtain⟨n5,e5,_,_⟩:=DataW.trod_int und3 f5
 obtain⟨n6,e6,_,_⟩:=DataW.trod_int und3 f6
 simp[progC] at e0 e1 e2 e3 e4 e5 e6
 obtain⟨e3a,e3b⟩:=e3
 obtain⟨e4a,e4b⟩:=e4
 subst e0 e1 e2 e3a e3b e4a e4b e5 e6
 have h1:=RowU.len hr1
 have h2:=RowU.len hr2
 subst h1 h2
 refine⟨⟨n0,xv,tv,ps,pl,n5,n6⟩,⟨xa,xc,ta,tc,sa,sc,la,lc⟩,rfl,fun hq=>?_⟩
 simp only[DataW.weights,und27,List.map_cons,List.map_nil,DataW.weightsEach,List.all_append,Bool.and_eq_true] at hq
 obtain⟨_,q1,q2,q3,q4,_⟩:=hq
 exact⟨hr1,hr2,hr3,hr4,hw1 q1,hw2 q2,hw3 q3,hw4 q4⟩
theorem grown_of_ext {W W':World}(e:Ext W.heap W'.heap)(h1:W'.os=W.os)(h2:W'.output=W.output):W.keptBut W' (fun _=>False)/\(∀a,a.block<W.heap.size->W'.frozen? a=W.frozen? a)/\∀b,b<W.heap.size->W'.heap[b]?=W.heap[b]?:=by
 have hb:∀b,b<W.heap.size->W'.heap[b]?=W.heap[b]?:=fun b hb=>e.2 b hb (by simp)
 refine⟨⟨h1,h2,fun i hi=>?_⟩,fun a ha=>?_,hb⟩
 ·rw[hb i hi]
  generalize W.heap[i]?=o
  split<;>simp_all
 ·unfold World.frozen?
  rw[hb a.block ha]
end Go.VC
namespace Go.Proofs.YthenlgnbegeliaaGreat
open Go Go.VC Go.ChangeShapes Go.WideShapes Go.ChangeAt Go.RowKit Go.WideElems
set_option linter.unusedVariables false
theorem ownK:ownKnob Tryz.prog.godebug=none:=by kernel_rfl
theorem laidK:laidOutB Tryz.prog=true:=by kernel_rfl
theorem stays_all {H:Type}{enc:TypeId × Value->H}{W W':World}{sp':Nat->Bool}:∀{ts:List TypeId} {vs:List Value} {ds:List (DataW H)} {ps:List MemPlace},(∀t∈ts,Tryz.prog.readableRec t=true/\t<Tryz.prog.types.size)->
  DataW.TrodAll enc Tryz.prog W 0 (fun _=>true) true ts vs ds ps->(∀p∈ps,W.sameAt W' p)->(∀p∈ps,sp' p.block=true)->DataW.TrodAll enc Tryz.prog W' 0 sp' true ts vs ds ps
 | [],vs,ds,ps,_,h,_,_=>by
  obtain⟨rfl,rfl,rfl⟩:=trodAll_nil h
  exact rfl
 | t ::ts,vs,ds,ps,ht,h,hs,hp=>by
  obtain⟨v,vs',d,ds',p,q,rfl,rfl,rfl,h0,h1⟩:=trodAll_cons h
  have r:=ht t (by simp)
  exact⟨p,q,Trod_stays laidK r.1 r.2 h0 (fun x hx=>hs x (by simp[hx])) (fun x hx=>hp x (by simp[hx])),stays_all (fun t ht'=>ht t (by simp[ht'])) h1 (fun x hx=>hs x (by simp[hx])) (fun x hx=>hp x (by simp[hx])),rfl⟩
set_option maxRecDepth 100000 in
theorem open_hdr {H:Type}{enc:TypeId × Value->H}{W:World}{b:Nat}{sp:Nat->Bool}{held:Bool}{base:Nat}{v:Value}{d:DataW H}{p:List MemPlace}(hok:∀t,t=27->Value.okWide Tryz.prog W .any base t v)(h:DataW.Trod enc Tryz.prog W b sp held 27 v d p) :
  ∃hd hp,v=.agg (hdrC hd hp).toArray/\((d.weights Tryz.prog 27).all (·<=reachBytes)=true->HRows W.heap hd hp):=by
 have hv0:=hok 27 rfl
 unfold Value.okWide at hv0
 rw[und27] at hv0
 obtain⟨cs,rfl,_,_⟩:=hv0
 obtain⟨fuel,hf⟩:=h
 have hcells:(Value.agg cs).cells.toList=cs.toList:=rfl
 rw[hcells] at hf
 obtain⟨hd,hp,hcs,hrows⟩:=open_header hf
 exact⟨hd,hp,by rw[<-hcs],hrows⟩
theorem post_old {H:Type}{enc:TypeId × Value->H}{P:Program}{f:Func}{s:ChangeSpec}{apart fresh handsOn again:Bool}{W W':World}{args:Array Value}{v:Value}{ds gs:List (DataW H)}{before pa pv:List MemPlace}
  (hW:DataW.Whole enc P f.params.toList s.vars apart W args.toList ds gs before)
  (hres:∀(b:Nat) (sp:Nat->Bool) (hd:Bool),DataW.TrodAll enc P W' b sp hd f.resultTypes.toList (v.resultList f.resultTypes.size) (s.fn H (ds++gs)).results [])
  (hargs:∀sp:Nat->Bool,(∀p∈before,sp p.block=true)->DataW.TrodAll enc P W' 0 sp true f.params.toList args.toList (s.fn H (ds++gs)).args pa)
  (hvars:∀sp:Nat->Bool,(∀p∈before,sp p.block=true)->DataW.TrodVars enc P W' sp s.vars (s.fn H (ds++gs)).vars pv)
  (hps:before=pa++pv) (hk:W.keptBut W' (·∈before)) (hfz:∀a:Addr,a.block<W.heap.size->W'.frozen? a=W.frozen? a)
  (hok:∀(j:Nat) (t:TypeId) (r:Value),f.resultTypes[j]?=some t->(v.resultList f.resultTypes.size)[j]?=some r->Value.okWide P W' .any 0 t r) :
  s.post enc P f apart fresh handsOn again W args v W':=by
 have hlt:=fun p (hp:p∈before)=>hW.lt p hp
 have hold:∀p∈before,(fun b=>decide (b<W.heap.size)) p.block=true:=fun p hp=>by simpa using hlt p hp
 refine⟨ds,gs,before,[],pa,pv,hW,hres _ _ _,hargs _ hold,hvars _ hold,World.keptBut_mono (fun p hp=>⟨hp,Or.inr (by rw[hps,List.mem_append] at hp;exact hp)⟩) hk,fun _=>?_⟩
 obtain⟨_,_,_,_,_,hz,hn⟩:=hW
 refine⟨hok,_,_,([]++pa)++pv,⟨[]++pa,pv,trodAll_append (hargs _ (fun _ _=>rfl)) (hres _ _ _),hvars _ (fun _ _=>rfl),rfl,fun b off hp=>?_,fun ha=>?_⟩,fun p hp _=>?_⟩
 ·have hp':MemPlace.cell b off∈before:=by rw[hps];simpa using hp
  rw[hfz _ (hlt _ hp')]
  exact hz b off hp'
 ·have:=hn ha
  rw[hps] at this
  simpa using this
 ·rw[hps]
  simpa using hp
theorem trodAll_len {H:Type}{enc:TypeId × Value->H}{W:World}{b:Nat}{sp:Nat->Bool}{held:Bool}:∀{ts:List TypeId} {vs:List Value} {ds:List (DataW H)} {ps:List MemPlace},DataW.TrodAll enc Tryz.prog W b sp held ts vs ds ps->ds.length=ts.length
 | [],vs,ds,ps,h=>by obtain⟨_,rfl,_⟩:=trodAll_nil h;rfl
 | t ::ts,vs,ds,ps,h=>by
  obtain⟨v,vs',d,ds',p,q,rfl,rfl,rfl,h0,h1⟩:=trodAll_cons h
  simp[trodAll_len h1]
set_option maxRecDepth 100000 in
theorem lift_gen {f:FuncId}{F:Func}{spec:ChangeSpec}{dom:List PathCond}{os:Os}(started:os.Started){H:Type}{enc:TypeId × Value->H}
  (hF:Tryz.checked.prog.funcs[f]?=some F) (hno:Tryz.checked.prog.inits.idxOf? f=none)
  (wit:∃(w:World) (tape:Tape) (i:Input),w.os=os/\(w.forCall tape i).Shaped Tryz.checked.prog/\i.vars=[]/\Input.okWide Tryz.checked.prog (w.forCall tape i) .any w.heap.size f i/\
   spec.pre6 enc Tryz.checked.prog F dom false (w.forCall tape i).memory i.args/\({}:Assume).holds Tryz.checked.prog (lone (Frame.enter Tryz.checked.prog f i.args .normal) [] (w.forCall tape i)))
  (hvars:spec.vars=[]) (hres:F.resultTypes=#[4]) (hp:∀t∈F.params.toList,Tryz.prog.readableRec t=true/\t<Tryz.prog.types.size)
  (hfn:∀ds:List (DataW H),ds.length=F.params.toList.length->spec.fn H ds={ results:=[.lit (.bool true)],args:=ds })
  (con:∀(W:World) (base:Nat) (args:Array Value) (ds:List (DataW H)) (before:List MemPlace),DataW.TrodAll enc Tryz.prog W 0 (fun _=>true) true F.params.toList args.toList ds before->
   (∀(j:Nat) t v,F.params[j]?=some t->args[j]?=some v->Value.okWide Tryz.prog W .any base t v)->(DataW.weightsEach Tryz.prog F.params.toList ds).all (·<=reachBytes)=true->
   Ru f args.toList W.heap fun r H'=>r=.bool true/\Ext W.heap H') :
  ReturnsInHanded {} Tryz.checked os f .any (spec.pre6 enc Tryz.prog F dom false) (spec.post enc Tryz.prog F false true false false):=by
 refine returnsInHanded_of_calls (C:=Tryz.checked) ownK started hno wit ?_
 intro w0 tape i _ _ _ hok hpre _
 obtain⟨_,_,_,fn',hfn',_,_,_,_,hval⟩:=hok
 have e:fn'=F:=Option.some.inj (hfn'.symm.trans hF)
 subst e
 obtain⟨⟨ds,gs,before,hw,_⟩,hz⟩:=hpre
 have hW:=DataW.Whole.of_heap (w':=w0.forCall tape i) (by rfl) hw
 have hwt:=hz.weights hw
 have hval':∀(j:Nat) t v,fn'.params[j]?=some t->i.args[j]?=some v->Value.okWide Tryz.prog (w0.forCall tape i) .any w0.heap.size t v:=hval
 clear hval
 generalize w0.forCall tape i=W at *
 generalize i.args=args at *
 have key:Calls Tryz.prog f args W fun e W'=>∃v,e=.returned v/\spec.post enc Tryz.prog fn' false true false false W args v W':=by
  have hW':=hW
  obtain⟨p,q,hA0,hV,hbe,hfz,hnd⟩:=hW
  have hA:DataW.TrodAll enc Tryz.prog W 0 (fun _=>true) true fn'.params.toList args.toList ds p:=hA0
  rw[hvars] at hV
  obtain⟨rfl,rfl⟩:=trodVars_none hV
  rw[List.append_nil] at hbe
  subst hbe
  have hlen:=trodAll_len hA
  have hwt':(DataW.weightsEach Tryz.prog fn'.params.toList ds).all (·<=reachBytes)=true:=by
   have hq:=hwt
   have e:DataSpec.varTypes Tryz.prog (OpenSpec.ofChange spec).bare.plain=[]:=by
    have:(OpenSpec.ofChange spec).bare.plain.vars=[]:=hvars
    unfold DataSpec.varTypes
    rw[this];rfl
   rw[e,List.append_nil,List.append_nil] at hq
   exact hq
  have run:=con W w0.heap.size args ds before hA hval' hwt' W rfl
  refine run.mono fun e W' ⟨v,he,⟨hr,hext⟩,ht,ho,hout⟩=>?_
  subst he
  subst hr
  obtain⟨g1,g2,g3⟩:=grown_of_ext hext ho hout
  have hlt:=fun p hp=>hW'.lt p hp
  have same:∀x∈before,W.sameAt W' x:=by
   intro x hx
   have hb:=hlt x hx
   cases x with
   | cell b off=>
    show W'.cell? ⟨b,off,none⟩=W.cell? ⟨b,off,none⟩
    unfold World.cell?
    rw[g3 b hb]
   | map b=>exact g3 b hb
  have hf:=hfn (ds++[]) (by rw[List.append_nil];exact hlen)
  refine⟨_,rfl,post_old (pa:=before) (pv:=[]) hW' (fun _ _ _=>?_) (fun sp hsp=>?_) (fun _ _=>?_) (by simp) (World.keptBut_mono (fun _ h=>h.elim) g1) g2 (ok_one hres rfl (okWide_bool_mk Tryz.underlying4 _))⟩
  ·rw[hf,hres]
   exact trodAll_cons_mk (shut_bool Tryz.underlying4 _) trodAll_mk0
  ·rw[hf,List.append_nil]
   exact stays_all hp hA same hsp
  ·rw[hf,hvars];rfl
 exact key.mono fun e W' ⟨v,he,hp⟩=>by
  subst he
  exact ChangeSpec.post_blind hp
end Go.Proofs.YthenlgnbegeliaaGreat
namespace Go.VC
variable {P:Program}{F:Fence}{m:Nat}
def flatC:Code->List Code
 | .seq a b=>flatC a++flatC b
 | c=>[c]
def chain (F:Fence)(m:Nat)(P:Program):List Code->(Exit->Act->World->Prop)->Act->World->Prop
 | [],Q=>Q .normal
 | c ::r,Q=>c.wpIn F m P (Exit.then (chain F m P r Q) Q)
theorem chain_flat:∀(c:Code) (r:List Code) (Q:Exit->Act->World->Prop) (a:Act) (w:World),chain F m P (flatC c++r) Q a w->c.wpIn F m P (Exit.then (chain F m P r Q) Q) a w:=by
 intro c
 induction c with
 | seq x y ihx ihy=>
  intro r Q a w h
  simp only[flatC,List.append_assoc] at h
  refine wpIn_seq (wpIn_mono (ihx _ Q a w h) ?_)
  intro e a w q
  cases e with
  | normal=>exact ihy r Q a w q
  | _=>exact q
 | _=>intro r Q a w h;exact h
theorem wpIn_flat {c:Code}{Q:Exit->Act->World->Prop}{a:Act}{w:World}(h:chain F m P (flatC c) Q a w):c.wpIn F m P Q a w:=by
 refine wpIn_mono (chain_flat c [] Q a w (by simpa using h)) ?_
 intro e a w q
 cases e<;>exact q
def execL (P:Program)(ann:Ann):List Code->Fr->Heap->Cont->Prop
 | [],fr,H,K=>K .normal fr H
 | c ::r,fr,H,K=>exec P ann .whole c fr H (K.on fun fr H=>execL P ann r fr H K)
theorem execL_sound {n rm:Nat}{ro:Option Nat}{ann:Ann}{w0:World}{Z:Act->Prop}:∀(cs rest:List Code) (fr:Fr) (K:Cont) (a:Act) (w:World) (Q:Exit->Act->World->Prop),
  (∀c∈cs,Good P ro rm n ann w0 c)->(∀c∈cs,ZC Z c)->execL P ann cs fr w.heap K->Agree n fr a->Same w0 w->Z a->Rel n w0 Z K (Exit.then (chain (wideR ro) rm P rest Q) Q)->chain (wideR ro) rm P (cs++rest) Q a w
 | [],rest,fr,K,a,w,Q,_,_,h,hA,hS,hz,hR=>hR .normal fr a w h hA hS hz
 | c ::r,rest,fr,K,a,w,Q,hg,hZ,h,hA,hS,hz,hR=>by
  refine (hg c (by simp)).whole Z fr _ a w _ (hZ c (by simp)) h hA hS hz ?_
  intro e fr a w hk hA hS hz
  cases e with
  | normal=>exact execL_sound r rest fr K a w Q (fun c hc=>hg c (by simp[hc])) (fun c hc=>hZ c (by simp[hc])) hk hA hS hz hR
  | exit id=>exact hR (.exit id) fr a w hk hA hS hz
  | goto l=>exact hR (.goto l) fr a w hk hA hS hz
  | ret=>exact hR .ret fr a w hk hA hS hz
end Go.VC
namespace Go.VC
def inBlockC:Code->Code
 | .block _ c=>c
 | c=>c
def roundOfC:Code->Code
 | .rangeFunc _ _ _ b=>b
 | c=>c
def assignOfC:Code->Code
 | .rangeFunc _ _ x _=>x
 | c=>c
def nthC (l:List Code)(i:Nat):Code:=(l[i]?).getD .skip
end Go.VC
namespace Go.VC
variable {P:Program}
theorem opsE_part {ro:Option Nat}{m:Nat}{ops:Array Oper}{n:Nat}{Q:Exit->Act->World->Prop}{w0:World}{K:Fr->Heap->Prop}{Z:Act->Prop}{r:List Oper}
  (hK:∀fr a w,K fr w.heap->Agree n fr a->Same w0 w->Z a->wpListIn (wideR ro) m P ops Q r a w):∀(l:List Oper) (fr:Fr) (a:Act) (w:World),
  (∀o∈l,∀d,o.dst=some d->d<n)->(∀o∈l,∀a v,Z a->Z (a.put o.dst v))->opsE P ops.toList l fr w.heap K->Agree n fr a->Same w0 w->Z a->wpListIn (wideR ro) m P ops Q (l++r) a w
 | [],fr,a,w,_,_,h,hA,hS,hz=>hK fr a w h hA hS hz
 | o ::rest,fr,a,w,hd,hZ,h,hA,hS,hz=>by
  simp only[opsE] at h
  obtain⟨fr',hdl,b,h1,h2,h3⟩:=guardE_spec h
  have hA':=hA.same hdl
  have hw:=h3 a.tmps (fun t v _ hv=>hA.at_ t v hv)
  rw[List.cons_append]
  unfold wpListIn
  rw[hw]
  have hdo:∀t,o.dst=some t->t<n:=fun t ht=>hd o (by simp) t ht
  cases b with
  | true=>
   rw[if_pos rfl]
   refine wpIn_of_wp (opE_plain (h1 rfl)) (opE_sound (hA'.ag o) ?_ (h1 rfl))
   intro v H' w' hk hw' hs
   subst hw'
   exact opsE_part hK rest _ _ w' (fun o ho=>hd o (by simp[ho])) (fun o ho=>hZ o (by simp[ho])) hk (hA'.put hdo v) (hS.trans hs) (hZ o (by simp) _ _ hz)
  | false=>
   rw[if_neg (by simp)]
   refine⟨fun _ _=>trivial,?_⟩
   exact opsE_part hK rest _ _ w (fun o ho=>hd o (by simp[ho])) (fun o ho=>hZ o (by simp[ho])) (h2 rfl) (hA'.put hdo .undef) hS (hZ o (by simp) _ _ hz)
theorem yield_op {ro:Option Nat}{m l:Nat}{o:Oper}{args:Array Value}{a:Act}{w:World}{next:Act->World->Prop}{Q:Exit->Act->World->Prop}{R:Ending->World->Prop}
  (hd:∀c,o.op≠.defer c) (hop:(execOp a.eval o).run P w=(Instr.yield l args).run P w) (h:YieldAt (wideR ro) (m-1) P l args w R)
  (hR:∀e w',R e w'->∃v,e=.returned v/\next (a.put o.dst v) w'):o.wpIn (wideR ro) m P a w next Q:=by
 obtain⟨fn,tmps,asg,body,hy,hr⟩:=h
 refine⟨fun _ _=>trivial,?_⟩
 rw[Oper.semAt_plain _ _ _ hd,hop,hy,Oper.uponIn_round]
 refine⟨fun h=>(by cases h),hr.mono ?_⟩
 intro e w' h'
 obtain⟨v,rfl,hn⟩:=hR e w' h'
 exact hn
end Go.VC
namespace Go.VC
variable {P:Program}
def cutK (l:List (Nat × Sl))(J:Ty (Heap->Prop) l):Cont
 | .normal,fr,H=>appTy fr (fun _=>False) l J H
 | _,_,_=>False
def orExit (id:Nat)(f:Fr->Heap->Prop):Cont
 | .normal,fr,H=>f fr H
 | .exit i,fr,H=>cond (Nat.beq i id) (f fr H) False
 | _,_,_=>False
def onOrOut (id:Nat)(X:Heap->Prop)(f:Fr->Heap->Prop):Cont
 | .normal,fr,H=>f fr H
 | .exit i,_,H=>cond (Nat.beq i id) (X H) False
 | _,_,_=>False
def onOnly (f:Fr->Heap->Prop):Cont
 | .normal,fr,H=>f fr H
 | _,_,_=>False
def onOrRet (P:Program)(fn:Func)(R:Value->Heap->Prop)(f:Fr->Heap->Prop):Cont
 | .normal,fr,H=>f fr H
 | .ret,fr,H=>resultsE P fn.results.toList [] fr H fun vs=>R (oneOrTuple vs) H
 | _,_,_=>False
def opsOfC:Code->List Oper
 | .region _ ops _=>ops.toList
 | _=>[]
def loopOfC:Code->Code
 | .loop c=>c
 | c=>c
def bodyC (f:Func):Code:=match f.body with|some c=>c|none=>.skip
theorem start_agree {n:Nat}{args:List SV}(hle:args.length<=n):Agree n (entry 0 args) { tmps:=(denL args).toArray++Array.replicate (n-(denL args).toArray.size) undef,defers:=[] }:=by
 refine⟨by simp[denL_length];omega,fun t u hu=>?_⟩
 obtain⟨_,h2⟩:=entry_dl args 0 t u hu
 rw[Nat.sub_zero] at h2
 have hlt:=(List.getElem?_eq_some_iff.1 h2).1
 rw[Array.getElem?_append_left (by simpa using hlt)]
 simpa using h2
def wbC (n:Nat)(c:Code):Bool:=(writes c []).all fun d=>Nat.blt d n
theorem wbC_wb {n:Nat}{c:Code}(h:wbC n c=true):WB n c:=fun d hd=>by
 have:=List.all_eq_true.1 h d hd
 rwa [Nat.blt_eq] at this
def keepsC (ts:List Nat)(c:Code):Bool:=ts.all fun t=>!(VC.mem t (writes c []))
theorem eval_tmp {a:Act}{t:Nat}{v:Value}(h:a.tmps[t]?=some v):a.eval (.tmp t)=v:=by
 show a.tmps.getD t undef=v
 rw[Array.getD_eq_getD_getElem?,h];rfl
theorem app_int {fr:Fr}{t:Nat}{k:IntKind}{r:List (Nat × Sl)}{I:Int->Ty (Heap->Prop) r}{H:Heap}(h:appTy fr (fun _=>False) ((t,.int k) ::r) I H):∃n,dl fr t=some (.int k n)/\appTy fr (fun _=>False) r (I n) H:=by
 unfold dl
 simp only[appTy] at h
 cases hl:look fr t with
 | none=>simp[hl] at h
 | some v=>
  cases v<;>simp only[hl] at h<;>try exact h.elim
  rename_i k' n
  cases hk:kindEq k k' with
  | false=>rw[hk] at h;exact h.elim
  | true=>rw[hk] at h;have:=kindEq_eq hk;subst this;exact⟨n,rfl,h⟩
theorem app_slc {fr:Fr}{t:Nat}{r:List (Nat × Sl)}{I:Option Addr->Nat->Nat->Ty (Heap->Prop) r}{H:Heap}(h:appTy fr (fun _=>False) ((t,.slc) ::r) I H):∃a l c,dl fr t=some (.slice a l c)/\appTy fr (fun _=>False) r (I a l c) H:=by
 unfold dl
 simp only[appTy] at h
 cases hl:look fr t with
 | none=>simp[hl] at h
 | some v=>cases v<;>simp only[hl] at h<;>first|exact h.elim|exact⟨_,_,_,rfl,h⟩
theorem app_ptr {fr:Fr}{t:Nat}{r:List (Nat × Sl)}{I:Nat->Nat->Ty (Heap->Prop) r}{H:Heap}(h:appTy fr (fun _=>False) ((t,.ptr) ::r) I H):∃b o,dl fr t=some (.pointer (some ⟨b,o,none⟩))/\appTy fr (fun _=>False) r (I b o) H:=by
 unfold dl
 simp only[appTy] at h
 cases hl:look fr t with
 | none=>simp[hl] at h
 | some v=>cases v<;>simp only[hl] at h<;>first|exact h.elim|exact⟨_,_,rfl,h⟩
theorem app_agg {fr:Fr}{t:Nat}{r:List (Nat × Sl)}{I:List Value->Ty (Heap->Prop) r}{H:Heap}(h:appTy fr (fun _=>False) ((t,.agg) ::r) I H):∃cs:List Value,dl fr t=some (.agg cs.toArray)/\appTy fr (fun _=>False) r (I cs) H:=by
 unfold dl
 simp only[appTy] at h
 cases hl:look fr t with
 | none=>simp[hl] at h
 | some v=>cases v<;>simp only[hl] at h<;>first|exact h.elim|exact⟨_,rfl,h⟩
theorem app_val {fr:Fr}{t:Nat}{r:List (Nat × Sl)}{I:Value->Ty (Heap->Prop) r}{H:Heap}(h:appTy fr (fun _=>False) ((t,.val) ::r) I H):∃v,dl fr t=some v/\appTy fr (fun _=>False) r (I v) H:=by
 unfold dl
 simp only[appTy] at h
 cases hl:look fr t with
 | none=>simp[hl] at h
 | some v=>cases v<;>simp only[hl] at h<;>first|exact h.elim|exact⟨_,rfl,h⟩
theorem agree_cons {n t:Nat}{v:SV}{fr:Fr}{a:Act}(h:Agree n fr a)(e:a.tmps[t]?=some v.den):Agree n ((t,v) ::fr) a:=by
 refine⟨h.size,fun s u hu=>?_⟩
 rw[dl_set] at hu
 by_cases hs:s=t
 ·subst hs;rw[if_pos rfl] at hu;rw[e];exact hu
 ·rw[if_neg hs] at hu;exact h.at_ s u hu
theorem agree_nil {n:Nat}{a:Act}(h:a.tmps.size=n):Agree n [] a:=⟨h,fun t u hu=>by simp[dl,look] at hu⟩
def Zk (ds:List Deferred)(fr0:Fr)(a:Act):Prop:=a.defers=ds/\∀t u,dl fr0 t=some u->a.tmps[t]?=some u
theorem dl_mem {fr:Fr}{t:Nat}{u:Value}(h:dl fr t=some u):t∈fr.map Prod.fst:=by
 induction fr with
 | nil=>simp[dl,look] at h
 | cons x r ih=>
  obtain⟨s,v⟩:=x
  rw[dl_set] at h
  by_cases e:t=s
  ·simp[e]
  ·rw[if_neg e] at h;simp[ih h]
theorem zk_put {ds:List Deferred}{fr0:Fr}{a:Act}{d:Nat}{v:Value}(h:Zk ds fr0 a)(hd:d∉fr0.map Prod.fst):Zk ds fr0 (a.put (some d) v):=by
 refine⟨h.1,fun t u hu=>?_⟩
 have:d≠t:=fun e=>hd (by subst e;exact dl_mem hu)
 simp only[Act.put]
 rw[Array.getElem?_setIfInBounds_ne this]
 exact h.2 t u hu
theorem zk_zc {ds:List Deferred}{fr0:Fr}{c:Code}(h:keepsC (fr0.map Prod.fst) c=true):ZC (Zk ds fr0) c:=by
 intro d hd a v hz
 refine zk_put hz fun hm=>?_
 have:=List.all_eq_true.1 h d hm
 rw[Bool.not_eq_true',(mem_spec _).2 hd] at this
 cases this
def dstOk (n:Nat)(ts:List Nat)(l:List Oper):Bool:=l.all fun o=>match o.dst with|some d=>Nat.blt d n && !(VC.mem d ts)|none=>true
theorem dstOk_lt {n:Nat}{ts:List Nat}{l:List Oper}(h:dstOk n ts l=true):∀o∈l,∀d,o.dst=some d->d<n:=by
 intro o ho d hd
 have:=List.all_eq_true.1 h o ho
 rw[hd] at this
 simp only[Bool.and_eq_true,Nat.blt_eq] at this
 exact this.1
theorem dstOk_zk {n:Nat}{ds:List Deferred}{fr0:Fr}{l:List Oper}(h:dstOk n (fr0.map Prod.fst) l=true):∀o∈l,∀a v,Zk ds fr0 a->Zk ds fr0 (a.put o.dst v):=by
 intro o ho a v hz
 cases hd:o.dst with
 | none=>exact hz
 | some d=>
  have:=List.all_eq_true.1 h o ho
  rw[hd] at this
  simp only[Bool.and_eq_true] at this
  refine zk_put hz fun hm=>?_
  have h2:=this.2
  rw[Bool.not_eq_true',(mem_spec _).2 hm] at h2
  cases h2
theorem zk_agree {n:Nat}{ds:List Deferred}{fr0:Fr}{a:Act}(h:Zk ds fr0 a)(hs:a.tmps.size=n):Agree n fr0 a:=⟨hs,h.2⟩
theorem run_yield_op {o:Oper}{x:Nat}{xs:Array Operand}{ts:Array TypeId}{a:Act}{w:World}{l:Nat}(hc:o.op=.call { callee:=.value (.tmp x),args:=xs,argTypes:=ts })(hv:a.eval (.tmp x)=.func (.yield l) #[] #[]) :
  (execOp a.eval o).run P w=(Instr.yield l (xs.map a.eval)).run P w:=by
 simp only[execOp,hc,resolve,Sem.run_bind]
 rw[hv]
 simp[Deferred.ofValue,invoke,Result.andThen_ok]
theorem goods {n rm:Nat}{ro:Option Nat}{ann:Ann}{w0:World}(hm:P.follows .mixedOrders=true){cs:List Code}(h:cs.all (wbC n)=true):∀c∈cs,Good P ro rm n ann w0 c:=
 fun c hc=>good_all hm w0 c (wbC_wb (List.all_eq_true.1 h c hc))
theorem zks {ds:List Deferred}{fr0:Fr}{cs:List Code}(h:cs.all (keepsC (fr0.map Prod.fst))=true):∀c∈cs,ZC (Zk ds fr0) c:=fun c hc=>zk_zc (List.all_eq_true.1 h c hc)
end Go.VC
namespace Go.VC
open Go.Proofs
def endD (P:Program)(fn:Func)(D:Heap->Prop)(Q:Heap->Heap->Prop)(R:Value->Heap->Prop):Cont
 | .normal,fr,H | .ret,fr,H=>D H/\∀H',Q H H'->resultsE P fn.results.toList [] fr H' fun vs=>R (oneOrTuple vs) H'
 | _,_,_=>False
noncomputable def L276:Code:=loopOfC (inBlockC (nthC (flatC (bodyC Tryz.f276)) 2))
noncomputable def K276:Code:=inBlockC (nthC (flatC L276) 2)
noncomputable def A276 (P:Program)(fr:Fr)(H:Heap)(X:Heap->Prop)(J:Value->List Value->Nat->Nat->Heap->Prop):Prop:=
 execL P nn [nthC (flatC L276) 0,nthC (flatC L276) 1] fr H (onOrOut 0 X fun fr H=>execL P nn [nthC (flatC K276) 0] fr H (onOnly fun fr H=>
  opsE P (opsOfC (nthC (flatC K276) 1)) ((opsOfC (nthC (flatC K276) 1)).take 3) fr H fun fr H=>appTy fr (fun _=>False) [(17,.val),(19,.agg),(5,.ptr)] (fun v cs p o=>J v cs p o) H))
noncomputable def B276 (P:Program)(fr:Fr)(H:Heap)(J:Option Addr->Nat->Nat->Int->Heap->Prop):Prop:=
 opsE P (opsOfC (nthC (flatC K276) 1)) ((opsOfC (nthC (flatC K276) 1)).drop 4) fr H fun fr H=>
  execL P nn [nthC (flatC K276) 2,nthC (flatC K276) 3,nthC (flatC K276) 4] fr H (orExit 1 fun fr H=>execL P nn [nthC (flatC L276) 3] fr H (cutK [(3,.slc),(4,.int .i64)] J))
noncomputable def S276 (P:Program)(fr:Fr)(H:Heap)(J:Option Addr->Nat->Nat->Int->Heap->Prop):Prop:=
 execL P nn [nthC (flatC (bodyC Tryz.f276)) 0,nthC (flatC (bodyC Tryz.f276)) 1] fr H (cutK [(3,.slc),(4,.int .i64)] J)
noncomputable def L328:Code:=loopOfC (inBlockC (nthC (flatC (bodyC Tryz.f328)) 1))
noncomputable def K328:Code:=inBlockC (nthC (flatC L328) 2)
noncomputable def S328 (P:Program)(fr:Fr)(H:Heap)(J:Int->Heap->Prop):Prop:=
 execL P nn [nthC (flatC (bodyC Tryz.f328)) 0] fr H (cutK [(3,.int .i64)] J)
noncomputable def A328 (P:Program)(fr:Fr)(H:Heap)(X:Heap->Prop)(J:Value->Int->Int->Heap->Prop):Prop:=
 execL P nn [nthC (flatC L328) 0,nthC (flatC L328) 1] fr H (onOrOut 0 X fun fr H=>
  opsE P (opsOfC (nthC (flatC K328) 0)) ((opsOfC (nthC (flatC K328) 0)).take 6) fr H fun fr H=>appTy fr (fun _=>False) [(11,.val),(12,.int .i64),(16,.int .i64)] (fun v x y=>J v x y) H)
noncomputable def B328 (P:Program)(fr:Fr)(H:Heap)(J:Int->Heap->Prop):Prop:=
 opsE P (opsOfC (nthC (flatC K328) 0)) ((opsOfC (nthC (flatC K328) 0)).drop 7) fr H fun fr H=>
  execL P nn [nthC (flatC K328) 1] fr H (onOnly fun fr H=>execL P nn [nthC (flatC L328) 3] fr H (cutK [(3,.int .i64)] J))
noncomputable def F156 (i:Nat):Code:=nthC (flatC (bodyC Tryz.f156)) i
noncomputable def RF156:Code:=inBlockC (F156 6)
noncomputable def P156 (P:Program)(fr:Fr)(H:Heap)(R:Value->Heap->Prop)(J:Nat->Nat->Value->Heap->Prop):Prop:=
 execL P nn [F156 0,F156 1,F156 2,F156 3,F156 4,F156 5] fr H (onOrRet P Tryz.f156 R fun fr H=>appTy fr (fun _=>False) [(6,.ptr),(17,.val)] J H)
noncomputable def R156 (P:Program)(fr:Fr)(H:Heap)(Q0:Heap->Prop)(Q:Heap->Heap->Prop)(J:Heap->Heap->Prop):Prop:=
 exec P nn .whole (assignOfC RF156) fr H (onOnly fun fr H1=>Q0 H1/\∀H2,Q H1 H2->exec P nn .whole (roundOfC RF156) fr H2 (onOnly fun _ H3=>J H2 H3))
noncomputable def S156 (P:Program)(fr:Fr)(H:Heap)(D:Heap->Prop)(Q:Heap->Heap->Prop)(R:Value->Heap->Prop):Prop:=
 execL P nn [F156 7,F156 8] fr H (endD P Tryz.f156 D Q R)
noncomputable def F200 (i:Nat):Code:=nthC (flatC (match nthC (flatC (bodyC Tryz.f200)) 1 with | .scope c=>c|c=>c)) i
noncomputable def RF200:Code:=inBlockC (F200 11)
noncomputable def P200 (P:Program)(fr:Fr)(H:Heap)(R:Value->Heap->Prop)(J:Nat->Nat->Nat->Nat->Nat->Nat->Nat->Nat->Nat->Nat->Value->Heap->Prop):Prop:=
 execL P nn [nthC (flatC (bodyC Tryz.f200)) 0] fr H (onOnly fun fr H=>execL P nn [F200 0,F200 1,F200 2,F200 3,F200 4,F200 5,F200 6,F200 7,F200 8,F200 9,F200 10] fr H (onOrRet P Tryz.f200 R fun fr H=>
  appTy fr (fun _=>False) [(2,.ptr),(4,.ptr),(8,.ptr),(9,.ptr),(10,.ptr),(44,.val)] J H))
noncomputable def R200 (P:Program)(fr:Fr)(H:Heap)(Q0:Heap->Prop)(Q:Heap->Heap->Prop)(J:Heap->Heap->Prop):Prop:=
 exec P nn .whole (assignOfC RF200) fr H (onOnly fun fr H1=>Q0 H1/\∀H2,Q H1 H2->exec P nn .whole (roundOfC RF200) fr H2 (onOnly fun _ H3=>J H2 H3))
def ann200:Ann:=⟨fun|19=>some [(76,.int .i64)]|_=>none,fun _=>none⟩
noncomputable def S200 (P:Program)(fr:Fr)(H:Heap)(D:Heap->Prop)(Q:Heap->Heap->Prop)(R:Value->Heap->Prop):Prop:=
 execL P ann200 [F200 12,F200 13,F200 14,F200 15] fr H (endD P Tryz.f200 D Q R)
end Go.VC
set_option linter.unusedVariables false
set_option maxRecDepth 100000
namespace Go.VC
open Go Go.Proofs
theorem of_eq {A F:Prop}(he:A=F)(h:F):A:=he ▸ h
theorem s276 (B:Nat)(y:Value)(H:Heap)(J:Option Addr->Nat->Nat->Int->Heap->Prop)(h :
 J none 0 0 (0:Int) H) :
 S276 Tryz.prog (entry 0 [.op y,.ptr B 0]) H J:=of_eq (by kernel_rfl) h
theorem a276 (a:Option Addr)(l c:Nat)(i:Int)(B:Nat)(y:Value)(H:Heap)(X:Heap->Prop)(J:Value->List Value->Nat->Nat->Heap->Prop)(h :
 ∃a l c,rd H B 0=some (.slice a l c)/\(i<(↑l:Int)->∃a l c,rd H B 0=some (.slice a l c)/\∃b o,At a b o/\((0:Int)<=i/\i<(↑l:Int))/\∃(cs:List Value),List.length cs=6/\RdL H b (o+Int.toNat i
 * 6) cs/\∀H' p,New H [.int .i64 0,.int .i64 0,.int .i64 0,.int .i64 0,.int .u64 0,.int .i64 0] 362 H' p->List.length cs=6/\(∀(v:Value),v∈cs->One v)/\WOk H' p 0 6/\∀H'_1,H'_1=wrL H' p 0 cs->∃
 (cs:List Value),List.length cs=5/\RdL H'_1 p 0 cs/\J y cs p 0 H'_1)/\(¬i<(↑l:Int)->X H)) :
 A276 Tryz.prog [(3,.slc a l c),(4,.int .i64 i),(1,.ptr B 0),(0,.op y)] H X J:=of_eq (by kernel_rfl) h
theorem b276 (a:Option Addr)(l c:Nat)(i:Int)(p B:Nat)(y:Value)(H:Heap)(J:Option Addr->Nat->Nat->Int->Heap->Prop)(h :
 ∃n,rd H p 0=some (.int .i64 n)/\(n=(7:Int)->∃x,rd H p 4=some (.int .u64 (↑(UInt64.toNat x):Int))/\∀H' q,New H [.int .u64 (↑(UInt64.toNat x):Int)] 51 H' q->∃new,List.length new=1/\SlL H' (some
 ⟨q,0,none⟩) new/\App 1 8 51 [.int .u64 0] H' a l c 1 new fun a' l' c' H'=>I64 (i+(1:Int))/\J a' l' c' (i+(1:Int)) H')/\(¬n=(7:Int)->(n=(0:Int)->I64 ((↑l:Int)-(1:Int))/\∃b o,At a b o/\((0
 : Int)<=(↑l:Int)-(1:Int)/\(↑l:Int)-(1:Int)<(↑l:Int))/\∃x,rd H b (o+Int.toNat ((↑l:Int)-(1:Int)))=some (.int .u64 (↑(UInt64.toNat x):Int))/\∃b o,At a b o/\((0:Int)<=(↑l:Int)-(1 :
 Int)/\(↑l:Int)-(1:Int)<(↑l:Int))/\WOk H b (o+Int.toNat ((↑l:Int)-(1:Int))) 1/\∀H',H'=wr H b (o+Int.toNat ((↑l:Int)-(1:Int))) (.int .u64 (↑(UInt64.toNat (x-UInt64.ofNat (nat_lit 1))) :
 Int))->∃b o,At a b o/\((0:Int)<=(↑l:Int)-(1:Int)/\(↑l:Int)-(1:Int)<(↑l:Int))/\∃x,rd H' b (o+Int.toNat ((↑l:Int)-(1:Int)))=some (.int .u64 (↑(UInt64.toNat x):Int))/\(UInt64.ofNat
 (nat_lit 0)<x->∃n,rd H' p 5=some (.int .i64 n)/\I64 (n-(1:Int))/\I64 (n-(1:Int)+(1:Int))/\J a l c (n-(1:Int)+(1:Int)) H')/\(¬UInt64.ofNat (nat_lit 0)<x->((0:Int)<=(↑l:Int)-(1 :
 Int)/\(↑l:Int)-(1:Int)<=(↑c:Int))/\I64 (i+(1:Int))/\J a (Int.toNat ((↑l:Int)-(1:Int))) c (i+(1:Int)) H'))/\(¬n=(0:Int)->I64 (i+(1:Int))/\J a l c (i+(1:Int)) H))) :
 B276 Tryz.prog [(20,.tt),(5,.ptr p 0),(3,.slc a l c),(4,.int .i64 i),(1,.ptr B 0),(0,.op y)] H J:=of_eq (by kernel_rfl) h
theorem s328 (B:Nat)(y:Value)(H:Heap)(J:Int->Heap->Prop)(h :
 ∃a l c,rd H B 0=some (.slice a l c)/\I64 ((↑l:Int)-(1:Int))/\J ((↑l:Int)-(1:Int)) H) :
 S328 Tryz.prog (entry 0 [.op y,.ptr B 0]) H J:=of_eq (by kernel_rfl) h
theorem a328 (i:Int)(B:Nat)(y:Value)(H:Heap)(X:Heap->Prop)(J:Value->Int->Int->Heap->Prop)(h :
 ((0:Int)<=i->∃a l c,rd H B 0=some (.slice a l c)/\∃b o,At a b o/\((0:Int)<=i/\i<(↑l:Int))/\∃n,rd H b (o+Int.toNat i)=some (.int .i64 n)/\J y i n H)/\(¬(0:Int)<=i->X H)) :
 A328 Tryz.prog [(3,.int .i64 i),(1,.ptr B 0),(0,.op y)] H X J:=of_eq (by kernel_rfl) h
theorem b328 (i:Int)(B:Nat)(y:Value)(H:Heap)(J:Int->Heap->Prop)(h :
 I64 (i-(1:Int))/\J (i-(1:Int)) H) :
 B328 Tryz.prog [(17,.tt),(3,.int .i64 i),(1,.ptr B 0),(0,.op y)] H J:=of_eq (by kernel_rfl) h
theorem p156 (x0:List Value)(H:Heap)(R:Value->Heap->Prop)(J:Nat->Nat->Value->Heap->Prop)(h :
 ∀H' p,New H x0 25 H' p->∃(cs:List Value),List.length cs=2/\RdL H' p 0 cs/\Ru 216 [.agg (List.toArray cs)] H' fun r H'=>∃a l c n,r=.tuple #[.slice a l c,.int .i64 n]/\(¬n=(0:Int)->R (.tuple #[.slice
 none 0 0,.int .i64 n]) H')/\(¬¬n=(0:Int)->∀H'_1 p,New H' [.slice none 0 0] 23 H'_1 p->Ru 217 [.slice a l c] H'_1 fun r H'=>J p 0 r H')) :
 P156 Tryz.prog (entry 0 [.agg x0]) H R J:=of_eq (by kernel_rfl) h
theorem r156 (cs:List Value)(B:Nat)(H:Heap)(Q0:Heap->Prop)(Q:Heap->Heap->Prop)(J:Heap->Heap->Prop)(h :
 ∀H' p,New H [.int .i64 0,.int .i64 0,.int .i64 0,.int .i64 0,.int .u64 0] 74 H' p->List.length cs=5/\(∀(v:Value),v∈cs->One v)/\WOk H' p 0 5/\∀H'_1,H'_1=wrL H' p 0 cs->Q0 H'_1/\∀H2,Q H'_1 H2->
 ∃n,rd H2 p 0=some (.int .i64 n)/\(¬n=(7:Int)->∃n,rd H2 p 0=some (.int .i64 n)/\(¬n=(0:Int)->∃a l c,rd H2 B 0=some (.slice a l c)/\∃(cs:List Value),List.length cs=5/\RdL H2 p 0 cs/\
 List.length cs=5/\∀H' q,New H2 (cs++[]) 74 H' q->∃new,List.length new=5/\SlL H' (some ⟨q,0,none⟩) new/\App 5 40 74 [.int .i64 0,.int .i64 0,.int .i64 0,.int .i64 0,.int .u64 0] H' a l c 1 new fun a' l'
 c' H'=>WOk H' B 0 1/\∀H'_2,H'_2=wr H' B 0 (.slice a' l' c')->J H2 H'_2)/\(¬¬n=(0:Int)->J H2 H2))/\(¬¬n=(7:Int)->J H2 H2)) :
 R156 Tryz.prog [(18,.agg cs),(6,.ptr B 0)] H Q0 Q J:=of_eq (by kernel_rfl) h
theorem s156 (B:Nat)(H:Heap)(D:Heap->Prop)(Q:Heap->Heap->Prop)(R:Value->Heap->Prop)(h :
 ∃a l c,rd H B 0=some (.slice a l c)/\D H/\∀H',Q H H'->R (.tuple #[.slice a l c,.int .i64 0]) H') :
 S156 Tryz.prog [(6,.ptr B 0)] H D Q R:=of_eq (by kernel_rfl) h
theorem p200 (x0:List Value)(x1:Option Addr)(l1 c1:Nat)(H:Heap)(R:Value->Heap->Prop)(J:Nat->Nat->Nat->Nat->Nat->Nat->Nat->Nat->Nat->Nat->Value->Heap->Prop)(h :
 ∀H' p,New H x0 25 H' p->∀H'_1 p_1,New H' [.slice none 0 0,.slice none 0 0,.int .i64 0] 267 H'_1 p_1->∃(cs:List Value),List.length cs=2/\RdL H'_1 p 0 cs/\Ru 156 [.agg (List.toArray cs)] H'_1 fun r H'=>∃a
 l c n,r=.tuple #[.slice a l c,.int .i64 n]/\(¬n=(0:Int)->3=3/\(∀(v:Value),v∈[.slice none 0 0,.slice none 0 0,.int .i64 0]->One v)/\WOk H' p_1 0 3/\∀H'_2,H'_2=wrL H' p_1 0 [.slice none 0 0,
 .slice none 0 0,.int .i64 0]->∃(cs:List Value),List.length cs=3/\RdL H'_2 p_1 0 cs/\R (.tuple #[.agg (List.toArray cs),.int .i64 n]) H'_2)/\(¬¬n=(0:Int)->∃n,rd H' p 0=some (.int .i64 n)/\((0:Int)<=
 n/\n<=n/\(1:Int)*n<=(281474976710656:Int)/\I64 n)/\∀H'_2 q,New H' (rep (Int.toNat n) [.bool false]) 4 H'_2 q->∀H' p_2,New H'_2 [.slice none 0 0] 207 H' p_2->WOk H' p_2 0 1/\∀H'_3,H'_3=wr H' p_2 0
 (.slice (some ⟨q,0,none⟩) (Int.toNat n) (Int.toNat n))->∀H' p_3,New H'_3 [Value.nilFunc] 339 H' p_3->WOk H' p_3 0 1/\∀H'_4,H'_4=wr H' p_3 0 (.func (.func 255) #[] #[.pointer (some ⟨p_2,0,none⟩)])->Ru 187
 [.slice x1 l1 c1,.func (.func 256) #[] #[.pointer (some ⟨p,0,none⟩)]] H'_4 fun r H'=>∃c,r=.bool c/\(c=true->3=3/\(∀(v:Value),v∈[.slice none 0 0,.slice none 0 0,.int .i64 0]->One v)/\WOk H' p_1
 0 3/\∀H'_5,H'_5=wrL H' p_1 0 [.slice none 0 0,.slice none 0 0,.int .i64 0]->∃(cs:List Value),List.length cs=3/\RdL H'_5 p_1 0 cs/\R (.tuple #[.agg (List.toArray cs),.int .i64 2]) H'_5)/\(c=false->∃v,
 rd H' p_3 0=some v/\∃g u v_1,v=.func (.func g) u v_1/\callable Tryz.prog g=true/\Ru g (Array.toList u++[.slice x1 l1 c1]++Array.toList v_1) H' fun r H'=>∃a l c,rd H' p 1=some (.slice a l c)/\((0 :
 Int)<=(↑l:Int)/\(↑l:Int)<=(↑l:Int)/\(1:Int)*(↑l:Int)<=(281474976710656:Int)/\I64 (↑l:Int))/\∀H'_5 q,New H' (rep (Int.toNat (↑l:Int)) [.bool false]) 4 H'_5 q->∀H' p_4,New H'_5 [.slice none 0
 0,.slice none 0 0,.int .i64 0] 267 H' p_4->List.length (α:=Value) [.slice (some ⟨q,0,none⟩) (Int.toNat (↑l:Int)) (Int.toNat (↑l:Int)),.slice none 0 0,.int .i64 0]=3/\(∀(v:Value),v∈[.slice (some ⟨q,
 0,none⟩) (Int.toNat (↑l:Int)) (Int.toNat (↑l:Int)),.slice none 0 0,.int .i64 0]->One v)/\WOk H' p_4 0 3/\∀H'_6,H'_6=wrL H' p_4 0 [.slice (some ⟨q,0,none⟩) (Int.toNat (↑l:Int)) (Int.toNat (↑l:Int)),
 .slice none 0 0,.int .i64 0]->∃a l c,rd H'_6 p 1=some (.slice a l c)/\Ru 258 [.slice a l c] H'_6 fun r H'=>∃a l c,r=.slice a l c/\Ru 257 [.slice a l c] H' fun r H'=>J p 0 p_1 0 p_2 0 p_3 0 p_4 0 r H'))) :
 P200 Tryz.prog (entry 0 [.agg x0,.slc x1 l1 c1]) H R J:=of_eq (by kernel_rfl) h
theorem r200 (x y:Int)(p2 p8 p9 p10:Nat)(H:Heap)(Q0:Heap->Prop)(Q:Heap->Heap->Prop)(J:Heap->Heap->Prop)(h :
 Q0 H/\∀H2,Q H H2->∃a l c,rd H2 p2 1=some (.slice a l c)/\∃b o,At a b o/\((0:Int)<=x/\x<(↑l:Int))/\∃(cs:List Value),List.length cs=5/\RdL H2 b (o+Int.toNat x*5) cs/\∀H' p,New H2 [.int
 .i64 0,.int .i64 0,.int .i64 0,.int .i64 0,.int .u64 0] 74 H' p->List.length cs=5/\(∀(v:Value),v∈cs->One v)/\WOk H' p 0 5/\∀H'_1,H'_1=wrL H' p 0 cs->∃a l c,rd H'_1 p8 0=some (.slice a l c)/\∃
 n,rd H'_1 p 1=some (.int .i64 n)/\∃b o,At a b o/\((0:Int)<=n/\n<(↑l:Int))/\∃c,rd H'_1 b (o+Int.toNat n)=some (.bool c)/\((!c)=true->J H2 H'_1)/\((!c)=false->∃a l c,rd H'_1 p8 0=some
 (.slice a l c)/\∃n,rd H'_1 p 1=some (.int .i64 n)/\∃b o,At a b o/\((0:Int)<=n/\n<(↑l:Int))/\WOk H'_1 b (o+Int.toNat n) 1/\∀H',H'=wr H'_1 b (o+Int.toNat n) (.bool false)->∃v,rd H' p9 0=some
 v/\∃(cs:List Value),List.length cs=5/\RdL H' p 0 cs/\Ru 259 [.agg (List.toArray cs)] H' fun r H'=>∃a l c,r=.slice a l c/\rd H' p9 0=some v/\∃g u v_1,v=.func (.func g) u v_1/\callable Tryz.prog g =
 true/\Ru g (Array.toList u++[.slice a l c]++Array.toList v_1) H' fun r H'=>∃a l c,rd H' p10 0=some (.slice a l c)/\∃b o,At a b o/\((0:Int)<=x/\x<(↑l:Int))/\WOk H' b (o+Int.toNat x) 1/\∀H'_2,
 H'_2=wr H' b (o+Int.toNat x) (.bool true)->∃n,rd H'_2 p10 2=some (.int .i64 n)/\I64 (n+(1:Int))/\WOk H'_2 p10 2 1/\∀H',H'=wr H'_2 p10 2 (.int .i64 (n+(1:Int)))->J H2 H')) :
 R200 Tryz.prog [(46,.int .i64 x),(45,.int .i64 y),(2,.ptr p2 0),(8,.ptr p8 0),(9,.ptr p9 0),(10,.ptr p10 0)] H Q0 Q J:=of_eq (by kernel_rfl) h
theorem s200 (p4 p8 p10:Nat)(H:Heap)(D:Heap->Prop)(Q:Heap->Heap->Prop)(R:Value->Heap->Prop)(h :
 ∃a l c,rd H p8 0=some (.slice a l c)/\∃(I:Int->Heap->Prop),∃(μ:Int->Heap->Nat),I (0:Int) H/\∀H n,I n H->(n<(↑l:Int)->∃b o,At a b o/\((0:Int)<=n/\n<(↑l:Int))/\∃c,rd H b (o +
 Int.toNat n)=some (.bool c)/\(c=true->∃a l c,rd H p10 1=some (.slice a l c)/\∀H' q,New H [.int .i64 n] 3 H' q->∃new,List.length new=1/\SlL H' (some ⟨q,0,none⟩) new/\App 1 8 3 [.int .i64 0] H' a l c 1
 new fun a' l' c' H'=>WOk H' p10 1 1/\∀H'_1,H'_1=wr H' p10 1 (.slice a' l' c')->I64 (n+(1:Int))/\I (n+(1:Int)) H'_1/\μ (n+(1:Int)) H'_1<μ n H)/\(c=false->I64 (n+(1:Int))/\I (n+(1:Int))
 H/\μ (n+(1:Int)) H<μ n H))/\(¬n<(↑l:Int)->∃(cs:List Value),List.length cs=3/\RdL H p10 0 cs/\List.length cs=3/\(∀(v:Value),v∈cs->One v)/\WOk H p4 0 3/\∀H',H'=wrL H p4 0 cs->D H'/\
 ∀H'_1,Q H' H'_1->∃(cs:List Value),List.length cs=3/\RdL H'_1 p4 0 cs/\R (.tuple #[.agg (List.toArray cs),.int .i64 0]) H'_1)) :
 S200 Tryz.prog [(4,.ptr p4 0),(8,.ptr p8 0),(10,.ptr p10 0)] H D Q R:=of_eq (by kernel_rfl) h
end Go.VC
namespace Go.VC
open Go Go.Proofs Go.RowKit
variable {P:Program}{n:Nat}
def FrameJ (N:Nat)(J:List Nat->Nat->Heap->Prop):Prop:=∀V k H U H',J V k H->Mod U H H'->(∀v∈V,v<H.size/\v∉U)->(∀u∈U,N<=u)->J V k H'
def Grew (V V':List Nat)(H H':Heap):Prop:=Mod V H H'/\∀v∈V',v<H'.size/\(v∈V\/H.size<=v)
def IterC (n:Nat)(P:Program)(gf:Nat)(lb:List Value)(pre:Heap->Prop)(S:List Nat)(xs:List (List Value)):Prop:=
 ∀(l:Nat) (J:List Nat->Nat->Heap->Prop) (w:World) (V:List Nat),pre w.heap->(∀v∈V,v<w.heap.size/\v∉S)->FrameJ w.heap.size J->J V 0 w.heap->
  (∀k V W x,xs[k]?=some x->Same w W->J V k W.heap->(∀v∈V,v<W.heap.size)->
   YieldAt Fence.wide (n-1) P l x.toArray W fun e W'=>e=.returned (.bool true)/\Same w W'/\∃V',J V' (k+1) W'.heap/\Grew V V' W.heap W'.heap)->
  CallsIn Fence.wide n P gf (#[.func (.yield l) #[] #[]]++lb.toArray) w fun e w'=>(∃v,e=.returned v)/\Same w w'/\∃V',J V' xs.length w'.heap/\Grew V V' w.heap w'.heap
theorem putObj_mod (w:World)(l:Nat)(o:Obj):Mod [l] w.heap (w.putObj l o).heap:=
 ⟨by simp,fun b _ hb=>World.putObj_heap_other (by simpa using hb)⟩
theorem wpIn_rf {g:Operand}{ps:Array Tmp}{assign body:Code}{Q:Exit->Act->World->Prop}{a:Act}{w:World}{gf:Nat}{lb:List Value}{pre:Heap->Prop}{S:List Nat}{xs:List (List Value)}
  (hg:a.eval g=.func (.func gf) #[] lb.toArray) (eg:∀args w,(callFunc gf args).run P w=.ok (.enter gf args) w)
  (hC:IterC (n-1) P gf lb pre S xs) (hpre:pre w.heap) (hpreK:∀H H',pre H->(∀b∈S,H'[b]?=H[b]?)->pre H') (hS:∀b∈S,b<w.heap.size)
  (hps:∀x∈xs,x.length=ps.size) {V0:List Nat} (hV0:∀v∈V0,v<w.heap.size/\v∉S)
  (J:List Nat->Nat->Heap->Prop) (hJ:FrameJ w.heap.size J) (h0:J V0 0 w.heap)
  (hround:∀l k V W x,w.heap.size<=l->l<W.heap.size->l∉V->xs[k]?=some x->Same w W->J V k W.heap->(∀v∈V,v<W.heap.size)->
   assign.wpIn (wideR (some l)) (n-1-1) P (Exit.then (fun a1 W1=>Same w W1/\Mod V W.heap W1.heap/\∀W2,Same w W2->Mod [l] W1.heap W2.heap->
    body.wpIn (wideR (some l)) (n-1-1) P (fun e _ W3=>e=.normal/\Same w W3/\Mod V W2.heap W3.heap/\∃V',J V' (k+1) W3.heap/\∀v∈V',v<W3.heap.size/\(v∈V\/W.heap.size<=v)) a1 W2) (fun _ _ _=>False))
    { tmps:=(ps.zip x.toArray).foldl (fun t (p,v)=>t.setIfInBounds p v) a.tmps,defers:=[] } W)
  (hdone:∀D V W,w.heap.size<=D->D∉V->Same w W->J V xs.length W.heap->Mod V0 w.heap W.heap->(∀v∈V,v<W.heap.size)->W.heap[D]?=some (.deferred (some []))->
   Q .normal { a with defers:={ target:=.collected D,args:=#[] } ::a.defers } W) :
  (Code.rangeFunc g ps assign body).wpIn Fence.wide n P Q a w:=by
 refine wpIn_rangeFunc ?_
 intro fn hfn
 rw[show Fence.wide.round=none from rfl]
 obtain⟨rec,hrec⟩:∃rec:LoopState->Option Code->Loop,rec=fun st pe=>{ state:=st,pending:=pe,fn,tmps:=a.tmps,params:=ps,assign,body,defers:=w.heap.size }:=⟨_,rfl⟩
 obtain⟨W1,hW1⟩:∃W1,(w.alloc (.deferred (some []))).alloc (.loop (rec .ready none))=W1:=⟨_,rfl⟩
 have hL1:W1.heap[w.heap.size+1]?=some (.loop (rec .ready none)):=by
  rw[<-hW1];have:=World.alloc_heap_new (w.alloc (.deferred (some []))) (.loop (rec .ready none));rwa [World.size_alloc] at this
 have hK1:W1.heap[w.heap.size]?=some (.deferred (some [])):=by
  rw[<-hW1];exact (Below.heap_alloc _ _ _ (by simp)).trans (World.alloc_heap_new w _)
 have hM1:Mod [] w.heap W1.heap:=by rw[<-hW1];exact (Mod.refl.push _).push _
 have hz1:W1.heap.size=w.heap.size+2:=by rw[<-hW1];simp
 have hS1:Same w W1:=by rw[<-hW1];exact⟨rfl,rfl,rfl⟩
 have hI1:J V0 0 W1.heap:=hJ _ _ _ [] _ h0 hM1 (fun v hv=>⟨(hV0 v hv).1,by simp⟩) (by simp)
 refine⟨w.heap.size+1,[{ target:=.collected w.heap.size,args:=#[] }],W1,{ target:=.fn (.func gf) lb.toArray,args:=#[.func (.yield (w.heap.size+1)) #[] #[]] },W1,gf,
  #[.func (.yield (w.heap.size+1)) #[] #[]]++lb.toArray,W1,?_,?_,?_,?_,fun h=>(by cases h),?_⟩
 ·rw[<-hW1,hrec];exact run_enterLoop_outer _ _ _ _ _
 ·simp only[resolve,hg]
  simp[go_sem]
 ·intro f' _;trivial
 ·simp[invoke,go_sem,eg]
 ·let J':List Nat->Nat->Heap->Prop:=fun V' k H=>∃V,V'=(w.heap.size+1) ::w.heap.size ::V/\J V k H/\H[w.heap.size+1]?=some (.loop (rec .ready none))/\H[w.heap.size]?=some (.deferred (some []))/\w.heap.size+1∉V/\w.heap.size∉V
  have hJ':FrameJ W1.heap.size J':=by
   rintro V' k H U H' ⟨V,rfl,hj,hl,hk,h1,h2⟩ hm hu hN
   refine⟨V,rfl,hJ _ _ _ U _ hj hm (fun v hv=>hu v (by simp[hv])) (fun u h=>by have:=hN u h;omega),?_,?_,h1,h2⟩
   ·have:=hu (w.heap.size+1) (by simp);rw[hm.2 _ this.1 this.2];exact hl
   ·have:=hu w.heap.size (by simp);rw[hm.2 _ this.1 this.2];exact hk
  refine (hC (w.heap.size+1) J' W1 ((w.heap.size+1) ::w.heap.size ::V0) (hpreK _ _ hpre fun b hb=>hM1.2 b (hS b hb) (by simp)) ?_ hJ'
   ⟨V0,rfl,hI1,hL1,hK1,fun h=>by have:=(hV0 _ h).1;omega,fun h=>by have:=(hV0 _ h).1;omega⟩ ?_).mono ?_
  ·intro v hv
   simp only[List.mem_cons] at hv
   rcases hv with rfl|rfl|hv
   ·exact⟨by omega,fun h=>by have:=hS _ h;omega⟩
   ·exact⟨by omega,fun h=>by have:=hS _ h;omega⟩
   ·exact⟨by have:=(hV0 v hv).1;omega,(hV0 v hv).2⟩
  ·
   rintro k V' W x hx hsW ⟨V,rfl,hj,hl,hk,hn1,hn2⟩ hlt
   have hlV:∀v∈V,v<W.heap.size:=fun v hv=>hlt v (by simp[hv])
   have hlt1:=hlt (w.heap.size+1) (by simp)
   have hlt2:=hlt w.heap.size (by simp)
   have hy:=run_yield (P:=P) (args:=x.toArray) hl (by rw[hrec];simpa using hps x (List.mem_of_getElem? hx))
   rw[hrec] at hy
   refine⟨fn,_,assign,body,hy,roundIn_of_wpIn hfn (wpIn_mono (hround (w.heap.size+1) k V W x (by omega) hlt1 hn1 hx (hS1.trans hsW) hj hlV) ?_)⟩
   intro e a1 Wa q
   cases e with
   | normal=>
    obtain⟨hsa,hMa,hb⟩:=q
    have hla:Wa.heap[w.heap.size+1]?=some (.loop (rec .ready none)):=by rw[hMa.2 _ hlt1 hn1];exact hl
    have hka:Wa.heap[w.heap.size]?=some (.deferred (some [])):=by rw[hMa.2 _ hlt2 hn2];exact hk
    have hza:=hMa.1
    obtain⟨W2,hW2⟩:∃W2,Wa.putObj (w.heap.size+1) (.loop { rec .ready none with state:=.busy })=W2:=⟨_,rfl⟩
    refine⟨W2,by rw[<-hW2];exact run_beginRound hla (by rw[hrec]),?_⟩
    have hM2:Mod [w.heap.size+1] Wa.heap W2.heap:=by rw[<-hW2];exact putObj_mod Wa _ _
    have hl2:W2.heap[w.heap.size+1]?=some (.loop { rec .ready none with state:=.busy }):=by rw[<-hW2];exact World.putObj_heap_same (by omega)
    have hk2:W2.heap[w.heap.size]?=some (.deferred (some [])):=by rw[<-hW2];exact (World.putObj_heap_other (by omega)).trans hka
    have hsa2:Same w W2:=by rw[<-hW2];exact hsa.trans ⟨rfl,rfl,rfl⟩
    clear hW2
    refine wpIn_mono (hb _ hsa2 hM2) ?_
    rintro e a3 W3 ⟨rfl,hs3,hM3,V3,hj3,hV3⟩
    have hz2:=hM2.1
    have hz3:=hM3.1
    have hl3:W3.heap[w.heap.size+1]?=some (.loop { rec .ready none with state:=.busy }):=by rw[hM3.2 _ (by omega) hn1];exact hl2
    have hk3:W3.heap[w.heap.size]?=some (.deferred (some [])):=by rw[hM3.2 _ (by omega) hn2];exact hk2
    have hr:=run_endRound (P:=P) none hl3
    obtain⟨W4,hW4⟩:∃W4,W3.putObj (w.heap.size+1) (.loop (rec .ready none))=W4:=⟨_,rfl⟩
    have hr4:(Instr.endRound (w.heap.size+1) none).run P W3=.ok (.bool true) W4:=by rw[<-hW4];rw[hrec] at hr ⊢;exact hr
    refine⟨_,W4,hr4,?_⟩
    have hM4:Mod [w.heap.size+1] W3.heap W4.heap:=by rw[<-hW4];exact putObj_mod W3 _ _
    have hl4:W4.heap[w.heap.size+1]?=some (.loop (rec .ready none)):=by rw[<-hW4];exact World.putObj_heap_same (by omega)
    have hk4:W4.heap[w.heap.size]?=some (.deferred (some [])):=by rw[<-hW4];exact (World.putObj_heap_other (by omega)).trans hk3
    have hs4:Same w W4:=by rw[<-hW4];exact hs3.trans ⟨rfl,rfl,rfl⟩
    clear hW4
    have hz4:=hM4.1
    have hnV3:∀b,b<W.heap.size->b∉V->b∉V3:=fun b hb hbV h=>by
     rcases (hV3 b h).2 with h|h
     ·exact hbV h
     ·omega
    refine⟨rfl,⟨hs4.1.trans hS1.1.symm,hs4.2.1.trans hS1.2.1.symm,hs4.2.2.trans hS1.2.2.symm⟩,(w.heap.size+1) ::w.heap.size ::V3,⟨V3,rfl,hJ _ _ _ _ _ hj3 hM4 (fun v hv=>⟨(hV3 v hv).1,?_⟩) (by simp),hl4,hk4,hnV3 _ hlt1 hn1,hnV3 _ hlt2 hn2⟩,?_,?_⟩
    ·intro h
     simp only[List.mem_singleton] at h
     subst h
     exact hnV3 _ hlt1 hn1 hv
    ·refine (((hMa.mono ?_).trans (hM2.mono ?_)).trans (hM3.mono ?_)).trans (hM4.mono ?_)
     all_goals (intro b hb;simp only[List.mem_cons,List.not_mem_nil,or_false] at hb ⊢;first|exact .inl hb|exact .inr (.inr hb))
    ·intro v hv
     simp only[List.mem_cons] at hv ⊢
     rcases hv with rfl|rfl|hv
     ·exact⟨by omega,.inl (.inl rfl)⟩
     ·exact⟨by omega,.inl (.inr (.inl rfl))⟩
     ·obtain⟨h1,h2⟩:=hV3 v hv
      exact⟨by omega,h2.imp (fun h=>.inr (.inr h)) id⟩
   | _=>exact q.elim
  ·
   rintro e W2 ⟨⟨v,rfl⟩,hs2,V',⟨V,rfl,hj,hl,hk,hn1,hn2⟩,hm,hV⟩
   subst hrec
   have he:=run_endLoop (P:=P) hl (by simp)
   refine⟨none,_,he,?_⟩
   have hM4:=putObj_mod W2 (w.heap.size+1) (.loop { state:=.exhausted,pending:=none,fn,tmps:=a.tmps,params:=ps,assign,body,defers:=w.heap.size })
   have hz4:=hM4.1
   have hlV:∀v∈V,v<W2.heap.size:=fun v hv=>(hV v (by simp[hv])).1
   refine hdone w.heap.size V _ (Nat.le_refl _) hn2 (hS1.trans (hs2.trans ⟨rfl,rfl,rfl⟩)) (hJ _ _ _ _ _ hj hM4 (fun v hv=>⟨hlV v hv,?_⟩) (by simp)) ?_ (fun v hv=>Nat.lt_of_lt_of_le (hlV v hv) hz4) ((World.putObj_heap_other (by omega)).trans hk)
   ·intro h
    simp only[List.mem_singleton] at h
    subst h
    exact hn1 hv
   ·refine Mod.trans_new (hM1.mono (by simp)) (hm.trans (hM4.mono ?_)) ?_
    ·intro b hb;simp only[List.mem_singleton] at hb;subst hb;simp
    ·intro b hb
     simp only[List.mem_cons] at hb
     rcases hb with rfl|rfl|hb
     ·exact .inr (by omega)
     ·exact .inr (by omega)
     ·exact .inl hb
def endM (P:Program)(fn:Func)(w0:World)(R:Value->Heap->Prop):Exit->Act->World->Prop:=fun e a w=>
 (e=.normal\/e=.ret)/\Same w0 w/\
  ((a.defers=[]/\∃fr,(∀t u,dl fr t=some u->a.tmps[t]?=some u)/\resultsE P fn.results.toList [] fr w.heap fun vs=>R (oneOrTuple vs) w.heap)\/
   (∃D,a.defers=[{ target:=.collected D,args:=#[] }]/\w.heap[D]?=some (.deferred (some []))/\∃fr,(∀t u,dl fr t=some u->a.tmps[t]?=some u)/\
    ∀H',Mod [D] w.heap H'->resultsE P fn.results.toList [] fr H' fun vs=>R (oneOrTuple vs) H'))
theorem runs_marks {f:FuncId}{fn:Func}{c:Code}{args:List Value}{H:Heap}{R:Value->Heap->Prop}(hf:P.funcs[f]?=some fn)(hb:fn.body=some c)
  (h:∀w:World,w.heap=H->c.wpIn Fence.wide 5 P (endM P fn w R) { tmps:=args.toArray++Array.replicate (fn.ntmps-args.toArray.size) undef,defers:=[] } w):Runs P f args H R:=by
 intro w hw
 refine callsIn_wide.1 (callsIn_of_wp_marks (n:=5) hf hb trivial (wpIn_mono (h w hw) ?_) rfl)
 rintro e a w' ⟨he,hs,hr⟩
 have key:LeavesInM Fence.wide 5 P fn a.tmps (fun e w'=>∃v,e=.returned v/\R v w'.heap/\w'.tape=w.tape/\w'.os=w.os/\w'.output=w.output) a.defers .returning w':=by
  rcases hr with ⟨hd,fr,hA,hr⟩|⟨D,hd,hD,fr,hA,hr⟩
  ·rw[hd]
   obtain⟨vs,hR,hrun⟩:=resultsE_spec hA _ _ _ hr
   exact⟨_,results_run hrun,_,rfl,by simpa using hR,hs.1,hs.2.1,hs.2.2⟩
  ·rw[hd]
   refine⟨by simp,.inl ⟨D,_,rfl,run_takeDeferred hD,?_⟩⟩
   obtain⟨vs,hR,hrun⟩:=resultsE_spec (w:=w'.putObj D (.deferred none)) hA _ _ _ (hr _ (putObj_mod w' D _))
   exact⟨_,results_run hrun,_,rfl,by simpa using hR,hs.1,hs.2.1,hs.2.2⟩
 rcases he with rfl|rfl
 ·exact key
 ·exact key
end Go.VC
namespace Go.VC
open Go Go.Proofs
variable {H:Heap}{R:Value->Heap->Prop}
open Classical in
noncomputable def wr_ (p:Prog):Nat:=if h:∃t,GoodP p t then (Classical.choose h).size else 0
theorem wr_eq {p:Prog}{t:Tree}(h:GoodP p t):wr_ p=t.size:=by
 unfold wr_
 have he:∃t,GoodP p t:=⟨t,h⟩
 rw[dif_pos he]
 have hc:=Classical.choose_spec he
 rw[flat_inj hc.ok h.ok (hc.flat.trans h.flat.symm)]
theorem c167g {a:Option Addr}{l c:Nat}{p:Prog}(h:RowO H a l p.ops)(hl:l<=4398046511104)(hg:∃t,GoodP p t)
  (k:∀H',Ext H H'->R (.tuple #[.int .i64 (wr_ p:Int),.int .i64 0]) H'):Ru 167 [.slice a l c] H R:=by
 obtain⟨t,g⟩:=hg
 have hw:=wr_eq g
 refine c167 h hl (fun H' hs _=>(hs ((scan_iff _).2 ⟨t,g.ok,g.flat⟩)).elim) (fun H' t' ht' hf' hn _=>?_) (fun H' t' ht' hf' hs hz e=>?_)
 ·rw[flat_inj ht' g.ok (hf'.trans g.flat.symm)] at hn;exact (hn ⟨g.size,g.few⟩).elim
 ·rw[flat_inj ht' g.ok (hf'.trans g.flat.symm),<-hw];exact k _ e
theorem c103 (h:Hdr)(p:HAt)(r:HRows H h p)(ok:OkH h)
  (k:∀H',Ext H H'->R (.tuple #[.int .i64 (wr_ h.step:Int),.int .i64 (wr_ h.loss:Int)]) H'):Ru 103 [.agg (hdrC h p).toArray] H R:=by
 refine v103 (hdrC h p) fun H1 q n1=>⟨hdrC h p,hdrC_length h p,n1.rdL,c46 h p (r.ext n1.mod) (fun _ H2 e2=>⟨_,rfl,by simp,fun _=>?_⟩) (fun _ _ _ hb _=>(hb ok).elim)⟩
 have e12:=n1.mod.thenExt e2
 refine⟨_,_,_,e2.rd (by simp) (n1.rd 4),c167g (r.ext e12).s r.s1 ok.step fun H3 e3=>⟨_,_,rfl,_,_,_,e3.rd (by simp) (e2.rd (by simp) (n1.rd 6)),c167g (r.ext (e12.thenExt e3)).l r.l1 ok.loss fun H4 e4=>⟨_,_,rfl,k _ ((e12.thenExt e3).thenExt e4)⟩⟩⟩
theorem c168 {p:Nat}{e:Int}(x:Int)(hp:Own H p [.int .i64 e])(hi:I64 (e+x))(k:∀H',Own H' p [.int .i64 (e+x)]->Mod [p] H H'->R (.int .i64 e) H'):Ru 168 [.int .i64 x,.pointer (some ⟨p,0,none⟩)] H R:=by
 refine v168 _ _ _ ⟨_,hp.rd 0 rfl,_,hp.rd 0 rfl,hi,hp.w 0 1 rfl,?_⟩
 rintro _ rfl
 exact k _ (hp.wr 0 _) (Mod.refl.wr (.inl (by simp)))
def offs (ss:List Int)(k:Nat):List Int:=(List.range k).map fun i=>(ss.take i).sum
theorem sum_bound {B:Int}(hB:0<=B):∀(l:List Int),(∀x∈l,0<=x/\x<=B)->0<=l.sum/\l.sum<=l.length*B
 | [],_=>by simp
 | x ::l,h=>by
  have h1:=h x (by simp)
  have h2:=sum_bound hB l fun y hy=>h y (by simp[hy])
  simp only[List.sum_cons,List.length_cons]
  push_cast
  rw[Int.add_mul]
  omega
theorem c104 (ss:List Int)(hs:ss.length=9)(hb:∀x∈ss,0<=x/\x<=4294967296)(n:Int)(hn:0<=n/\n<=1048576)(hm:I64 ((ss[8]'(by omega))*n)/\I64 ((ss.take 8).sum+(ss[8]'(by omega))*n))
  (k:∀a c H',Buf 1 H' H.size a 10 c (i64s (offs ss 9++[(ss.take 8).sum+(ss[8]'(by omega))*n]))->Ext H H'->R (.slice a 10 c) H'):Ru 104 [.agg (i64s ss).toArray,.int .i64 n] H R:=by
 refine v104 (i64s ss) _ fun H1 p n1 H2 p1 n2=>⟨n2.own.w 0 1 rfl,?_⟩
 rintro _ rfl
 have hg1:=n1.ge;have hg2:=n2.ge;have hl1:=n1.lt;have hl2:=n2.lt
 have m3:Mod [p1] H2 (wr H2 p1 0 (.int .i64 0)):=Mod.refl.wr (.inl (by simp))
 have o3:Own (wr H2 p1 0 (.int .i64 0)) p1 [.int .i64 0]:=n2.own.wr 0 _
 have op3:Own (wr H2 p1 0 (.int .i64 0)) p (i64s ss):=(n1.own.mod n2.mod (by simp)).mod m3 (by simp;omega)
 have e3:Ext H (wr H2 p1 0 (.int .i64 0)):=(n1.mod.new n2).trans_new m3 (by simp;omega)
 have z3:=m3.1
 generalize wr H2 p1 0 (.int .i64 0)=H3 at *
 have hsum:∀j,0<=(ss.take j).sum/\(ss.take j).sum<=38654705664:=by
  intro j
  have:=sum_bound (B:=4294967296) (by omega) (ss.take j) fun x hx=>hb x (List.mem_of_mem_take hx)
  have hl:((ss.take j).length:Int)<=9:=by simp;omega
  omega
 have step:∀(H4:Heap) (a:Option Addr) (l c:Nat) (xs:List Int) (x:Int) (K:Option Addr->Nat->Nat->Heap->Prop),l<=20->Ext H H4->p1<H4.size->Buf 1 H4 (p1+1) a l c (i64s xs)->
   (∀a' c' H',Ext H H'->Buf 1 H' (p1+1) a' (l+1) c' (i64s (xs++[x]))->(∀b cs,b<=p1->Own H4 b cs->Own H' b cs)->H4.size<=H'.size->K a' (l+1) c' H')->
   ∀H5 q,New H4 [.int .i64 x] 3 H5 q->∃new:List Value,List.length new=1/\SlL H5 (some ⟨q,0,none⟩) new/\App 1 8 3 [.int .i64 0] H5 a l c 1 new K:=by
  intro H4 a l c xs x K hl e4 hp4 hB hK H5 q n5
  refine⟨i64s [x],rfl,.inr ⟨q,0,rfl,n5.rdL⟩,(hB.ext n5.mod).app (Nat.le_trans hp4 n5.mod.1) rfl rfl i64s_one (by omega) (by omega) fun a' c' H6 S hB6 m6 hS=>?_⟩
  rw[<-i64s_append] at hB6
  refine hK a' c' H6 ((e4.new n5).trans_new m6 fun b hb'=>.inr (by have:=hS b hb';omega)) hB6 (fun b cs hbp ho=>(ho.mod n5.mod (by simp)).mod m6 fun hm'=>by have:=hS b hm';omega) (Nat.le_trans n5.mod.1 m6.1)
 have hp1:p1<H3.size:=by omega
 refine⟨fun a l c i H'=>∃j:Nat,i=j/\j<=8/\l=j/\Buf 1 H' (p1+1) a j c (i64s (offs ss j))/\Own H' p (i64s ss)/\Own H' p1 [.int .i64 (ss.take j).sum]/\Ext H H'/\p1<H'.size,fun _ _ _ i _=>(8-i).toNat,⟨0,rfl,by omega,rfl,Buf.nil,op3,o3,e3,hp1⟩,?_⟩
 rintro H4 a j c _ ⟨_,rfl,hj,rfl,hB,op4,o4,e4,hp4⟩
 have ho1:∀x y,x<y->offs ss (x+1)=offs ss x++[(ss.take x).sum]:=by intro x y _;simp[offs,List.range_succ]
 refine⟨fun hlt=>?_,fun hge=>?_⟩
 ·have hj9:j<ss.length:=by omega
  have hx:=hb _ (List.getElem_mem hj9)
  have h1:=hsum j
  refine⟨⟨by omega,by omega⟩,_,by rw[Nat.zero_add,Nat.mul_one];exact op4.rd j (i64s_get hj9),c168 _ o4 ⟨by omega,by omega⟩ fun H5 o5 m5=>⟨_,rfl,step H5 a j c (offs ss j) _ _ (by omega) (e4.trans_new m5 (by simp;omega)) (Nat.lt_of_lt_of_le hp4 m5.1) (hB.mod m5 (by simp)) fun a' c' H6 e6 hB6 ho6 z6=>?_⟩⟩
  refine⟨⟨by omega,by omega⟩,⟨j+1,by push_cast;rfl,by omega,rfl,by rw[ho1 j (j+1) (by omega)];exact hB6,ho6 _ _ (by omega) (op4.mod m5 (by simp;omega)),?_,e6,by have:=m5.1;omega⟩,by (try dsimp only);omega⟩
  have:=ho6 _ _ (Nat.le_refl _) o5
  rw[List.take_succ_eq_append_getElem hj9,List.sum_append]
  simpa using this
 ·have h8:j=8:=by omega
  subst h8
  refine⟨⟨by omega,by omega⟩,_,op4.rd 8 (i64s_get (by omega)),hm.1,c168 _ o4 hm.2 fun H5 o5 m5=>⟨_,rfl,step H5 a 8 c (offs ss 8) _ _ (by omega) (e4.trans_new m5 (by simp;omega)) (Nat.lt_of_lt_of_le hp4 m5.1) (hB.mod m5 (by simp)) fun a' c' H6 e6 hB6 ho6 z6=>?_⟩⟩
  refine⟨_,(ho6 _ _ (Nat.le_refl _) o5).rd 0 rfl,step H6 a' 9 c' _ _ _ (by omega) e6 (by have:=m5.1;omega) hB6 fun a7 c7 H7 e7 hB7 _ _=>?_⟩
  rw[<-ho1 8 9 (by omega)] at hB7
  exact k _ _ _ (hB7.down (by omega)) e7
theorem c48 (ss:List Int)(hs:ss.length=9)(hb:∀x∈ss,0<=x/\x<=4294967296)(n:Int)(hn:0<=n/\n<=1048576)(hm:I64 ((ss[8]'(by omega))*n)/\I64 ((ss.take 8).sum+(ss[8]'(by omega))*n))
  (k:∀H',Ext H H'->R (.int .i64 ((ss.take 8).sum+(ss[8]'(by omega))*n)) H'):Ru 48 [.agg (i64s ss).toArray,.int .i64 n] H R:=by
 refine v48 (i64s ss) _ fun H1 p n1=>⟨i64s ss,by simp[hs],n1.rdL,c104 ss hs hb n hn hm fun a c H2 hB e2=>⟨_,_,_,rfl,?_⟩⟩
 obtain⟨b,o,e,hr⟩:=hB.row.at (by omega)
 refine⟨b,o,e,⟨by omega,by omega⟩,_,rdL_get' hr (j:=9) (v:=.int .i64 ((ss.take 8).sum+(ss[8]'(by omega))*n)) ?_,k _ (n1.mod.thenExt e2)⟩
 simp[i64s,offs]
noncomputable def partsOf (h:Hdr):List Int:=
 [(h.th.length:Int),(h.x.length:Int),h.step.regs,h.loss.regs,max h.step.regs h.loss.regs,(h.x.length:Int),(h.th.length:Int),if h.mode=3 then (wr_ h.loss:Int) else (wr_ h.step:Int)+wr_ h.loss,if h.mode=3 then (wr_ h.step:Int)+h.step.regs else (h.x.length:Int)+1]
theorem wr_le {p:Prog}(h:∃t,GoodP p t):wr_ p<=65536:=by obtain⟨t,g⟩:=h;rw[wr_eq g];exact g.few
theorem c47 (h:Hdr)(p:HAt)(r:HRows H h p)(ok:OkH h)
  (k:∀H',Ext H H'->R (.agg (i64s (partsOf h)).toArray) H'):Ru 47 [.agg (hdrC h p).toArray] H R:=by
 have hw1:=wr_le ok.step
 have hw2:=wr_le ok.loss
 obtain⟨d1,d2,d3,_,_⟩:=ok.dims
 obtain⟨t1,g1⟩:=ok.step
 have hr1:=g1.regs.1
 have hr2:=g1.regs.2.1
 refine v47 (hdrC h p) fun H1 q n1 H2 q2 n2=>⟨_,_,_,n2.mod.rd (by simp) (n1.rd 1),_,_,_,n2.mod.rd (by simp) (n1.rd 2),hdrC h p,hdrC_length h p,n2.mod.rdL (by simp) n1.rdL,?_⟩
 have e2:=n1.mod.new n2
 refine c103 h p (r.ext e2) ok fun H3 e3=>⟨_,_,rfl,⟨by omega,by omega⟩,⟨by omega,by omega⟩,_,(n2.mod.thenExt e3).rd (by simp) (n1.rd 0),fun hm=>?_,fun hm=>?_⟩
 all_goals
  have hrd:=fun j v (hj:(hdrC h p)[j]?=some v)=>(n2.mod.thenExt e3).rd (by simp) ((n1.rd j).trans hj)
  have ow:=n2.own.mod e3 (by simp)
  have fin:∀vs:List Value,vs=i64s (partsOf h)->∀H',H'=wrL H3 q2 0 vs->∃cs:List Value,List.length cs=9/\RdL H' q2 0 cs/\R (.agg (List.toArray cs)) H':=by
   rintro vs rfl H' hH'
   refine⟨i64s (partsOf h),by simp[partsOf],by rw[hH'];exact rdL_wrL (by simpa [partsOf] using ow.2),k _ ?_⟩
   rw[hH']
   exact (e2.thenExt e3).trans_new (Mod.refl.wrL (S:=[q2]) (.inl (by simp))) (by simpa using Nat.le_trans n1.mod.1 n2.ge)
 ·refine⟨_,hrd 3 _ rfl,⟨by omega,by omega⟩,_,hrd 3 _ rfl,_,hrd 5 _ rfl,_,hrd 3 _ rfl,_,hrd 5 _ rfl,by simp,?_,by simpa using ow.2,fin _ ?_⟩
  ·intro v hv;simp only[List.mem_cons,List.not_mem_nil,or_false] at hv;rcases hv with rfl|rfl|rfl|rfl|rfl|rfl|rfl|rfl|rfl<;>trivial
  ·simp[i64s,partsOf,hm,maxI_t]
 ·refine⟨_,hrd 3 _ rfl,_,hrd 5 _ rfl,_,hrd 3 _ rfl,_,hrd 5 _ rfl,by simp,?_,by simpa using ow.2,fin _ ?_⟩
  ·intro v hv;simp only[List.mem_cons,List.not_mem_nil,or_false] at hv;rcases hv with rfl|rfl|rfl|rfl|rfl|rfl|rfl|rfl|rfl<;>trivial
  ·simp[i64s,partsOf,hm,maxI_t]
end Go.VC
namespace Go.VC
open Go Go.Proofs
variable {H:Heap}{R:Value->Heap->Prop}
def leastOf (h:Hdr):Int:=if h.mode=3 then h.len else 1
theorem partsOf_length (h:Hdr):(partsOf h).length=9:=rfl
noncomputable def slotOf (h:Hdr):Int:=(partsOf h)[8]'(by rw[partsOf_length];omega)
noncomputable def tapeOf (h:Hdr):Int:=(partsOf h)[7]'(by rw[partsOf_length];omega)
noncomputable def fixedOf (h:Hdr):Int:=((partsOf h).take 7).sum
noncomputable def slotsOf (h:Hdr):Int:=if h.mode=3 then h.len else (h.words-fixedOf h-tapeOf h) / slotOf h
noncomputable def planL (h:Hdr):List Int:=[fixedOf h,tapeOf h,slotOf h,slotsOf h]
def PlanOk (h:Hdr):Prop:=OkH h/\fixedOf h+tapeOf h+slotOf h*leastOf h<=h.words
theorem take8 (h:Hdr):((partsOf h).take 8).sum=fixedOf h+tapeOf h:=by
 have:(partsOf h).take 8=(partsOf h).take 7++[tapeOf h]:=rfl
 rw[this,List.sum_append];simp[fixedOf]
theorem parts_small {h:Hdr}(ok:OkH h):∀x∈partsOf h,0<=x/\x<=131072:=by
 have hw1:=wr_le ok.step
 have hw2:=wr_le ok.loss
 obtain⟨d1,d2,d3,_,_⟩:=ok.dims
 obtain⟨t1,g1⟩:=ok.step
 obtain⟨t2,g2⟩:=ok.loss
 have a1:=g1.regs.1;have a2:=g1.regs.2.1;have b1:=g2.regs.1;have b2:=g2.regs.2.1
 intro x hx
 simp only[partsOf,List.mem_cons,List.not_mem_nil,or_false] at hx
 rcases hx with rfl|rfl|rfl|rfl|rfl|rfl|rfl|rfl|rfl
 all_goals (try split)<;>omega
theorem small_sum {h:Hdr}(ok:OkH h)(j:Nat):0<=((partsOf h).take j).sum/\((partsOf h).take j).sum<=1179648:=by
 have:=sum_bound (B:=131072) (by omega) ((partsOf h).take j) fun x hx=>parts_small ok x (List.mem_of_mem_take hx)
 have hl:(((partsOf h).take j).length:Int)<=9:=by simp[partsOf_length];omega
 omega
theorem least_small {h:Hdr}(ok:OkH h):0<=leastOf h/\leastOf h<=65535:=by
 have:=ok.len
 unfold lenOk at this
 unfold leastOf
 split<;>(try split at this)<;>omega
theorem need_small {h:Hdr}(ok:OkH h):0<=slotOf h*leastOf h/\slotOf h*leastOf h<=8589934592:=by
 have h1:=parts_small ok (slotOf h) (List.getElem_mem _)
 have h2:=least_small ok
 refine⟨Int.mul_nonneg h1.1 h2.1,?_⟩
 have:=Int.mul_le_mul h1.2 h2.2 h2.1 (by omega)
 omega
theorem c8 (h:Hdr)(p:HAt)(r:HRows H h p)
  (k1:PlanOk h->∀H',Ext H H'->R (.tuple #[.agg (i64s (planL h)).toArray,.int .i64 0]) H') (k2:∀n H',n≠0->¬PlanOk h->Ext H H'->R (.tuple #[.agg (i64s [0,0,0,0]).toArray,.int .i64 n]) H'):Ru 8 [.agg (hdrC h p).toArray] H R:=by
 refine v8 (hdrC h p) fun H1 q n1 H2 q2 n2=>⟨hdrC h p,hdrC_length h p,n2.mod.rdL (by simp) n1.rdL,?_⟩
 have e2:=n1.mod.new n2
 have hq:=n1.lt;have hq2:=n2.ge;have hql:=n2.lt
 have err:∀(H3:Heap) (n:Int),n≠0->¬PlanOk h->Ext H H3->Own H3 q2 [.int .i64 0,.int .i64 0,.int .i64 0,.int .i64 0]->H.size<=q2->4=4/\(∀v:Value,v∈[Value.int .i64 0,.int .i64 0,.int .i64 0,.int .i64 0]->One v)/\WOk H3 q2 0 4/\
   ∀H',H'=VC.wrL H3 q2 0 [.int .i64 0,.int .i64 0,.int .i64 0,.int .i64 0]->∃cs:List Value,List.length cs=4/\RdL H' q2 0 cs/\R (.tuple #[.agg (List.toArray cs),.int .i64 n]) H':=by
  intro H3 n hn hno e3 ho hge
  refine⟨rfl,?_,ho.2,fun H' hH'=>⟨i64s [0,0,0,0],rfl,by rw[hH'];exact rdL_wrL ho.2,k2 n H' hn hno (by rw[hH'];exact e3.trans_new (Mod.refl.wrL (S:=[q2]) (.inl (by simp))) (by simpa using hge))⟩⟩
  intro v hv;simp at hv;subst hv;trivial
 refine c46 h p (r.ext e2) (fun ok H3 e3=>⟨_,rfl,by simp,fun _=>?_⟩) (fun n H3 hn hno e3=>⟨_,rfl,fun _=>err H3 n hn (fun hp=>hno hp.1) (e2.thenExt e3) (n2.own.mod e3 (by simp)) (Nat.le_trans n1.mod.1 n2.ge),fun h'=>(h' hn).elim⟩)
 have e23:=e2.thenExt e3
 have hge2:H.size<=q2:=Nat.le_trans n1.mod.1 n2.ge
 have rq:∀j v,(hdrC h p)[j]?=some v->rd H3 q j=some v:=fun j v hj=>(n2.mod.thenExt e3).rd (by simp) ((n1.rd j).trans hj)
 refine⟨hdrC h p,hdrC_length h p,(n2.mod.thenExt e3).rdL (by simp) n1.rdL,c47 h p (r.ext e23) ok fun H4 e4=>⟨i64s (partsOf h),by simp[partsOf_length],rfl,fun H5 q5 n5=>⟨by simp[partsOf_length],i64s_one,n5.own.w 0 9 rfl,fun H6 hH6=>?_⟩⟩⟩
 have hpc:RdL H6 q5 0 (i64s (partsOf h)):=by rw[hH6];exact rdL_wrL (by simpa [partsOf_length] using n5.wok)
 have e46:Ext H4 H6:=by rw[hH6];exact n5.mod.trans_new (Mod.refl.wrL (S:=[q5]) (.inl (by simp))) (by simpa using n5.ge)
 clear hH6
 have e36:=e4.thenExt e46
 have e6:=e23.thenExt e36
 have hls:=least_small ok
 have hns:=need_small ok
 have hfs:=small_sum ok 8
 rw[take8] at hfs
 refine⟨fun n H'=>n=leastOf h/\H'=H6,⟨_,e36.rd (by simp) (rq 0 _ rfl),fun hm=>⟨_,e36.rd (by simp) (rq 7 _ rfl),by unfold leastOf;rw[if_pos hm],rfl⟩,fun hm=>⟨by unfold leastOf;rw[if_neg hm],rfl⟩⟩,?_⟩
 rintro _ _ ⟨rfl,rfl⟩
 refine⟨i64s (partsOf h),by simp[partsOf_length],hpc,_,e36.rd (by simp) (rq 8 _ rfl),?_⟩
 have hsl8:(partsOf h)[8]'(by rw[partsOf_length];omega)=slotOf h:=rfl
 refine c48 (partsOf h) (partsOf_length h) (fun x hx=>by have:=parts_small ok x hx;omega) (leastOf h) ⟨by omega,by omega⟩ (by rw[hsl8,take8];exact⟨⟨by omega,by omega⟩,⟨by omega,by omega⟩⟩) fun H7 e7=>⟨_,rfl,e7.rd (by simp) (e36.rd (by simp) (rq 8 _ rfl)),fun hlt=>?_,fun hfit=>?_⟩
 ·rw[hsl8,take8] at hlt
  exact err H7 13 (by omega) (fun hp=>by have:=hp.2;omega) (e6.thenExt e7) (((n2.own.mod e3 (by simp)).mod e36 (by simp)).mod e7 (by simp)) hge2
 ·rw[hsl8,take8] at hfit
  have hpc7:=e7.rdL (by simp) hpc
  have rp:∀j (hj:j<(partsOf h).length),rd H7 q5 j=some (.int .i64 (partsOf h)[j]):=fun j hj=>by have:=rdL_get' hpc7 (i64s_get hj);rwa [Nat.zero_add] at this
  refine⟨⟨by omega,by omega⟩,tapeOf h,rp 7 (by rw[partsOf_length];omega),⟨by omega,by omega⟩,slotOf h,rp 8 (by rw[partsOf_length];omega),fun H8 p8 n8=>⟨rfl,?_,n8.own.w 0 4 rfl,fun H9 hH9=>?_⟩⟩
  ·intro v hv;simp only[List.mem_cons,List.not_mem_nil,or_false] at hv;rcases hv with rfl|rfl|rfl|rfl<;>trivial
  have ho9:Own H9 p8 [.int .i64 0,.int .i64 (tapeOf h),.int .i64 (slotOf h),.int .i64 (leastOf h)]:=by
   rw[hH9];exact⟨rdL_wrL n8.own.2,wok_wrL n8.own.2⟩
  have m9:Mod [p8] H8 H9:=by rw[hH9];exact Mod.refl.wrL (.inl (by simp))
  clear hH9
  have e79:Ext H7 H9:=n8.mod.trans_new m9 (by simpa using n8.ge)
  have z8:=n8.ge;have z67:=e7.1;have z36:=e36.1;have z23:=e3.1;have zz:=n8.lt
  have rp9:∀j (hj:j<(partsOf h).length),rd H9 q5 j=some (.int .i64 (partsOf h)[j]):=fun j hj=>e79.rd (by simp) (rp j hj)
  have hq5:q5<H7.size:=rd_lt (rp 0 (by rw[partsOf_length];omega))
  refine⟨fun n H'=>∃j:Nat,n=j/\j<=7/\Own H' p8 [.int .i64 ((partsOf h).take j).sum,.int .i64 (tapeOf h),.int .i64 (slotOf h),.int .i64 (leastOf h)]/\Mod [p8] H9 H',fun n _=>(7-n).toNat,⟨0,rfl,by omega,ho9,Mod.refl⟩,?_⟩
  rintro H10 _ ⟨j,rfl,hj,ho,m10⟩
  have hjs:=small_sum ok j
  have hq8:q5∉[p8]:=by simp;omega
  refine⟨fun hlt=>?_,fun hge=>?_⟩
  ·have hj9:j<(partsOf h).length:=by rw[partsOf_length];omega
   have hx:=parts_small ok _ (List.getElem_mem hj9)
   refine⟨_,ho.rd 0 rfl,⟨by omega,by omega⟩,_,by rw[Nat.zero_add,Nat.mul_one];exact m10.rd hq8 (rp9 j hj9),⟨by omega,by omega⟩,ho.w 0 1 rfl,fun H11 hH11=>⟨⟨by omega,by omega⟩,⟨j+1,by push_cast;rfl,by omega,?_,?_⟩,by (try dsimp only);omega⟩⟩
   ·rw[hH11,List.take_succ_eq_append_getElem hj9,List.sum_append]
    have:=ho.wr 0 (.int .i64 (((partsOf h).take j).sum+(partsOf h)[j]))
    simpa using this
   ·rw[hH11];exact m10.wr (.inl (by simp))
  ·have h7:j=7:=by omega
   subst h7
   have e10:Ext H7 H10:=e79.trans_new m10 (by simpa using z8)
   have hqq:∀k v,(hdrC h p)[k]?=some v->rd H10 q k=some v:=fun k v hk=>(e36.thenExt (e7.thenExt e10)).rd (by simp) (rq k v hk)
   have hok:PlanOk h:=⟨ok,by omega⟩
   have o2:Own H10 q2 [.int .i64 0,.int .i64 0,.int .i64 0,.int .i64 0]:=((n2.own.mod e3 (by simp)).mod e36 (by simp)).mod (e7.thenExt e10) (by simp)
   have fin:∀H11,Ext H7 H11->Own H11 q2 [.int .i64 0,.int .i64 0,.int .i64 0,.int .i64 0]->∀cs:List Value,cs=i64s (planL h)->∀H',H'=wrL H11 q2 0 cs->∃cs:List Value,List.length cs=4/\RdL H' q2 0 cs/\R (.tuple #[.agg (List.toArray cs),.int .i64 0]) H':=by
    rintro H11 e11 oo cs rfl H' hH'
    refine⟨i64s (planL h),rfl,by rw[hH'];exact rdL_wrL oo.2,k1 hok H' ?_⟩
    rw[hH'];exact ((e6.thenExt e7).thenExt e11).trans_new (Mod.refl.wrL (S:=[q2]) (.inl (by simp))) (by simpa using hge2)
   have one4:∀a b c d:Int,∀v:Value,v∈[Value.int .i64 a,.int .i64 b,.int .i64 c,.int .i64 d]->One v:=by
    intro a b c d v hv;simp only[List.mem_cons,List.not_mem_nil,or_false] at hv;rcases hv with rfl|rfl|rfl|rfl<;>trivial
   have hsl:=parts_small ok (slotOf h) (List.getElem_mem _)
   refine⟨_,hqq 0 _ rfl,fun hm=>?_,fun hm=>?_⟩
   ·have hs1:1<=slotOf h:=by
     have:slotOf h=(h.x.length:Int)+1:=by show (if h.mode=3 then _ else _)=_;rw[if_neg hm]
     omega
    have hl1:leastOf h=1:=by unfold leastOf;rw[if_neg hm]
    rw[hl1,Int.mul_one] at hfit
    have hwd:=ok.words
    have hs7:=small_sum ok 7
    have hfx:((partsOf h).take 7).sum=fixedOf h:=rfl
    rw[hfx] at hs7 ho
    have htp:=parts_small ok (tapeOf h) (List.getElem_mem _)
    refine⟨_,hqq 8 _ rfl,_,ho.rd 0 rfl,⟨by omega,by omega⟩,_,ho.rd 1 rfl,⟨by omega,by omega⟩,_,ho.rd 2 rfl,⟨by omega,by omega,by omega,by omega⟩,ho.w 3 1 rfl,fun H11 hH11=>?_⟩
    have o11:=ho.wr 3 (.int .i64 ((h.words-fixedOf h-tapeOf h) / slotOf h))
    rw[<-hH11] at o11
    have m11:Mod [p8] H10 H11:=by rw[hH11];exact Mod.refl.wr (.inl (by simp))
    have hq2p:q2∉[p8]:=by simp;omega
    refine⟨_,rfl,o11.1,rfl,one4 _ _ _ _,(o2.mod m11 hq2p).2,fun H' hH'=>fin H11 (e10.trans_new m11 (by simpa using z8)) (o2.mod m11 hq2p) _ ?_ H' hH'⟩
    simp[planL,i64s,slotsOf,hm]
   ·refine⟨_,rfl,ho.1,rfl,one4 _ _ _ _,o2.2,fun H' hH'=>fin H10 e10 o2 _ ?_ H' hH'⟩
    have hm3:=Classical.not_not.1 hm
    simp[planL,i64s,slotsOf,leastOf,hm3,fixedOf]
noncomputable def placesOf (h:Hdr):List Int:=offs (partsOf h) 9++[fixedOf h+tapeOf h+slotOf h*slotsOf h]
theorem slots_small {h:Hdr}(hp:PlanOk h):0<=slotsOf h/\slotsOf h<=1048576/\fixedOf h+tapeOf h+slotOf h*slotsOf h<=h.words/\0<=slotOf h*slotsOf h:=by
 obtain⟨ok,hfit⟩:=hp
 have hwd:=ok.words
 have hls:=least_small ok
 have hns:=need_small ok
 have hs7:=small_sum ok 7
 have hfx:((partsOf h).take 7).sum=fixedOf h:=rfl
 rw[hfx] at hs7
 have htp:=parts_small ok (tapeOf h) (List.getElem_mem _)
 have hsp:=parts_small ok (slotOf h) (List.getElem_mem _)
 unfold slotsOf
 by_cases hm:h.mode=3
 ·rw[if_pos hm]
  have hl:leastOf h=h.len:=by unfold leastOf;rw[if_pos hm]
  rw[hl] at hfit hls hns
  exact⟨by omega,by omega,hfit,hns.1⟩
 ·rw[if_neg hm]
  have hs1:1<=slotOf h:=by
   have:slotOf h=(h.x.length:Int)+1:=by show (if h.mode=3 then _ else _)=_;rw[if_neg hm]
   omega
  have hl1:leastOf h=1:=by unfold leastOf;rw[if_neg hm]
  rw[hl1,Int.mul_one] at hfit
  have h1:0<=(h.words-fixedOf h-tapeOf h) / slotOf h:=Int.ediv_nonneg (by omega) (by omega)
  have h2:(h.words-fixedOf h-tapeOf h) / slotOf h<=h.words-fixedOf h-tapeOf h:=Int.ediv_le_self _ (by omega)
  have h3:slotOf h*((h.words-fixedOf h-tapeOf h) / slotOf h)<=h.words-fixedOf h-tapeOf h:=Int.mul_ediv_self_le (by omega)
  exact⟨h1,by omega,by omega,Int.mul_nonneg (by omega) h1⟩
theorem c169 (h:Hdr)(p:HAt)(r:HRows H h p)(hp:PlanOk h)
  (k:∀a c H',Buf 1 H' H.size a 10 c (i64s (placesOf h))->Ext H H'->R (.tuple #[.slice a 10 c,.int .i64 0]) H'):Ru 169 [.agg (hdrC h p).toArray] H R:=by
 have ok:=hp.1
 obtain⟨hs0,hs1,hs2,hs3⟩:=slots_small hp
 have hwd:=ok.words
 have hs7:=small_sum ok 8
 rw[take8] at hs7
 refine v169 (hdrC h p) fun H1 q n1=>⟨hdrC h p,hdrC_length h p,n1.rdL,c8 h p (r.ext n1.mod) (fun _ H2 e2=>⟨i64s (planL h),rfl,_,rfl,fun H3 q3 n3=>⟨rfl,i64s_one,n3.own.w 0 4 rfl,fun H4 hH4=>⟨by simp,fun _=>?_⟩⟩⟩) (fun n H2 _ hno _=>(hno hp).elim)⟩
 have ho:RdL H4 q3 0 (i64s (planL h)):=by rw[hH4];exact rdL_wrL n3.own.2
 have e24:Ext H2 H4:=by rw[hH4];exact n3.mod.trans_new (Mod.refl.wrL (S:=[q3]) (.inl (by simp))) (by simpa using n3.ge)
 clear hH4
 have e4:=(n1.mod.thenExt e2).thenExt e24
 have r3:rd H4 q3 3=some (.int .i64 (slotsOf h)):=by have:=rdL_get' ho (j:=3) rfl;rwa [Nat.zero_add] at this
 refine⟨hdrC h p,hdrC_length h p,(e2.thenExt e24).rdL (by simp) n1.rdL,_,r3,c47 h p (r.ext e4) ok fun H5 e5=>⟨i64s (partsOf h),by simp[partsOf_length],rfl,e5.rd (by simp) r3,?_⟩⟩
 have hsl8:(partsOf h)[8]'(by rw[partsOf_length];omega)=slotOf h:=rfl
 refine c104 (partsOf h) (partsOf_length h) (fun x hx=>by have:=parts_small ok x hx;omega) (slotsOf h) ⟨hs0,hs1⟩ (by rw[hsl8,take8];exact⟨⟨by omega,by omega⟩,⟨by omega,by omega⟩⟩) fun a c H6 hB e6=>⟨_,_,_,rfl,?_⟩
 rw[hsl8,take8] at hB
 exact k a c H6 (hB.down (by have:=e4.1;have:=e5.1;omega)) ((e4.thenExt e5).thenExt e6)
end Go.VC
namespace Go.VC
open Go Go.Proofs
namespace Tree
def prune:Tree->Tree
 | nil=>nil
 | op o r=>op o (prune r)
 | rep o b e r=>if o.v.toNat*b.size=0 then prune r else rep o (prune b) e (prune r)
theorem size_prune:∀t:Tree,(prune t).size=t.size
 | nil=>rfl
 | op o r=>by simp[prune,size,size_prune r]
 | rep o b e r=>by
  unfold prune
  split
  ·rename_i h;simp only[size,size_prune r,h,Nat.zero_add]
  ·simp only[size,size_prune r,size_prune b]
theorem unroll_zero {o:Op}{b:Tree}(h:o.v.toNat*b.size=0):(List.replicate o.v.toNat b.unroll).flatten=[]:=by
 apply List.eq_nil_of_length_eq_zero
 rw[List.length_flatten,List.map_replicate,List.sum_replicate_nat,<-size_eq];exact h
theorem unroll_prune:∀t:Tree,(prune t).unroll=t.unroll
 | nil=>rfl
 | op o r=>by simp[prune,unroll,unroll_prune r]
 | rep o b e r=>by
  unfold prune
  split
  ·rename_i h;simp only[unroll,unroll_prune r,unroll_zero h,List.nil_append]
  ·simp only[unroll,unroll_prune r,unroll_prune b]
theorem ok_prune:∀{t:Tree},t.Ok->(prune t).Ok
 | nil,_=>trivial
 | op o r,h=>⟨h.1,h.2.1,ok_prune h.2.2⟩
 | rep o b e r,h=>by
  unfold prune
  split
  ·exact ok_prune h.2.2.2
  ·exact⟨h.1,ok_prune h.2.1,h.2.2.1,ok_prune h.2.2.2⟩
theorem depth_prune:∀t:Tree,(prune t).depth<=t.depth
 | nil=>Nat.le_refl _
 | op o r=>depth_prune r
 | rep o b e r=>by
  have h1:=depth_prune b;have h2:=depth_prune r
  unfold prune
  split<;>simp only[depth]<;>omega
theorem len_prune:∀t:Tree,(prune t).flat.length<=t.flat.length
 | nil=>Nat.le_refl _
 | op o r=>by have:=len_prune r;simp only[prune,flat,List.length_cons];omega
 | rep o b e r=>by
  have h1:=len_prune b;have h2:=len_prune r
  unfold prune
  split<;>simp only[flat,List.length_cons,List.length_append]<;>omega
def Full:Tree->Prop
 | nil=>True
 | op _ r=>Full r
 | rep o b _ r=>0<o.v.toNat/\0<b.size/\Full b/\Full r
theorem full_prune:∀t:Tree,(prune t).Full
 | nil=>trivial
 | op o r=>full_prune r
 | rep o b e r=>by
  unfold prune
  split
  ·exact full_prune r
  ·rename_i h
   refine⟨Nat.pos_of_ne_zero fun e=>h (by rw[e,Nat.zero_mul]),?_,full_prune b,full_prune r⟩
   rw[size_prune]
   exact Nat.pos_of_ne_zero fun e=>h (by rw[e,Nat.mul_zero])
theorem full_app:∀{t u:Tree},(app t u).Full<->t.Full/\u.Full
 | nil,u=>by simp[app,Full]
 | op o r,u=>by simp only[app,Full];exact full_app
 | rep o b e r,u=>by simp only[app,Full,full_app (t:=r)];simp only[and_assoc]
theorem unroll_app:∀t u:Tree,(app t u).unroll=t.unroll++u.unroll
 | nil,u=>rfl
 | op o r,u=>by simp[app,unroll,unroll_app r u]
 | rep o b e r,u=>by simp[app,unroll,unroll_app r u]
theorem app_assoc:∀t u v:Tree,app (app t u) v=app t (app u v)
 | nil,u,v=>rfl
 | op o r,u,v=>by simp[app,app_assoc r u v]
 | rep o b e r,u,v=>by simp[app,app_assoc r u v]
theorem app_nil:∀t:Tree,app t nil=t
 | nil=>rfl
 | op o r=>by simp[app,app_nil r]
 | rep o b e r=>by simp[app,app_nil r]
theorem depth_app:∀t u:Tree,(app t u).depth=max t.depth u.depth
 | nil,u=>by simp[app,depth]
 | op o r,u=>by simp[app,depth,depth_app r u]
 | rep o b e r,u=>by simp only[app,depth,depth_app r u];omega
def link:Tree->Nat->List (Op × Nat)
 | nil,_=>[]
 | op o r,n=>(o,0) ::link r (n+1)
 | rep o b e r,n=>(o,n+b.flat.length+2) :: (link b (n+1)++(e,n+1) ::link r (n+b.flat.length+2))
theorem link_length:∀(t:Tree) (n:Nat),(link t n).length=t.flat.length
 | nil,_=>rfl
 | op o r,n=>by simp[link,flat,link_length r]
 | rep o b e r,n=>by simp[link,flat,link_length r,link_length b]
theorem link_app:∀(t u:Tree) (n:Nat),link (app t u) n=link t n++link u (n+t.flat.length)
 | nil,u,n=>by simp[app,link,flat]
 | op o r,u,n=>by simp[app,link,flat,link_app r u,Nat.add_assoc,Nat.add_comm 1]
 | rep o b e r,u,n=>by
  simp only[app,link,flat,link_app r u,List.cons_append,List.append_assoc,List.length_cons,List.length_append]
  rw[show n+b.flat.length+2+r.flat.length=n+(b.flat.length+(r.flat.length+1)+1) from by omega]
theorem snoc:∀t:Tree,t=nil\/(∃u o,t=app u (op o nil))\/∃u o b e,t=app u (rep o b e nil)
 | nil=>.inl rfl
 | op o r=>by
  rcases snoc r with rfl|⟨u,x,rfl⟩|⟨u,x,b,e,rfl⟩
  ·exact .inr (.inl ⟨nil,o,rfl⟩)
  ·exact .inr (.inl ⟨op o u,x,rfl⟩)
  ·exact .inr (.inr ⟨op o u,x,b,e,rfl⟩)
 | rep o b e r=>by
  rcases snoc r with rfl|⟨u,x,rfl⟩|⟨u,x,b',e',rfl⟩
  ·exact .inr (.inr ⟨nil,o,b,e,rfl⟩)
  ·exact .inr (.inl ⟨rep o b e u,x,rfl⟩)
  ·exact .inr (.inr ⟨rep o b e u,x,b',e',rfl⟩)
def steps:Tree->Nat
 | nil=>0
 | op _ r=>1+steps r
 | rep o b _ r=>1+o.v.toNat*(steps b+1)+steps r
theorem steps_app:∀t u:Tree,(app t u).steps=t.steps+u.steps
 | nil,u=>by simp[app,steps]
 | op o r,u=>by simp[app,steps,steps_app r u];omega
 | rep o b e r,u=>by simp[app,steps,steps_app r u];omega
end Tree
structure Fw where
 k:UInt64
 o:Op
 b:Tree
 e:Op
 r:Tree
def fwRest:List Fw->List Op
 | []=>[]
 | f ::F=>(List.replicate (f.k.toNat-1) f.b.unroll).flatten++f.r.unroll++fwRest F
def fwCode:List Fw->Nat->List (Op × Nat)
 | [],_=>[]
 | f ::F,n=>(f.e,n-f.b.flat.length) :: (f.r.link (n+1)++fwCode F (n+1+f.r.flat.length))
def fwSteps:List Fw->Nat
 | []=>0
 | f ::F=>1+(f.k.toNat-1)*(f.b.steps+1)+f.r.steps+fwSteps F
def fwDepth:List Fw->Nat
 | []=>0
 | f ::F=>max (F.length+1+f.b.depth) (max (F.length+f.r.depth) (fwDepth F))
def FwOk (code:List (Op × Nat)):List Fw->Nat->Prop
 | [],_=>True
 | f ::F,n=>f.b.flat.length<=n/\code.drop (n-f.b.flat.length)=f.b.link (n-f.b.flat.length)++fwCode (f ::F) n/\0<f.k.toNat/\f.o.kind=7/\f.e.kind=0/\f.b.Full/\f.b.Ok/\f.r.Full/\f.r.Ok/\FwOk code F (n+1+f.r.flat.length)
structure FwAt (code:List (Op × Nat))(at_:Nat)(t:Tree)(F:List Fw):Prop where
 here:code.drop at_=t.link at_++fwCode F (at_+t.flat.length)
 le:at_<=code.length
 ok:t.Ok
 full:t.Full
 fr:FwOk code F (at_+t.flat.length)
 deep:F.length+t.depth<=8
 deepF:fwDepth F<=8
theorem FwAt.start {t:Tree}(h:t.Ok)(hf:t.Full)(hd:t.depth<=8):FwAt (t.link 0) 0 t []:=
 ⟨by simp[fwCode],Nat.zero_le _,h,hf,trivial,by simpa using hd,Nat.zero_le _⟩
theorem FwAt.op {code:List (Op × Nat)}{at_:Nat}{o:Op}{t:Tree}{F:List Fw}(h:FwAt code at_ (.op o t) F):code[at_]?=some (o,0)/\FwAt code (at_+1) t F:=by
 have h1:=h.here
 simp only[Tree.link,List.cons_append] at h1
 have h2:code[at_]?=some (o,0):=by rw[<-List.head?_drop,h1];rfl
 have hl:=(List.getElem?_eq_some_iff.1 h2).1
 have e:at_+(Tree.op o t).flat.length=at_+1+t.flat.length:=by simp[Tree.flat];omega
 refine⟨h2,⟨?_,by omega,h.ok.2.2,h.full,e ▸ h.fr,h.deep,h.deepF⟩⟩
 rw[<-List.drop_drop,h1,List.drop_one,List.tail_cons,e]
theorem FwAt.rep {code:List (Op × Nat)}{at_:Nat}{o e:Op}{b t:Tree}{F:List Fw}(h:FwAt code at_ (.rep o b e t) F):code[at_]?=some (o,at_+b.flat.length+2)/\FwAt code (at_+1) b (⟨o.v,o,b,e,t⟩ ::F):=by
 have h1:=h.here
 simp only[Tree.link,List.cons_append,List.append_assoc] at h1
 have h2:code[at_]?=some (o,at_+b.flat.length+2):=by rw[<-List.head?_drop,h1];rfl
 have hl:=(List.getElem?_eq_some_iff.1 h2).1
 obtain⟨f1,f2,f3,f4⟩:=h.full
 obtain⟨k1,k2,k3,k4⟩:=h.ok
 have e1:at_+(Tree.rep o b e t).flat.length=at_+1+b.flat.length+1+t.flat.length:=by simp[Tree.flat];omega
 have hd:code.drop (at_+1)=b.link (at_+1)++fwCode (⟨o.v,o,b,e,t⟩ ::F) (at_+1+b.flat.length):=by
  rw[<-List.drop_drop,h1,List.drop_one,List.tail_cons]
  simp only[fwCode]
  rw[show at_+1+b.flat.length-b.flat.length=at_+1 from by omega,show at_+b.flat.length+2=at_+1+b.flat.length+1 from by omega,e1]
 have hdp:=h.deep
 simp only[Tree.depth] at hdp
 refine⟨h2,⟨hd,by omega,k2,f3,⟨Nat.le_add_left _ _,?_,f1,k1,k3,f3,k2,f4,k4,e1 ▸ h.fr⟩,?_,?_⟩⟩
 ·rw[show at_+1+b.flat.length-b.flat.length=at_+1 from by omega];exact hd
 ·simp only[List.length_cons];omega
 ·have:=h.deepF;simp only[fwDepth];omega
theorem FwAt.end_ {code:List (Op × Nat)}{at_:Nat}{f:Fw}{F:List Fw}(h:FwAt code at_ .nil (f ::F)) :
  code[at_]?=some (f.e,at_-f.b.flat.length)/\(1<f.k.toNat->FwAt code (at_-f.b.flat.length) f.b ({ f with k:=f.k-1 } ::F))/\FwAt code (at_+1) f.r F:=by
 have h1:=h.here
 have h3:=h.fr
 simp only[Tree.link,List.nil_append,Tree.flat,List.length_nil,Nat.add_zero,fwCode] at h1 h3
 obtain⟨g1,g2,g3,g4,g5,g6,g7,g8,g9,g10⟩:=h3
 have h2:code[at_]?=some (f.e,at_-f.b.flat.length):=by rw[<-List.head?_drop,h1];rfl
 have hl:=(List.getElem?_eq_some_iff.1 h2).1
 have hdp:=h.deepF
 simp only[fwDepth] at hdp
 refine⟨h2,fun hk=>⟨?_,by omega,g7,g6,?_,?_,?_⟩,⟨?_,by omega,g9,g8,g10,by omega,by omega⟩⟩
 ·rw[show at_-f.b.flat.length+f.b.flat.length=at_ from by omega];exact g2
 ·rw[show at_-f.b.flat.length+f.b.flat.length=at_ from by omega]
  refine⟨g1,g2,?_,g4,g5,g6,g7,g8,g9,g10⟩
  show 0<(f.k-1).toNat
  rw[UInt64.toNat_sub_of_le _ _ (by rw[UInt64.le_iff_toNat_le];simp;omega)];simp;omega
 ·simp only[List.length_cons];omega
 ·simp only[fwDepth];omega
 ·rw[<-List.drop_drop,h1,List.drop_one,List.tail_cons]
theorem FwAt.done {code:List (Op × Nat)}{at_:Nat}(h:FwAt code at_ .nil []):at_=code.length:=by
 have h1:=congrArg List.length h.here
 simp[Tree.link,fwCode] at h1
 have:=h.le;omega
theorem u64_pred {k:UInt64}(h:0<k.toNat):(k-1).toNat=k.toNat-1:=by
 rw[UInt64.toNat_sub_of_le _ _ (by rw[UInt64.le_iff_toNat_le];simp;omega)];simp
structure Bk where
 k:UInt64
 o:Op
 b:Tree
 e:Op
 l:Tree
def bkRest:List Bk->List Op
 | []=>[]
 | f ::F=>(List.replicate (f.k.toNat-1) f.b.unroll.reverse).flatten++f.l.unroll.reverse++bkRest F
def bkCode:List Bk->List (Op × Nat)
 | []=>[]
 | f ::F=>bkCode F++f.l.link (bkCode F).length++[(f.o,(bkCode F).length+f.l.flat.length+f.b.flat.length+2)]
def bkSteps:List Bk->Nat
 | []=>0
 | f ::F=>1+(f.k.toNat-1)*(f.b.steps+1)+f.l.steps+bkSteps F
def bkDepth:List Bk->Nat
 | []=>0
 | f ::F=>max (F.length+1+f.b.depth) (max (F.length+f.l.depth) (bkDepth F))
def BkOk (code:List (Op × Nat)):List Bk->Prop
 | []=>True
 | f ::F=>code.take ((bkCode (f ::F)).length+f.b.flat.length)=bkCode (f ::F)++f.b.link (bkCode (f ::F)).length/\(bkCode (f ::F)).length+f.b.flat.length<=code.length/\0<f.k.toNat/\f.o.kind=7/\f.b.Full/\f.b.Ok/\f.l.Full/\f.l.Ok/\BkOk code F
structure BkAt (code:List (Op × Nat))(n:Nat)(t:Tree)(F:List Bk):Prop where
 here:code.take n=bkCode F++t.link (bkCode F).length
 le:n<=code.length
 ok:t.Ok
 full:t.Full
 fr:BkOk code F
 deep:F.length+t.depth<=8
 deepF:bkDepth F<=8
theorem BkAt.len {code:List (Op × Nat)}{n:Nat}{t:Tree}{F:List Bk}(h:BkAt code n t F):n=(bkCode F).length+t.flat.length:=by
 have h1:=congrArg List.length h.here
 simp[Tree.link_length] at h1
 have:=h.le;omega
theorem BkAt.start {t:Tree}(h:t.Ok)(hf:t.Full)(hd:t.depth<=8):BkAt (t.link 0) (t.link 0).length t []:=
 ⟨by simp[bkCode],Nat.le_refl _,h,hf,trivial,by simpa using hd,Nat.zero_le _⟩
theorem Tree.ok_app_iff:∀{t u:Tree},(t.app u).Ok<->t.Ok/\u.Ok
 | .nil,u=>by simp[app,Ok]
 | .op o r,u=>by simp only[app,Ok,ok_app_iff (t:=r),and_assoc]
 | .rep o b e r,u=>by simp only[app,Ok,ok_app_iff (t:=r),and_assoc]
theorem take_pred {α:Type}{l a:List α}{x:α}{n:Nat}(h:l.take n=a++[x])(hn:n<=l.length):∃m,n=m+1/\m=a.length/\l[m]?=some x/\l.take m=a:=by
 have h1:=congrArg List.length h
 simp at h1
 refine⟨n-1,by omega,by omega,?_,?_⟩
 ·have:(l.take n)[n-1]?=some x:=by rw[h,List.getElem?_append_right (by omega)];simp[show n-1-a.length=0 from by omega]
  rwa [List.getElem?_take_of_lt (by omega)] at this
 ·have:(l.take n).take (n-1)=a:=by rw[h,List.take_append_of_le_length (by omega),List.take_of_length_le (by omega)]
  rwa [List.take_take,Nat.min_eq_left (by omega)] at this
theorem BkAt.op {code:List (Op × Nat)}{n:Nat}{o:Op}{t:Tree}{F:List Bk}(h:BkAt code n (t.app (.op o .nil)) F):∃m,n=m+1/\code[m]?=some (o,0)/\BkAt code m t F:=by
 have h1:=h.here
 rw[Tree.link_app,<-List.append_assoc] at h1
 simp only[Tree.link] at h1
 obtain⟨m,e1,e2,e3,e4⟩:=take_pred h1 h.le
 have hk:=Tree.ok_app_iff.1 h.ok
 have hf:=Tree.full_app.1 h.full
 have hd:=h.deep
 have hle:=h.le
 rw[Tree.depth_app] at hd
 exact⟨m,e1,e3,⟨e4,by omega,hk.1,hf.1,h.fr,by omega,h.deepF⟩⟩
theorem BkAt.rep {code:List (Op × Nat)}{n:Nat}{o e:Op}{b t:Tree}{F:List Bk}(h:BkAt code n (t.app (.rep o b e .nil)) F) :
  ∃m,n=m+1/\code[m]?=some (e,(bkCode F).length+t.flat.length+1)/\(∃x,code[(bkCode F).length+t.flat.length]?=some (o,x))/\BkAt code m b (⟨o.v,o,b,e,t⟩ ::F):=by
 have h1:=h.here
 rw[Tree.link_app,<-List.append_assoc] at h1
 simp only[Tree.link] at h1
 have hk:=Tree.ok_app_iff.1 h.ok
 have hf:=Tree.full_app.1 h.full
 obtain⟨f1,f2,f3,_⟩:=hf.2
 obtain⟨k1,k2,k3,_⟩:=hk.2
 have hd:=h.deep
 have hle:=h.le
 rw[Tree.depth_app] at hd
 simp only[Tree.depth] at hd
 have e0:bkCode (⟨o.v,o,b,e,t⟩ ::F)=bkCode F++t.link (bkCode F).length++[(o,(bkCode F).length+t.flat.length+b.flat.length+2)]:=rfl
 have el:(bkCode (⟨o.v,o,b,e,t⟩ ::F)).length=(bkCode F).length+t.flat.length+1:=by rw[e0];simp[Tree.link_length];omega
 have h2:code.take n=(bkCode (⟨o.v,o,b,e,t⟩ ::F)++b.link (bkCode (⟨o.v,o,b,e,t⟩ ::F)).length)++[(e,(bkCode F).length+t.flat.length+1)]:=by
  rw[h1,el,e0];simp
 obtain⟨m,e1,e2,e3,e4⟩:=take_pred h2 h.le
 have hm:m=(bkCode (⟨o.v,o,b,e,t⟩ ::F)).length+b.flat.length:=by rw[e2];simp[Tree.link_length]
 refine⟨m,e1,e3,⟨(bkCode F).length+t.flat.length+b.flat.length+2,?_⟩,⟨e4,by omega,k2,f3,⟨hm ▸ e4,by rw[<-hm];omega,f1,k1,f3,k2,hf.1,hk.1,h.fr⟩,by simp only[List.length_cons];omega,?_⟩⟩
 ·have:(code.take m)[(bkCode F).length+t.flat.length]?=some (o,(bkCode F).length+t.flat.length+b.flat.length+2):=by
   rw[e4,List.getElem?_append_left (by omega),e0,List.getElem?_append_right (by simp[Tree.link_length])]
   simp[Tree.link_length]
  rwa [List.getElem?_take_of_lt (by omega)] at this
 ·have:=h.deepF;simp only[bkDepth];omega
theorem BkAt.end_ {code:List (Op × Nat)}{n:Nat}{f:Bk}{F:List Bk}(h:BkAt code n .nil (f ::F)) :
  ∃m,n=m+1/\code[m]?=some (f.o,n+f.b.flat.length+1)/\(1<f.k.toNat->BkAt code (n+f.b.flat.length) f.b ({ f with k:=f.k-1 } ::F))/\BkAt code m f.l F:=by
 have h1:=h.here
 have hlen:=h.len
 simp only[Tree.link,List.append_nil,Tree.flat,List.length_nil,Nat.add_zero] at h1 hlen
 have e0:bkCode (f ::F)=bkCode F++f.l.link (bkCode F).length++[(f.o,(bkCode F).length+f.l.flat.length+f.b.flat.length+2)]:=rfl
 have el:(bkCode (f ::F)).length=(bkCode F).length+f.l.flat.length+1:=by rw[e0];simp[Tree.link_length];omega
 obtain⟨g1,g2,g3,g4,g5,g6,g7,g8,g9⟩:=h.fr
 rw[e0] at h1
 obtain⟨m,e1,e2,e3,e4⟩:=take_pred h1 h.le
 have hdp:=h.deepF
 have hd:=h.deep
 have hle:=h.le
 simp only[bkDepth] at hdp
 refine⟨m,e1,?_,fun hk=>⟨?_,by omega,g6,g5,⟨g1,g2,?_,g4,g5,g6,g7,g8,g9⟩,by simp only[List.length_cons];omega,by simp only[bkDepth];omega⟩,⟨e4,by omega,g8,g7,g9,by omega,by omega⟩⟩
 ·rw[e3,hlen,el];congr 2;omega
 ·rw[hlen];exact g1
 ·show 0<(f.k-1).toNat
  rw[u64_pred g3];omega
end Go.VC
namespace Go.VC
open Go Go.Proofs
variable {H:Heap}{R:Value->Heap->Prop}
def Apart (a:Option Addr)(c:Nat)(a':Option Addr)(c':Nat):Prop:=∀b,0<c->0<c'->a=some ⟨b,0,none⟩->a'=some ⟨b,0,none⟩->False
theorem Buf.keep2 {sz:Nat}{S:List Nat}{H H':Heap}{n:Nat}{a:Option Addr}{l c:Nat}{cells:List Value}(h:Buf sz H n a l c cells)(k:Mod S H H')(hs:0<c->∀b,a=some ⟨b,0,none⟩->b∉S):Buf sz H' n a l c cells:=by
 refine⟨h.len,h.le,?_⟩
 rcases h.ok with h0|⟨b,e,hb,hr,hw⟩
 ·exact .inl h0
 ·by_cases h0:c=0
  ·subst h0;exact .inl (by simp)
  ·have hn:=hs (by omega) b e
   exact .inr ⟨b,e,hb,k.rdL hn hr,k.wok hn hw⟩
theorem Buf.lt {sz:Nat}{H:Heap}{n:Nat}{b l c:Nat}{cells:List Value}(h:Buf sz H n (some ⟨b,0,none⟩) l c cells)(hc:0<c)(hz:0<sz):b<H.size:=by
 rcases h.ok with h0|⟨b',e,_,_,hw⟩
 ·exact absurd h0 (Nat.ne_of_gt (Nat.mul_pos hc hz))
 ·cases e
  have:=hw 0 (Nat.mul_pos hc hz)
  exact rdsome_lt this.1
theorem Buf.app2 {sz bytes e:Nat}{z:List Value}{H:Heap}{n:Nat}{a:Option Addr}{l c m:Nat}{cells new:List Value}{K:Option Addr->Nat->Nat->Heap->Prop}{sz2:Nat}{a2:Option Addr}{l2 c2:Nat}{cells2:List Value}
  (h:Buf sz H n a l c cells) (h2:Buf sz2 H n a2 l2 c2 cells2) (hap:Apart a c a2 c2) (p1:0<sz) (p2:0<sz2)
  (hn:n<=H.size) (hm:new.length=m*sz) (hz:z.length=sz) (ho:∀v∈new,One v) (hf:(2*(l+m)+512)*bytes<=281474976710656) (hb:l+m<9223372036854775808)
  (k:∀a' c' H' S,Buf sz H' n a' (l+m) c' (cells++new)->Buf sz2 H' n a2 l2 c2 cells2->Apart a' c' a2 c2->Mod S H H'->(∀b∈S,n<=b/\b<H.size/\0<c/\a=some ⟨b,0,none⟩)->K a' (l+m) c' H'):App sz bytes e z H a l c m new K:=by
 refine h.app' hn hm hz ho hf hb fun a' c' H' S hB hM hS hA=>?_
 refine k a' c' H' S hB (h2.keep2 hM fun hc b e hbS=>?_) (fun b q1 q2 e1 e2=>?_) hM fun b hb=>?_
 ·obtain⟨_,hc',e'⟩:=hS b hbS
  exact hap b hc' hc e' e
 ·rcases hA with ⟨rfl,rfl⟩|⟨p,rfl,hp⟩
  ·exact hap b q1 q2 e1 e2
  ·cases e1
   subst e2
   have:=h2.lt q2 p2;omega
 ·obtain⟨_,hc',e'⟩:=hS b hb
  subst e'
  exact⟨(hS b hb).1,h.lt hc' p1,hc',rfl⟩
theorem Apart.symm {a a':Option Addr}{c c':Nat}(h:Apart a c a' c'):Apart a' c' a c:=fun b h1 h2 e1 e2=>h b h2 h1 e2 e1
theorem drop_head {α:Type}{l:List α}{k:Nat}{x:α}{r:List α}(h:l.drop k=x ::r):∃hk:k<l.length,l[k]=x/\l.drop (k+1)=r:=by
 have h2:l[k]?=some x:=by rw[<-List.head?_drop,h];rfl
 obtain⟨hk,e⟩:=List.getElem?_eq_some_iff.1 h2
 exact⟨hk,e,by rw[<-List.drop_drop,h];rfl⟩
def insC (l:List (Op × Nat)):List Value:=l.flatMap fun x=>opC x.1++[.int .i64 (x.2:Int)]
theorem insC_app (l m:List (Op × Nat)):insC (l++m)=insC l++insC m:=by simp[insC]
theorem insC_one1 (o:Op)(n:Nat):insC [(o,n)]=opC o++[.int .i64 (n:Int)]:=by simp[insC]
theorem insC_length (l:List (Op × Nat)):(insC l).length=l.length*6:=by
 induction l with
 | nil=>rfl
 | cons x l ih=>
  simp only[insC] at ih
  simp only[insC,List.flatMap_cons,List.length_append,List.length_cons,List.length_nil,opC_length,ih];omega
theorem insC_set (A:List (Op × Nat))(o:Op)(n m:Nat)(B:List (Op × Nat)):(insC (A++(o,n) ::B)).set (A.length*6+5) (.int .i64 (m:Int))=insC (A++(o,m) ::B):=by
 have e:∀j,insC (A++(o,j) ::B)=(insC A++opC o)++.int .i64 (j:Int) ::insC B:=by intro j;simp[insC]
 rw[e,e,List.set_append_right _ _ (by simp[insC_length,opC_length])]
 have:A.length*6+5-(insC A++opC o).length=0:=by simp[insC_length,opC_length]
 rw[this];rfl
theorem insC_one (o:Op)(x:Int):∀v∈opC o++[.int .i64 x],One v:=by
 intro v hv
 rcases List.mem_append.1 hv with h|h
 ·exact opC_one v h
 ·simp at h;subst h;trivial
abbrev Opn:=List (Tree × Op × Op × Tree)
def base:Opn->List (Op × Nat)
 | []=>[]
 | (s,o,_,_) ::F=>base F++s.link (base F).length++[(o,0)]
def opens:Opn->List Nat
 | []=>[]
 | (s,_,_,_) ::F=>opens F++[(base F).length+s.flat.length]
def restO:Opn->List Op
 | []=>[]
 | (_,_,e,r) ::F=>e :: (r.flat++restO F)
def restZ:Opn->List Int
 | []=>[]
 | (_,_,_,r) ::F=>0 :: (sizesT r++restZ F)
def RestM:Opn->Nat->List Int->Prop
 | [],_,_=>True
 | (_,_,_,r) ::F,i,X=>∃m X',X=m :: (matchT r (i+1)++X')/\RestM F (i+1+r.flat.length) X'
def plug:Opn->Tree->Tree
 | [],u=>u
 | (s,o,e,r) ::F,u=>plug F (s.app (.rep o u e r.prune))
def OpnOk:Opn->Prop
 | []=>True
 | (_,o,e,r) ::F=>o.kind=7/\e.kind=0/\r.Ok/\OpnOk F
theorem opens_length (F:Opn):(opens F).length=F.length:=by
 induction F with
 | nil=>rfl
 | cons f F ih=>obtain⟨s,o,e,r⟩:=f;simp[opens,ih]
structure CW (H0 H:Heap)(ops:List Op)(P:Tree)(S M:List Int)(a3:Option Addr)(l3 c3:Nat)(a4:Option Addr)(l4 c4:Nat)(k:Nat)(u t:Tree)(F:Opn)(X:List Int):Prop where
 le:k<=ops.length
 ho:ops.drop k=t.flat++restO F
 hs:S.drop k=sizesT t++restZ F
 hm:M.drop k=matchT t k++X
 hr:RestM F (k+t.flat.length) X
 pl:plug F (u.app t.prune)=P.prune
 tok:t.Ok
 fok:OpnOk F
 hl3:l3=(base F).length+u.flat.length
 few:l3<=k
 code:Buf 6 H H0.size a3 l3 c3 (insC (base F++u.link (base F).length))
 hl4:l4=F.length
 few4:l4<=k
 opn:Buf 1 H H0.size a4 l4 c4 (i64s (natsI (opens F)))
 ap:Apart a3 c3 a4 c4
 ext:Ext H0 H
theorem natsI_app (l m:List Nat):natsI (l++m)=natsI l++natsI m:=by simp[natsI]
theorem RowI.idxn {H:Heap}{a:Option Addr}{l:Nat}{xs:List Int}(h:RowI H a l xs){i:Nat}{x:Int}(hx:xs[i]?=some x){K:Int->Prop}(hk:K x):∃b o,At a b o/\((0:Int)<=i/\(i:Int)<l)/\∃n,rd H b (o+(i:Int).toNat)=some (.int .i64 n)/\K n:=by
 obtain⟨hi,e⟩:=List.getElem?_eq_some_iff.1 hx
 have hl:=h.len
 refine RowI.idx h (by omega) (by omega) ?_
 simpa [e] using hk
theorem c129 {p:Prog}{a:Option Addr}{l c:Nat}(h:RowO H a l p.ops)(hl:l<=4398046511104){t:Tree}(g:GoodP p t)
  (k:∀H',Ext H H'->R (.int .i64 0) H'):Ru 129 [.agg (progC p a l c).toArray] H R:=by
 have hln:=h.len
 subst hln
 refine v129 (progC p a p.ops.length c) fun H1 q n1=>⟨pC (p,a,c),rfl,n1.rdL,rfl,fun H2 q2 n2=>?_⟩
 have e2:=n1.mod.new n2
 refine c133 (L:=[(p,a,c)]) ⟨rfl,.inr ⟨q2,0,rfl,by simpa using n2.rdL⟩⟩ (by simp) ?_ (fun _ H' e=>⟨_,rfl,k H' (e2.thenExt e)⟩) (fun n H' hn hall e=>(hall ?_).elim)
 ·intro x hx
  simp only[List.mem_cons,List.not_mem_nil,or_false] at hx
  subst hx
  exact⟨Ext.row e2 h,hl⟩
 ·intro x hx
  simp only[List.mem_cons,List.not_mem_nil,or_false] at hx
  subst hx
  exact⟨t,g⟩
theorem c216 {p:Prog}{a:Option Addr}{l c:Nat}(h:RowO H a l p.ops)(hl:l<=4398046511104){P:Tree}(g:GoodP p P)
  (k:∀a' l' c' H',Buf 6 H' H.size a' l' c' (insC (P.prune.link 0))->Ext H H'->R (.tuple #[.slice a' l' c',.int .i64 0]) H'):Ru 216 [.agg (progC p a l c).toArray] H R:=by
 have hlen:=h.len
 have hfew:=g.form.1
 have hPl:P.flat.length=p.ops.length:=by rw[g.flat]
 refine v216 (progC p a l c) fun H1 q n1=>⟨progC p a l c,rfl,n1.rdL,c129 (Ext.row n1.mod h) hl g fun H2 e2=>⟨_,rfl,by simp,fun _=>?_⟩⟩
 have r2:=e2.rd (by simp) (n1.rd 1)
 have e12:=n1.mod.thenExt e2
 refine⟨_,_,_,r2,c130 (Ext.row e12 h) hl (fun H3 t a1 ht hf e3 hM=>?_) (fun H3 hs _=>(hs ((scan_iff _).2 ⟨P,g.ok,g.flat⟩)).elim)⟩
 obtain rfl:=flat_inj ht g.ok (hf.trans g.flat.symm)
 have r3:=e3.rd (by simp) r2
 have e13:=e12.thenExt e3
 refine⟨_,_,_,_,rfl,_,_,_,r3,c131 (Ext.row e13 h) hl g.ok g.flat g.size g.few fun H4 t' a2 ht' hf' e4 hS=>?_⟩
 obtain rfl:=flat_inj ht' g.ok (hf'.trans g.flat.symm)
 have r4:=e4.rd (by simp) r3
 have e14:=e13.thenExt e4
 have rowM:RowI H4 a1 l (matchT t' 0):=Ext.row e4 hM.row
 have rowS:RowI H4 a2 l (sizesT t'):=hS.row
 have rowO:RowO H4 a l p.ops:=Ext.row e14 h
 refine⟨_,_,_,_,rfl,fun a3 l3 c3 a4 l4 c4 n H'=>∃k u t F X,n=(k:Nat)/\CW H4 H' p.ops t' (sizesT t') (matchT t' 0) a3 l3 c3 a4 l4 c4 k u t F X,fun _ _ _ _ _ _ n _=>(l-n).toNat,
  ⟨0,.nil,t',[],[],rfl,⟨Nat.zero_le _,by simp[restO,g.flat],by simp[restZ],by simp,trivial,rfl,g.ok,trivial,rfl,Nat.le_refl _,Buf.nil,rfl,Nat.le_refl _,Buf.nil,by intro b h;omega,Mod.refl⟩⟩,?_⟩
 rintro H5 a3 l3 c3 a4 l4 c4 _ ⟨i,u,t,F,X,rfl,W⟩
 obtain⟨wle,who,whs,whm,whr,wpl,wtok,wfok,wl3,wfew,wcode,wl4,wfew4,wopn,wap,wext⟩:=W
 refine⟨_,_,_,wext.rd (by simp) r4,fun hlt=>⟨_,_,_,wext.rd (by simp) r4,?_⟩,fun hge=>?_⟩
 rotate_left
 ·have hi:i=p.ops.length:=by omega
  rw[hi,List.drop_length] at who
  have h1:t.flat=[]:=(List.append_eq_nil_iff.1 who.symm).1
  have h2:restO F=[]:=(List.append_eq_nil_iff.1 who.symm).2
  have ht0:t=.nil:=by
   cases t with
   | nil=>rfl
   | op _ _=>cases h1
   | rep _ _ _ _=>cases h1
  have hF0:F=[]:=by
   cases F with
   | nil=>rfl
   | cons f F=>simp[restO] at h2
  subst ht0;subst hF0
  simp only[plug,Tree.prune,Tree.app_nil] at wpl
  subst wpl
  simp only[base,List.nil_append,List.length_nil] at wcode
  exact k _ _ _ _ (wcode.down e14.1) (e14.thenExt wext)
 have hi:i<p.ops.length:=by omega
 have hz4:=wext.1
 refine RowO.load (Ext.row wext rowO) (by omega) hlt rfl fun H6 q6 hO e6 hq6 hql=>?_
 simp only[Int.toNat_natCast] at hO
 have wcode6:=wcode.ext e6
 have wopn6:=wopn.ext e6
 have ext6:=wext.thenExt e6
 have hz6:=e6.1
 match t,F with
 | .nil,[]=>
  simp only[Tree.flat,restO,List.append_nil] at who
  have:=congrArg List.length who
  simp at this;omega
 | .nil,(s,o,e,r) ::F=>
  simp only[Tree.flat,restO,List.nil_append] at who
  obtain⟨_,ho1,ho2⟩:=drop_head who
  simp only[sizesT,restZ,List.nil_append] at whs
  obtain⟨_,_,hs2⟩:=drop_head whs
  simp only[matchT,List.nil_append,Tree.flat,List.length_nil,Nat.add_zero] at whm whr
  obtain⟨m,X',rfl,hr2⟩:=whr
  obtain⟨_,_,hm2⟩:=drop_head whm
  obtain⟨ok1,ok2,ok3,ok4⟩:=wfok
  rw[ho1] at hO
  have hk0:=hO.rd 0 rfl
  refine⟨fun c' H'=>c'=false/\H'=H6,⟨_,hk0,fun h'=>by omega,fun _=>⟨rfl,rfl⟩⟩,?_⟩
  rintro H6 c' ⟨rfl,rfl⟩
  refine⟨fun h'=>(by cases h'),fun _=>⟨_,hk0,fun h'=>by omega,fun _=>⟨_,hk0,fun _=>?_,fun h'=>(h' ok2).elim⟩⟩⟩
  simp only[opens,natsI_app,i64s_append] at wopn6
  have hl4:l4=F.length+1:=by rw[wl4];rfl
  subst hl4
  have hlo:(i64s (natsI (opens F))).length=F.length:=by simp[natsI,opens_length]
  have hlb:(base ((s,o,e,r) ::F)).length=(base F).length+s.flat.length+1:=by simp[base,Tree.link_length];omega
  rw[hlb] at wl3
  subst wl3
  obtain⟨bo,eo,hob,hor,how⟩:∃b,a4=some ⟨b,0,none⟩/\H4.size<=b/\RdL H6 b 0 (i64s (natsI (opens F))++i64s (natsI [(base F).length+s.flat.length]))/\WOk H6 b 0 (c4*1):=by
   rcases wopn6.ok with h0|h0
   ·have:=wopn6.le;omega
   ·exact h0
  have hro:rd H6 bo F.length=some (.int .i64 (((base F).length+s.flat.length:Nat):Int)):=by
   have:=(rdL_append.1 hor).2
   rw[hlo,Nat.zero_add] at this
   exact this.1
  have ele:(((F.length+1:Nat):Int)-1).toNat=F.length:=by omega
  obtain⟨bc,ec,hcb,hcr,hcw⟩:∃b,a3=some ⟨b,0,none⟩/\H4.size<=b/\RdL H6 b 0 (insC (base ((s,o,e,r) ::F)++u.link (base ((s,o,e,r) ::F)).length))/\WOk H6 b 0 (c3*6):=by
   rcases wcode6.ok with h0|h0
   ·have:=wcode6.le;omega
   ·exact h0
  have hle3:=wcode6.le
  have hle4:=wopn6.le
  refine⟨⟨by omega,by omega⟩,bo,0,eo,⟨by omega,by omega⟩,_,by rw[ele,Nat.zero_add];exact hro,⟨by omega,by omega⟩,⟨by omega,by omega⟩,⟨by omega,by omega⟩,bc,0,ec,⟨by omega,by omega⟩,?_,?_⟩
  ·rw[Nat.zero_add,Int.toNat_natCast];exact wok_sub hcw (by omega) (by omega)
  rintro H7 rfl
  rw[Int.toNat_natCast,Nat.zero_add,ele]
  have hbcl:bc<H5.size:=by subst ec;exact wcode.lt (by omega) (by omega)
  have m7:Mod [bc] H6 (wr H6 bc (((base F).length+s.flat.length)*6+5) (.int .i64 (((((base F).length+s.flat.length+1+u.flat.length:Nat):Int)+1)))):=Mod.refl.wr (.inl (by simp))
  have hcode7:RdL (wr H6 bc (((base F).length+s.flat.length)*6+5) (.int .i64 (((((base F).length+s.flat.length+1+u.flat.length:Nat):Int)+1)))) bc 0 (insC ((base F++s.link (base F).length)++(o,(base F).length+s.flat.length+1+u.flat.length+1) ::u.link ((base F).length+s.flat.length+1))):=by
   have h1:=rdL_wr_set (k:=((base F).length+s.flat.length)*6+5) (v:=.int .i64 (((((base F).length+s.flat.length+1+u.flat.length:Nat):Int)+1))) hcr
   rw[Nat.zero_add,hlb] at h1
   have h2:base ((s,o,e,r) ::F)++u.link ((base F).length+s.flat.length+1)=(base F++s.link (base F).length)++(o,0) ::u.link ((base F).length+s.flat.length+1):=by simp[base]
   have hl5:(base F++s.link (base F).length).length=(base F).length+s.flat.length:=by simp[Tree.link_length]
   rw[h2,show ((((base F).length+s.flat.length+1+u.flat.length:Nat):Int)+1)=(((base F).length+s.flat.length+1+u.flat.length+1:Nat):Int) from by push_cast;rfl,<-hl5,insC_set,hl5] at h1
   rw[show ((((base F).length+s.flat.length+1+u.flat.length:Nat):Int)+1)=(((base F).length+s.flat.length+1+u.flat.length+1:Nat):Int) from by push_cast;rfl]
   exact h1
  have wopn7:=(wopn6.keep2 m7 (by
   intro hc b e' hb
   simp at hb;subst hb
   exact wap b (by omega) hc ec e'))
  have hO7:=hO.mod m7 (by simp;intro e';subst e';omega)
  have ext7:Ext H4 _:=ext6.trans_new m7 (by simpa using hcb)
  have hcw7:WOk (wr H6 bc (((base F).length+s.flat.length)*6+5) (.int .i64 (((((base F).length+s.flat.length+1+u.flat.length:Nat):Int)+1)))) bc 0 (c3*6):=wok_wr hcw
  have hz7:=m7.1
  generalize wr H6 bc (((base F).length+s.flat.length)*6+5) (.int .i64 (((((base F).length+s.flat.length+1+u.flat.length:Nat):Int)+1)))=H7 at *
  have wcode7:Buf 6 H7 H4.size a3 ((base F).length+s.flat.length+1+u.flat.length) c3 (insC ((base F++s.link (base F).length)++(o,(base F).length+s.flat.length+1+u.flat.length+1) ::u.link ((base F).length+s.flat.length+1))):=by
   refine⟨?_,hle3,.inr ⟨bc,ec,hcb,hcode7,hcw7⟩⟩
   rw[insC_length];simp[Tree.link_length];omega
  refine⟨_,rfl,hO7.1,⟨by omega,by omega⟩,rfl,rfl,fun H8 q8 n8=>?_⟩
  have hset:(opC e++[Value.int .i64 0]).set 5 (.int .i64 ((((base F).length+s.flat.length:Nat):Int)+1))++[]=insC [(e,(base F).length+s.flat.length+1)]:=by
   rw[insC_one1,List.append_nil];simp[opC]
  rw[hset] at n8
  refine⟨_,rfl,.inr ⟨q8,0,rfl,n8.rdL⟩,?_⟩
  have wopn7':Buf 1 H7 H4.size a4 F.length c4 (i64s (natsI (opens F))):=wopn7.shrink (by omega) (by omega)
  refine (wcode7.ext n8.mod).app2 (wopn7'.ext n8.mod) wap (by omega) (by omega) (Nat.le_trans (Nat.le_trans hz4 (Nat.le_trans hz6 hz7)) n8.mod.1) (by rw[insC_length];simp) rfl ?_ (by omega) (by omega) fun a9 c9 H9 S hB9 hO9 hA9 hM9 hS9=>?_
  ·intro v hv;rw[insC_one1] at hv;exact insC_one _ _ v hv
  refine⟨⟨by omega,by omega⟩,⟨i+1,s.app (.rep o u e .nil),r,F,X',by push_cast;rfl,⟨by omega,ho2,hs2,hm2,hr2,?_,ok3,ok4,?_,by omega,?_,rfl,by omega,hO9,hA9,(ext7.new n8).trans_new hM9 fun b hb=>.inr (hS9 b hb).1⟩⟩,by (try dsimp only);omega⟩
  ·rw[Tree.app_assoc];simp only[Tree.app];simpa [plug,Tree.prune,Tree.app_nil] using wpl
  ·rw[Tree.flat_app];simp[Tree.flat];omega
  ·rw[Tree.link_app]
   simp only[Tree.link]
   rw[<-insC_app] at hB9
   have e1:(base F).length+s.flat.length+u.flat.length+2=(base F).length+s.flat.length+1+u.flat.length+1:=by omega
   rw[e1]
   simpa using hB9
 | .op o r,F=>
  simp only[Tree.flat,List.cons_append] at who
  obtain⟨_,ho1,ho2⟩:=drop_head who
  simp only[sizesT,List.cons_append] at whs
  obtain⟨_,_,hs2⟩:=drop_head whs
  simp only[matchT,List.cons_append] at whm
  obtain⟨_,_,hm2⟩:=drop_head whm
  obtain⟨ok1,ok2,ok3⟩:=wtok
  rw[ho1] at hO
  have hk0:=hO.rd 0 rfl
  refine⟨fun c' H'=>c'=false/\H'=H6,⟨_,hk0,fun h'=>by omega,fun _=>⟨rfl,rfl⟩⟩,?_⟩
  rintro H6 c' ⟨rfl,rfl⟩
  refine⟨fun h'=>(by cases h'),fun _=>⟨_,hk0,fun h'=>by omega,fun _=>⟨_,hk0,fun h'=>by omega,fun _=>⟨_,rfl,hO.1,rfl,rfl,fun H8 q8 n8=>?_⟩⟩⟩⟩
  have hset:(opC o++[Value.int .i64 0])++[]=insC [(o,0)]:=by
   rw[insC_one1,List.append_nil];rfl
  rw[hset] at n8
  refine⟨_,rfl,.inr ⟨q8,0,rfl,n8.rdL⟩,?_⟩
  refine (wcode6.ext n8.mod).app2 (wopn6.ext n8.mod) wap (by omega) (by omega) (Nat.le_trans (Nat.le_trans hz4 hz6) n8.mod.1) (by rw[insC_length];simp) rfl ?_ (by omega) (by omega) fun a9 c9 H9 S hB9 hO9 hA9 hM9 hS9=>?_
  ·intro v hv;rw[insC_one1] at hv;exact insC_one _ _ v hv
  have el:i+(Tree.op o r).flat.length=i+1+r.flat.length:=by simp[Tree.flat];omega
  rw[el] at whr
  refine⟨⟨by omega,by omega⟩,⟨i+1,u.app (.op o .nil),r,F,X,by push_cast;rfl,⟨by omega,ho2,hs2,hm2,whr,?_,ok3,wfok,?_,by omega,?_,wl4,by omega,hO9,hA9,(ext6.new n8).trans_new hM9 fun b hb=>.inr (hS9 b hb).1⟩⟩,by (try dsimp only);omega⟩
  ·rw[Tree.app_assoc];simp only[Tree.app];exact wpl
  ·rw[Tree.flat_app];simp[Tree.flat];omega
  ·rw[Tree.link_app]
   simp only[Tree.link]
   rw[<-insC_app] at hB9
   simpa using hB9
 | .rep o b e r,F=>
  simp only[Tree.flat,List.cons_append,List.append_assoc] at who
  obtain⟨_,ho1,ho2⟩:=drop_head who
  simp only[sizesT,List.cons_append,List.append_assoc] at whs
  obtain⟨hsl,hs1,hs2⟩:=drop_head whs
  simp only[matchT,List.cons_append,List.append_assoc] at whm
  obtain⟨hml,hm1,hm2⟩:=drop_head whm
  obtain⟨ok1,ok2,ok3,ok4⟩:=wtok
  rw[ho1] at hO
  have hk0:=hO.rd 0 rfl
  have hsz:(sizesT t').length=l:=by rw[sizesT_length,hPl,hlen]
  have hmz:(matchT t' 0).length=l:=by rw[matchT_length,hPl,hlen]
  have el:i+(Tree.rep o b e r).flat.length=i+1+b.flat.length+1+r.flat.length:=by simp[Tree.flat];omega
  rw[el] at whr
  by_cases hzero:o.v.toNat*b.size=0
  ·refine⟨fun c' H'=>c'=true/\H'=H6,⟨_,hk0,fun _=>?_,fun h'=>(h' ok1).elim⟩,?_⟩
   ·refine RowI.idxn (Ext.row ext6 rowS) (List.getElem?_eq_some_iff.2 ⟨hsl,hs1⟩) (K:=fun n_2=>decP (n_2=(0:Int)) inferInstance=true/\H6=H6) ⟨?_,rfl⟩
    rw[hzero];rfl
   rintro H6 c' ⟨rfl,rfl⟩
   refine⟨fun _=>?_,fun h'=>(by cases h')⟩
   refine RowI.idxn (Ext.row ext6 rowM) (List.getElem?_eq_some_iff.2 ⟨hml,hm1⟩) ?_
   have hbl:i+1+b.flat.length+1<=p.ops.length:=by
    have:=congrArg List.length ho2;simp at this;omega
   have ed:∀{α:Type} (L A B:List α) (x:α),L.drop (i+1)=A++x ::B->A.length=b.flat.length->L.drop (i+1+b.flat.length+1)=B:=by
    intro α L A B x hL hA
    rw[<-List.drop_drop,<-List.drop_drop,hL,<-hA,List.drop_left];rfl
   refine⟨⟨by omega,by omega⟩,⟨i+1+b.flat.length+1,u,r,F,X,by push_cast;rfl,⟨hbl,?_,?_,?_,whr,?_,ok4,wfok,wl3,by omega,wcode6,wl4,by omega,wopn6,wap,ext6⟩⟩,by (try dsimp only);omega⟩
   ·exact ed _ _ _ _ ho2 rfl
   ·exact ed _ _ _ _ hs2 (sizesT_length b)
   ·rw[show i+2+b.flat.length=i+1+b.flat.length+1 from by omega] at hm2
    exact ed _ _ _ _ hm2 (matchT_length b _)
   ·rw[<-wpl];simp only[Tree.prune,hzero,if_true]
  ·refine⟨fun c' H'=>c'=false/\H'=H6,⟨_,hk0,fun _=>?_,fun h'=>(h' ok1).elim⟩,?_⟩
   ·refine RowI.idxn (Ext.row ext6 rowS) (List.getElem?_eq_some_iff.2 ⟨hsl,hs1⟩) (K:=fun n_2=>decP (n_2=(0:Int)) inferInstance=false/\H6=H6) ⟨?_,rfl⟩
    simp only[decP,decide_eq_false_iff_not];omega
   rintro H6 c' ⟨rfl,rfl⟩
   refine⟨fun h'=>(by cases h'),fun _=>⟨_,hk0,fun _=>fun H7 q7 n7=>⟨_,rfl,.inr ⟨q7,0,rfl,n7.rdL⟩,?_⟩,fun h'=>(h' ok1).elim⟩⟩
   refine (wopn6.ext n7.mod).app2 (wcode6.ext n7.mod) wap.symm (by omega) (by omega) (Nat.le_trans (Nat.le_trans hz4 hz6) n7.mod.1) rfl rfl (by intro v hv;simp at hv;subst hv;trivial) (by omega) (by omega) fun a8 c8 H8 S8 hO8 hB8 hA8 hM8 hS8=>?_
   have m68:Mod S8 H6 H8:=n7.mod.ext.trans hM8
   have hz7:=n7.mod.1
   have hz8:=hM8.1
   have hlt7:=n7.lt
   have hOp:Own H8 q6 (opC o):=hO.mod m68 (fun hb=>by
    obtain⟨_,_,hc4,e4'⟩:=hS8 q6 hb
    subst e4'
    have:=wopn.lt hc4 (by omega);omega)
   refine⟨_,rfl,hOp.1,rfl,rfl,fun H9 q9 n9=>?_⟩
   have hset:(opC o++[Value.int .i64 0])++[]=insC [(o,0)]:=by
    rw[insC_one1,List.append_nil];rfl
   rw[hset] at n9
   refine⟨_,rfl,.inr ⟨q9,0,rfl,n9.rdL⟩,?_⟩
   refine (hB8.ext n9.mod).app2 (hO8.ext n9.mod) hA8.symm (by omega) (by omega) (Nat.le_trans (Nat.le_trans hz4 (Nat.le_trans hz6 (Nat.le_trans hz7 hz8))) n9.mod.1) (by rw[insC_length];simp) rfl ?_ (by omega) (by omega) fun a10 c10 H10 S10 hB10 hO10 hA10 hM10 hS10=>?_
   ·intro v hv;rw[insC_one1] at hv;exact insC_one _ _ v hv
   have e8:Ext H4 H8:=(ext6.new n7).trans_new hM8 fun b hb=>.inr (hS8 b hb).1
   refine⟨⟨by omega,by omega⟩,⟨i+1,.nil,b,(u,o,e,r) ::F,(i:Int) :: (matchT r (i+2+b.flat.length)++X),by push_cast;rfl,⟨by omega,ho2,hs2,hm2,⟨_,X,by rw[show i+2+b.flat.length=i+1+b.flat.length+1 from by omega],whr⟩,?_,ok2,⟨ok1,ok3,ok4,wfok⟩,?_,by omega,?_,by rw[wl4];rfl,by omega,?_,hA10,(e8.new n9).trans_new hM10 fun b hb=>.inr (hS10 b hb).1⟩⟩,by (try dsimp only);omega⟩
   ·rw[<-wpl];simp only[plug,Tree.app,Tree.prune,hzero,if_false]
   ·simp[base,Tree.link_length,Tree.flat];omega
   ·rw[<-insC_app] at hB10
    simpa [base,Tree.link] using hB10
   ·simp only[opens,natsI_app,i64s_append,<-wl3];exact hO10
end Go.VC
namespace Go.VC
open Go Go.Proofs
def rg (l:List UInt64)(i:Int):UInt64:=l.getD i.toNat 0
def wStep (o:Op)(r:List UInt64):List UInt64:=r.set o.d.toNat (applyOp o (rg r o.a) (rg r o.b))
def fwd:List Op->List UInt64->List UInt64
 | [],r=>r
 | o ::us,r=>fwd us (wStep o r)
def taped:List Op->List UInt64->List UInt64
 | [],_=>[]
 | o ::us,r=>rg r o.d ::taped us (wStep o r)
def bStep (o:Op)(w:UInt64)(s:List UInt64 × List UInt64):List UInt64 × List UInt64:=
 let g:=rg s.2 o.d
 let a0:=s.2.set o.d.toNat 0
 let r:=s.1.set o.d.toNat w
 let p:=partialsOp o (rg r o.a) (rg r o.b)
 let a1:=a0.set o.a.toNat (rg a0 o.a+p.1*g)
 let a2:=a1.set o.b.toNat (rg a1 o.b+p.2*g)
 (r,a2)
def bwd:List (Op × UInt64)->List UInt64 × List UInt64->List UInt64 × List UInt64
 | [],s=>s
 | (o,w) ::us,s=>bwd us (bStep o w s)
theorem fwd_append:∀(us vs:List Op) (r:List UInt64),fwd (us++vs) r=fwd vs (fwd us r)
 | [],_,_=>rfl
 | o ::us,vs,r=>by simp only[List.cons_append,fwd];exact fwd_append us vs _
theorem taped_append:∀(us vs:List Op) (r:List UInt64),taped (us++vs) r=taped us r++taped vs (fwd us r)
 | [],_,_=>rfl
 | o ::us,vs,r=>by simp only[List.cons_append,fwd,taped];rw[taped_append us vs]
theorem bwd_append:∀(us vs:List (Op × UInt64)) (s:List UInt64 × List UInt64),bwd (us++vs) s=bwd vs (bwd us s)
 | [],_,_=>rfl
 | (o,w) ::us,vs,s=>by simp only[List.cons_append,bwd];exact bwd_append us vs _
@[simp] theorem wStep_length (o:Op)(r:List UInt64):(wStep o r).length=r.length:=by simp[wStep]
theorem fwd_length:∀(us:List Op) (r:List UInt64),(fwd us r).length=r.length
 | [],_=>rfl
 | o ::us,r=>by simp[fwd,fwd_length us]
theorem taped_length:∀(us:List Op) (r:List UInt64),(taped us r).length=us.length
 | [],_=>rfl
 | o ::us,r=>by simp[taped,taped_length us]
theorem bStep_length (o:Op)(w:UInt64)(s:List UInt64 × List UInt64):(bStep o w s).1.length=s.1.length/\(bStep o w s).2.length=s.2.length:=by simp[bStep]
theorem bwd_length:∀(us:List (Op × UInt64)) (s:List UInt64 × List UInt64),(bwd us s).1.length=s.1.length/\(bwd us s).2.length=s.2.length
 | [],_=>⟨rfl,rfl⟩
 | (o,w) ::us,s=>by
  have h:=bwd_length us (bStep o w s);have h2:=bStep_length o w s
  simp only[bwd];exact⟨h.1.trans h2.1,h.2.trans h2.2⟩
def RegOk (n:Nat)(o:Op):Prop:=0<=o.d/\o.d<n/\0<=o.a/\o.a<n/\0<=o.b/\o.b<n
theorem wStep_undo {o:Op}{r:List UInt64}(h:RegOk r.length o):(wStep o r).set o.d.toNat (rg r o.d)=r:=by
 have hd:o.d.toNat<r.length:=by have:=h.1;have:=h.2.1;omega
 unfold wStep rg
 rw[List.set_set]
 apply List.ext_getElem?
 intro i
 rw[List.getElem?_set]
 split
 ·rename_i e;subst e;simp[hd]
 ·rfl
def dStep (o:Op)(r d:List UInt64):List UInt64:=d.set o.d.toNat ((partialsOp o (rg r o.a) (rg r o.b)).1*rg d o.a+(partialsOp o (rg r o.a) (rg r o.b)).2*rg d o.b)
def dfwd:List Op->List UInt64->List UInt64->List UInt64
 | [],_,d=>d
 | o ::us,r,d=>dfwd us (wStep o r) (dStep o r d)
theorem dfwd_length:∀(us:List Op) (r d:List UInt64),(dfwd us r d).length=d.length
 | [],_,_=>rfl
 | o ::us,r,d=>by simp[dfwd,dfwd_length us,dStep]
def dot:List UInt64->List UInt64->UInt64
 | x ::a,y ::b=>x*y+dot a b
 | _,_=>0
@[simp] theorem dot_nil_left (b:List UInt64):dot [] b=0:=by cases b<;>rfl
@[simp] theorem dot_nil_right (a:List UInt64):dot a []=0:=by cases a<;>rfl
theorem dot_set_right:∀(a b:List UInt64) (i:Nat) (v:UInt64),i<b.length->dot a (b.set i v)=dot (a.set i 0) b+a.getD i 0*v
 | [],b,i,v,h=>by simp
 | x ::a,[],i,v,h=>by simp at h
 | x ::a,y ::b,0,v,h=>by simp[dot];grind
 | x ::a,y ::b,i+1,v,h=>by
  have:=dot_set_right a b i v (by simpa using h)
  simp[dot] at this ⊢;grind
theorem dot_add_left:∀(a b:List UInt64) (i:Nat) (v:UInt64),i<a.length->dot (a.set i (a.getD i 0+v)) b=dot a b+v*b.getD i 0
 | [],b,i,v,h=>by simp at h
 | x ::a,[],i,v,h=>by simp
 | x ::a,y ::b,0,v,h=>by simp[dot];grind
 | x ::a,y ::b,i+1,v,h=>by
  have:=dot_add_left a b i v (by simpa using h)
  simp[dot] at this ⊢;grind
theorem dot_append:∀(a b a' b':List UInt64),a.length=b.length->dot (a++a') (b++b')=dot a b+dot a' b'
 | [],[],a',b',_=>by simp
 | [],y ::b,a',b',h=>by simp at h
 | x ::a,[],a',b',h=>by simp at h
 | x ::a,y ::b,a',b',h=>by
  have:=dot_append a b a' b' (by simpa using h)
  simp[dot] at this ⊢;grind
theorem dot_zero_left:∀(n:Nat) (b:List UInt64),dot (List.replicate n 0) b=0
 | 0,b=>by simp
 | n+1,[]=>by simp
 | n+1,y ::b=>by simp[List.replicate_succ,dot,dot_zero_left n b]
theorem dot_zero_right:∀(n:Nat) (a:List UInt64),dot a (List.replicate n 0)=0
 | 0,a=>by simp
 | n+1,[]=>by simp
 | n+1,x ::a=>by simp[List.replicate_succ,dot,dot_zero_right n a]
theorem bStep_dual {o:Op}{r d adj:List UInt64}(h:RegOk r.length o)(hd:d.length=r.length)(ha:adj.length=r.length) :
  (bStep o (rg r o.d) (wStep o r,adj)).1=r/\dot (bStep o (rg r o.d) (wStep o r,adj)).2 d=dot adj (dStep o r d):=by
 have h1:(bStep o (rg r o.d) (wStep o r,adj)).1=r:=wStep_undo h
 refine⟨h1,?_⟩
 obtain⟨a1,a2,a3,a4,a5,a6⟩:=h
 unfold dStep
 rw[dot_set_right _ _ _ _ (by omega)]
 simp only[bStep]
 rw[wStep_undo ⟨a1,a2,a3,a4,a5,a6⟩]
 unfold rg
 rw[dot_add_left _ _ _ _ (by simp;omega),dot_add_left _ _ _ _ (by simp;omega)]
 grind
theorem bwd_dual:∀{us:List Op} {r d adj:List UInt64},(∀o∈us,RegOk r.length o)->d.length=r.length->adj.length=r.length->
  (bwd (us.zip (taped us r)).reverse (fwd us r,adj)).1=r/\dot (bwd (us.zip (taped us r)).reverse (fwd us r,adj)).2 d=dot adj (dfwd us r d)
 | [],r,d,adj,_,_,_=>⟨rfl,rfl⟩
 | o ::us,r,d,adj,h,hd,ha=>by
  have ho:=h o (by simp)
  have ih:=bwd_dual (us:=us) (r:=wStep o r) (d:=dStep o r d) (adj:=adj) (fun x hx=>by rw[wStep_length];exact h x (by simp[hx])) (by simp[dStep,hd]) (by simpa using ha)
  simp only[taped,List.zip_cons_cons,List.reverse_cons,bwd_append,fwd]
  generalize he:bwd (us.zip (taped us (wStep o r))).reverse (fwd us (wStep o r),adj)=s at ih
  have hl:=(bwd_length (us.zip (taped us (wStep o r))).reverse (fwd us (wStep o r),adj)).2
  rw[he] at hl
  obtain⟨s1,s2⟩:=s
  simp only at ih hl
  obtain⟨rfl,ih2⟩:=ih
  simp only[bwd,dfwd]
  have:=bStep_dual ho hd (hl.trans ha)
  rw[ih2] at this
  exact this
end Go.VC
namespace Go.VC
open Go Go.Proofs
variable {H:Heap}{R:Value->Heap->Prop}
theorem least_exists {p:Nat->Prop}:∀n,p n->∃m,p m/\∀k,p k->m<=k:=by
 intro n
 induction n using Nat.strongRecOn with
 | _ n ih=>
  intro h
  by_cases hm:∃k,k<n/\p k
  ·obtain⟨k,hk,hp⟩:=hm
   exact ih k hk hp
  ·exact⟨n,h,fun k hk=>Nat.le_of_not_lt fun hlt=>hm ⟨k,hlt,hk⟩⟩
noncomputable def least (p:Nat->Prop):Nat:=@dite _ (∃m,p m/\∀k,p k->m<=k) (Classical.propDecidable _) (fun h=>Classical.choose h) fun _=>0
theorem least_spec {p:Nat->Prop}{n:Nat}(h:p n):p (least p):=by
 have h':=least_exists n h
 unfold least
 rw[dif_pos h']
 exact (Classical.choose_spec h').1
theorem least_le {p:Nat->Prop}{n:Nat}(h:p n):least p<=n:=by
 have h':=least_exists n h
 unfold least
 rw[dif_pos h']
 exact (Classical.choose_spec h').2 n h
theorem least_lt {p:Nat->Prop}{n m:Nat}(h:p n)(hm:n<m):least p<m:=Nat.lt_of_le_of_lt (least_le h) hm
def fwRem (t:Tree)(F:List Fw):List Op:=t.unroll++fwRest F
def fwLeft (t:Tree)(F:List Fw):Nat:=t.steps+fwSteps F
theorem fwRem_op (o:Op)(r:Tree)(F:List Fw):fwRem (.op o r) F=o ::fwRem r F:=rfl
theorem rep_pos {α:Type}{n:Nat}(h:0<n)(l:List α):(List.replicate n l).flatten=l++(List.replicate (n-1) l).flatten:=by
 obtain⟨m,rfl⟩:∃m,n=m+1:=⟨n-1,by omega⟩
 simp[List.replicate_succ]
theorem fwRem_rep {o e:Op}{b r:Tree}{F:List Fw}(h:0<o.v.toNat):fwRem (.rep o b e r) F=fwRem b (⟨o.v,o,b,e,r⟩ ::F):=by
 simp only[fwRem,Tree.unroll,fwRest,rep_pos h,List.append_assoc]
theorem fwRem_again {f:Fw}{F:List Fw}(h:1<f.k.toNat):fwRem .nil (f ::F)=fwRem f.b ({ f with k:=f.k-1 } ::F):=by
 simp only[fwRem,Tree.unroll,fwRest,List.nil_append]
 rw[rep_pos (by omega),u64_pred (by omega)]
 simp
theorem fwRem_out {f:Fw}{F:List Fw}(h:¬1<f.k.toNat):fwRem .nil (f ::F)=fwRem f.r F:=by
 simp only[fwRem,Tree.unroll,fwRest,List.nil_append]
 rw[show f.k.toNat-1=0 from by omega];simp
theorem fwLeft_rep {o e:Op}{b r:Tree}{F:List Fw}(h:0<o.v.toNat):fwLeft b (⟨o.v,o,b,e,r⟩ ::F)<fwLeft (.rep o b e r) F:=by
 obtain⟨m,hm⟩:∃m,o.v.toNat=m+1:=⟨o.v.toNat-1,by omega⟩
 simp only[fwLeft,Tree.steps,fwSteps,hm,Nat.add_sub_cancel,Nat.add_mul]
 omega
theorem fwLeft_again {f:Fw}{F:List Fw}(h:1<f.k.toNat):fwLeft f.b ({ f with k:=f.k-1 } ::F)<fwLeft .nil (f ::F):=by
 obtain⟨m,hm⟩:∃m,f.k.toNat=m+2:=⟨f.k.toNat-2,by omega⟩
 simp only[fwLeft,Tree.steps,fwSteps,u64_pred (show 0<f.k.toNat by omega),hm,show m+2-1=m+1 from rfl,Nat.add_sub_cancel,Nat.add_mul]
 omega
theorem fwLeft_out {f:Fw}{F:List Fw}:fwLeft f.r F<fwLeft .nil (f ::F):=by
 simp only[fwLeft,Tree.steps,fwSteps];omega
def Lft (H:Heap)(b:Nat)(ks:List UInt64):Prop:=∃L:List UInt64,Own H b (u64s L)/\L.length=8/\L.take ks.length=ks
theorem Lft.mod {S:List Nat}{H H':Heap}{b:Nat}{ks:List UInt64}(h:Lft H b ks)(k:Mod S H H')(hb:b∉S):Lft H' b ks:=by
 obtain⟨L,h1,h2,h3⟩:=h
 exact⟨L,h1.mod k hb,h2,h3⟩
theorem u64s_set (xs:List UInt64)(i:Nat)(x:UInt64):(u64s xs).set i (.int .u64 (x.toNat:Int))=u64s (xs.set i x):=by simp[u64s,List.map_set]
theorem Lft.le {H:Heap}{b:Nat}{ks:List UInt64}(h:Lft H b ks):ks.length<=8:=by
 obtain⟨L,_,h2,h3⟩:=h
 have:=congrArg List.length h3
 simp at this;omega
theorem Lft.lt {H:Heap}{b:Nat}{ks:List UInt64}(h:Lft H b ks):b<H.size:=by
 obtain⟨L,h1,h2,h3⟩:=h
 exact h1.lt (by intro e;have:=congrArg List.length e;rw[u64s_length,h2] at this;cases this)
theorem Lft.w {H:Heap}{b:Nat}{ks:List UInt64}(h:Lft H b ks){i:Nat}(hi:i<8):WOk H b i 1:=by
 obtain⟨L,h1,h2,h3⟩:=h
 exact wok_sub h1.2 (by omega) (by rw[u64s_length,h2];omega)
theorem Lft.put {H:Heap}{b:Nat}{ks:List UInt64}{v:UInt64}(h:Lft H b ks)(hk:ks.length<8):Lft (wr H b ks.length (.int .u64 (v.toNat:Int))) b (ks++[v]):=by
 obtain⟨L,h1,h2,h3⟩:=h
 have:=h1.wr ks.length (.int .u64 (v.toNat:Int))
 rw[u64s_set] at this
 refine⟨_,this,by simpa using h2,?_⟩
 rw[List.length_append,List.length_singleton,List.take_succ_eq_append_getElem (by simp;omega),List.take_set_of_le (Nat.le_refl _),h3]
 simp
theorem Lft.pop {H:Heap}{b:Nat}{ks:List UInt64}{v:UInt64}(h:Lft H b (ks++[v])):Lft H b ks:=by
 obtain⟨L,h1,h2,h3⟩:=h
 refine⟨L,h1,h2,?_⟩
 have:=congrArg (List.take ks.length) h3
 rw[List.take_take] at this
 simpa using this
theorem Lft.top {H:Heap}{b:Nat}{ks:List UInt64}{v:UInt64}(h:Lft H b (ks++[v])):rd H b ks.length=some (.int .u64 (v.toNat:Int)):=by
 obtain⟨L,h1,h2,h3⟩:=h
 have hl:=congrArg List.length h3
 simp at hl
 have hv:L[ks.length]?=some v:=by
  have:=congrArg (fun l=>l[ks.length]?) h3
  simp only[List.length_append,List.length_singleton,List.getElem?_append_right (Nat.le_refl _),Nat.sub_self] at this
  rw[List.getElem?_take_of_lt (by omega)] at this
  simpa using this
 obtain⟨hlt,e⟩:=List.getElem?_eq_some_iff.1 hv
 have:=h1.rd ks.length (u64s_get (xs:=L) hlt)
 rwa [e] at this
theorem Lft.set {H:Heap}{b:Nat}{ks:List UInt64}{v w:UInt64}(h:Lft H b (ks++[v])):Lft (wr H b ks.length (.int .u64 (w.toNat:Int))) b (ks++[w]):=by
 have:=h.le
 simp at this
 exact h.pop.put (by omega)
theorem New.lft {H H':Heap}{ty p:Nat}(n:New H [.int .u64 0,.int .u64 0,.int .u64 0,.int .u64 0,.int .u64 0,.int .u64 0,.int .u64 0,.int .u64 0] ty H' p):Lft H' p []:=
 ⟨[0,0,0,0,0,0,0,0],n.own,rfl,rfl⟩
theorem copyN {H:Heap}{b o ty n:Nat}{cs zs:List Value}(hr:RdL H b o cs)(hn:cs.length=n)(hz:zs.length=n)(ho:∀v∈cs,One v){K:Nat->Heap->Prop}
  (k:∀H1 p,Own H1 p cs->Ext H H1->H.size<=p->p<H1.size->K p H1) :
  ∃cs:List Value,cs.length=n/\RdL H b o cs/\∀H' p,New H zs ty H' p->cs.length=n/\(∀v:Value,v∈cs->One v)/\WOk H' p 0 n/\∀H'',H''=wrL H' p 0 cs->K p H'':=by
 refine⟨cs,hn,hr,fun H' p n1=>⟨hn,ho,by have:=n1.wok;rwa [hz] at this,?_⟩⟩
 rintro _ rfl
 have ho:=n1.own.wrL 0 cs (by omega)
 rw[List.take_zero,List.nil_append,Nat.zero_add,hn,<-hz,List.drop_length,List.append_nil] at ho
 refine k _ p ho ?_ n1.ge (by rw[wrL_size];exact n1.lt)
 exact (Mod.refl (S:=[]).new n1).trans_new (Mod.refl.wrL (S:=[p]) (.inl (by simp))) (by simpa using n1.ge)
theorem insC_get {code:List (Op × Nat)}{i:Nat}{x:Op × Nat}(h:code[i]?=some x):∃r,(insC code).drop (i*6)=(opC x.1++[.int .i64 (x.2:Int)])++r:=by
 obtain⟨hi,e⟩:=List.getElem?_eq_some_iff.1 h
 have h:=flatMap_get (fun x:Op × Nat=>opC x.1++[Value.int .i64 (x.2:Int)]) 6 (fun x=>rfl) hi
 rwa [e] at h
abbrev RowC (H:Heap)(a:Option Addr)(l:Nat)(code:List (Op × Nat)):Prop:=Row 6 H a l (insC code)
theorem RowC.len {H:Heap}{a:Option Addr}{l:Nat}{code:List (Op × Nat)}(h:RowC H a l code):code.length=l:=by have:=h.1;rw[insC_length] at this;omega
theorem RowC.rdL {H:Heap}{a:Option Addr}{l:Nat}{code:List (Op × Nat)}(h:RowC H a l code){i:Nat}{o:Op}{n:Nat}(hx:code[i]?=some (o,n)) :
  ∃b off,At a b off/\((0:Int)<=i/\(i:Int)<l)/\RdL H b (off+(i:Int).toNat*6) (opC o++[.int .i64 (n:Int)]):=by
 have hi:=(List.getElem?_eq_some_iff.1 hx).1
 rw[h.len] at hi
 obtain⟨b,off,e,hr⟩:=h.at (by omega)
 obtain⟨r,hd⟩:=insC_get hx
 have:=rdL_drop (k:=i*6) hr
 rw[hd] at this
 exact⟨b,off,e,⟨by omega,by omega⟩,by rw[Int.toNat_natCast];exact (rdL_append.1 this).1⟩
theorem RowC.load {H:Heap}{a:Option Addr}{l ty:Nat}{code:List (Op × Nat)}(h:RowC H a l code){i:Nat}{o:Op}{n:Nat}(hx:code[i]?=some (o,n)){zs:List Value}(hz:zs.length=6){K:Nat->Heap->Prop}
  (k:∀H1 p,Own H1 p (opC o++[.int .i64 (n:Int)])->Ext H H1->H.size<=p->p<H1.size->K p H1) :
  ∃b off,At a b off/\((0:Int)<=i/\(i:Int)<l)/\∃cs:List Value,List.length cs=6/\RdL H b (off+(i:Int).toNat*6) cs/\∀H' p,New H zs ty H' p->List.length cs=6/\(∀v:Value,v∈cs->One v)/\WOk H' p 0 6/\∀H'',H''=wrL H' p 0 cs->K p H'':=by
 obtain⟨b,off,e,hi,hr⟩:=h.rdL hx
 exact⟨b,off,e,hi,copyN hr rfl hz (insC_one _ _) k⟩
theorem RowC.mod {S:List Nat}{H H':Heap}{a:Option Addr}{l:Nat}{code:List (Op × Nat)}(h:RowC H a l code)(k:Mod S H H')(hb:Off S a):RowC H' a l code:=Mod.row k hb h
theorem rg_get {l:List UInt64}{i:Int}(h0:0<=i)(h1:i<l.length):l[i.toNat]'(by omega)=rg l i:=by
 unfold rg;simp[List.getD_eq_getElem?_getD,show i.toNat<l.length by omega]
theorem Own.u64 {H:Heap}{b:Nat}{l:List UInt64}(h:Own H b (u64s l)){i:Int}(h0:0<=i)(h1:i<l.length):VC.rd H b (0+i.toNat)=some (.int .u64 ((rg l i).toNat:Int)):=by
 rw[Nat.zero_add,<-rg_get h0 h1];exact h.rd _ (u64s_get (by omega))
theorem Own.setu {H:Heap}{b:Nat}{l:List UInt64}(h:Own H b (u64s l))(i:Nat)(v:UInt64):Own (VC.wr H b (0+i) (.int .u64 (v.toNat:Int))) b (u64s (l.set i v)):=by
 rw[Nat.zero_add]
 have:=h.wr i (.int .u64 (v.toNat:Int))
 rwa [u64s_set] at this
theorem Own.wu {H:Heap}{b:Nat}{l:List UInt64}(h:Own H b (u64s l)){i:Int}(h0:0<=i)(h1:i<l.length):WOk H b (0+i.toNat) 1:=wok_sub h.2 (by omega) (by rw[u64s_length];omega)
theorem u64s_ne {l:List UInt64}(h:0<l.length):u64s l≠[]:=by intro e;have:=congrArg List.length e;rw[u64s_length,List.length_nil] at this;omega
theorem Row.fresh {sz:Nat}{H:Heap}{a:Option Addr}{l:Nat}{cells:List Value}{S:List Nat}(r:Row sz H a l cells)(hz:0<sz)(hl:0<l)(hS:∀x∈S,H.size<=x):Off S a:=by
 obtain⟨b,o,e,hr⟩:=r.at (Nat.mul_pos hl hz)
 intro b' o' e' hb
 rw[e] at e';cases e'
 have hlen:=r.1
 cases cells with
 | nil=>have:=Nat.mul_pos hl hz;simp at hlen;omega
 | cons c cs=>have:=rd_lt hr.1;have:=hS b hb;omega
def OwnO (H:Heap)(b o:Nat)(cells:List Value):Prop:=RdL H b o cells/\WOk H b o cells.length
theorem OwnO.mod {S:List Nat}{H H':Heap}{b o:Nat}{cells:List Value}(h:OwnO H b o cells)(k:Mod S H H')(hb:b∉S):OwnO H' b o cells:=⟨k.rdL hb h.1,k.wok hb h.2⟩
theorem OwnO.lt {H:Heap}{b o:Nat}{cells:List Value}(h:OwnO H b o cells)(h0:cells≠[]):b<H.size:=by
 cases cells with
 | nil=>exact (h0 rfl).elim
 | cons c r=>exact rd_lt h.1.1
theorem OwnO.u64 {H:Heap}{b o:Nat}{l:List UInt64}(h:OwnO H b o (u64s l)){i:Int}(h0:0<=i)(h1:i<l.length):VC.rd H b (o+i.toNat)=some (.int .u64 ((rg l i).toNat:Int)):=by
 rw[<-rg_get h0 h1];exact rdL_get' h.1 (u64s_get (by omega))
theorem OwnO.setu {H:Heap}{b o:Nat}{l:List UInt64}(h:OwnO H b o (u64s l))(i:Nat)(v:UInt64):OwnO (VC.wr H b (o+i) (.int .u64 (v.toNat:Int))) b o (u64s (l.set i v)):=by
 have h1:=rdL_wr_set (k:=i) (v:=.int .u64 (v.toNat:Int)) h.1
 rw[u64s_set] at h1
 exact⟨h1,by have:=wok_wr (b':=b) (o':=o+i) (v:=.int .u64 (v.toNat:Int)) h.2;simpa using this⟩
theorem OwnO.wu {H:Heap}{b o:Nat}{l:List UInt64}(h:OwnO H b o (u64s l)){i:Int}(h0:0<=i)(h1:i<l.length):WOk H b (o+i.toNat) 1:=wok_sub h.2 (by omega) (by rw[u64s_length];omega)
def Sep (br ro l:Nat)(a:Option Addr):Prop:=∀b o,a=some ⟨b,o,none⟩->b=br->o+l<=ro
theorem Sep.off {br ro l:Nat}{a:Option Addr}{S:List Nat}(h:Off (br ::S) a):Sep br ro l a:=fun b o e hb=>(h b o e (by simp[hb])).elim
theorem RowU.apart {H:Heap}{a:Option Addr}{l br ro i:Nat}{tp:List UInt64}{v:Value}(h:RowU H a l tp)(hs:0<l->Sep br ro l a):RowU (VC.wr H br (ro+i) v) a l tp:=by
 refine⟨h.1,?_⟩
 rcases h.2 with h0|⟨b,o,e,hr⟩
 ·exact .inl h0
 refine .inr ⟨b,o,e,rdL_congr hr fun j h1 h2=>(rd_wr_ne ?_).symm⟩
 rintro⟨rfl,rfl⟩
 have hl:=h.len
 rw[u64s_length] at h2
 have:=hs (by omega) b o e rfl
 omega
theorem c269 (x:Int)(o:Op)(k:∀H',Ext H H'->R (.tuple #[]) H'):Ru 269 [.int .i64 x,.agg (opC o).toArray] H R:=
 v269 _ (opC o) fun H1 _ n1=>k H1 n1.mod
theorem Mod.rowz {S:List Nat}{H H':Heap}(h:Mod S H H'){sz:Nat}{a:Option Addr}{l:Nat}{vs:List Value}(hb:0<l->Off S a)(hv:Row sz H a l vs):Row sz H' a l vs:=by
 by_cases h0:0<l
 ·exact h.row (hb h0) hv
 ·have:vs=[]:=List.length_eq_zero_iff.1 (by rw[hv.1,show l=0 from by omega,Nat.zero_mul])
  exact⟨hv.1,.inl this⟩
theorem Buf.offS {sz:Nat}{H:Heap}{n:Nat}{a:Option Addr}{l c:Nat}{cells:List Value}{S:List Nat}(h:Buf sz H n a l c cells)(hz:0<sz)(hl:0<l)(hs:∀b,b<H.size->b∈S->a≠some ⟨b,0,none⟩):Off S a:=by
 have hle:=h.le
 rcases h.ok with h0|⟨b,e,hn,hr,hw⟩
 ·exact absurd h0 (Nat.ne_of_gt (Nat.mul_pos (by omega) hz))
 ·intro b' o' e' hb
  rw[e] at e';cases e'
  refine hs b ?_ hb e
  subst e;exact h.lt (by omega) hz
theorem c268 {a:Option Addr}{l c:Nat}{t:Tree}(hc:RowC H a l (t.link 0))(tok:t.Ok)(tfull:t.Full)(td:t.depth<=8){br c1:Nat}{regs:List UInt64}(hr:Own H br (u64s regs))
  (hoff:0<l->Off [br] a) (ho:∀o∈t.unroll,RegOk regs.length o) (hsz:t.size<=65536) (h0:0<regs.length) (hl4:(t.link 0).length<=4096)
  (k:∀H',Own H' br (u64s (fwd t.unroll regs))->Mod [br] H H'->R (.tuple #[]) H') :
  Ru 268 [.slice a l c,.slice (some ⟨br,0,none⟩) regs.length c1,.int .i64 (-1),.func (.func 269) #[] #[]] H R:=by
 have hcl:=hc.len
 have hrl:br<H.size:=hr.lt (u64s_ne h0)
 let J:Nat->Nat->Nat->Int->Int->Int->Heap->Prop:=fun N b o n n1 n2 H'=>∃(at_:Nat) (u:Tree) (F:List Fw) (done:List Op),n=(at_:Int)/\o=0/\n1=(F.length:Int)/\n2=((done.length:Nat):Int)/\N=fwLeft u F/\FwAt (t.link 0) at_ u F/\done++fwRem u F=t.unroll/\
  Lft H' b (F.map Fw.k).reverse/\Own H' br (u64s (fwd done regs))/\Mod [br] H H'/\H.size<=b
 refine v268 _ _ _ _ _ _ _ _ ⟨fun b o n n1 n2 H'=>∃N,J N b o n n1 n2 H',fun b o n n1 n2 H'=>least fun N=>J N b o n n1 n2 H',fun H1 p n1=>⟨_,0,t,[],[],rfl,rfl,rfl,rfl,rfl,FwAt.start tok tfull td,?_,n1.lft,hr.mod n1.mod (by simp),n1.mod.ext,n1.ge⟩,?_⟩
 ·simp[fwRem,fwRest]
 rintro H1 b o n n1 n2 ⟨N0,hN0⟩
 have hN:=least_spec (p:=fun N=>J N b o n n1 n2 H1) hN0
 clear hN0 N0
 obtain⟨at_,u,F,done,rfl,rfl,rfl,rfl,hNe,hat,hdone,hleft,hown,hmod,hne⟩:=hN
 have hdl:done.length<=65536:=by have:=congrArg List.length hdone;rw[<-t.size_eq,List.length_append] at this;omega
 have hle:=hat.le
 have hfl:=(fwd_length done regs)
 refine⟨fun H'=>H'=H1/\(at_:Int)≠l,⟨fun he=>?_,fun he=>⟨fun h'=>by omega,fun _=>⟨rfl,he⟩⟩⟩,?_⟩
 ·have hend:u=.nil/\F=[]:=by
   have h1:=hat.here
   rw[List.drop_of_length_le (by omega)] at h1
   have h2:=List.append_eq_nil_iff.1 h1.symm
   constructor
   ·cases u with
    | nil=>rfl
    | op _ _=>simp[Tree.link] at h2
    | rep _ _ _ _=>simp[Tree.link] at h2
   ·cases F with
    | nil=>rfl
    | cons f F=>simp[fwCode] at h2
  obtain⟨rfl,rfl⟩:=hend
  simp only[fwRem,Tree.unroll,fwRest,List.append_nil] at hdone
  rw[hdone] at hown
  exact k _ hown hmod
 rintro H1 ⟨rfl,he⟩
 have hbr:b≠br:=by omega
 have hrow:RowC H1 a l (t.link 0):=hmod.rowz hoff hc
 have hbl:=hleft.lt
 match u,F with
 | .nil,[]=>have:=hat.done;omega
 | .op o r,F=>
  obtain⟨hx,hat2⟩:=hat.op
  refine RowC.load hrow hx rfl fun H2 p hO e2 hp hpl=>⟨⟨by omega,by omega⟩,copyN (n:=5) (rdL_append.1 hO.1).1 (by rfl) (by rfl) opC_one fun H3 p3 hO3 e3 hp3 hpl3=>?_⟩
  have hk1:=hat.ok.1;have hk2:=hat.ok.2.1
  have hro:RegOk regs.length o:=ho o (by rw[<-hdone,fwRem_op];simp)
  obtain⟨r1,r2,r3,r4,r5,r6⟩:=hro
  have e13:=e2.thenExt e3
  have hown3:=hown.mod e13 (by simp)
  have hz13:=e13.1
  refine⟨_,hO3.rd 0 rfl,fun h'=>by omega,fun _=>⟨fun h'=>by omega,fun _=>⟨_,hO3.rd 1 rfl,_,rfl,hO3.1,_,hO3.rd 2 rfl,br,0,rfl,⟨r3,r4⟩,_,hown3.u64 r3 (by omega),_,hO3.rd 3 rfl,br,0,rfl,⟨r5,r6⟩,_,hown3.u64 r5 (by omega),?_⟩⟩⟩
  refine c338 o _ _ fun H4 e4=>⟨_,rfl,e4.rd (by simp) (hO3.rd 1 rfl),br,0,rfl,⟨r1,r2⟩,(hown3.mod e4 (by simp)).wu r1 (by omega),?_⟩
  rintro H5 rfl
  have hown5:=(hown3.mod e4 (by simp)).setu o.d.toNat (applyOp o (rg (fwd done regs) o.a) (rg (fwd done regs) o.b))
  have m5:Mod [br] H4 (wr H4 br (0+o.d.toNat) (.int .u64 ((applyOp o (rg (fwd done regs) o.a) (rg (fwd done regs) o.b)).toNat:Int))):=Mod.refl.wr (.inl (by simp))
  generalize wr H4 br (0+o.d.toNat) (.int .u64 ((applyOp o (rg (fwd done regs) o.a) (rg (fwd done regs) o.b)).toNat:Int))=H5 at *
  have hO5:=(hO3.mod e4 (by simp)).mod m5 (by simp;omega)
  refine⟨_,rfl,hO5.1,269,#[],#[],rfl,by kernel_rfl,c269 _ _ fun H6 e6=>⟨⟨by omega,by omega⟩,?_⟩⟩
  have hJ:J (fwLeft r F) b 0 ((at_:Int)+1) (F.length:Int) ((done.length:Int)+1) H6:=by
   refine⟨at_+1,r,F,done++[o],by push_cast;rfl,rfl,rfl,by simp,rfl,hat2,?_,((hleft.mod (e13.thenExt e4) (by simp)).mod m5 (by simpa using hbr)).mod e6 (by simp),?_,hmod.trans ((Mod.ext (e13.thenExt e4)).trans (m5.thenExt e6)),hne⟩
   ·rw[<-hdone,fwRem_op];simp
   ·rw[fwd_append];exact hown5.mod e6 (by simp)
  exact⟨⟨_,hJ⟩,Nat.lt_of_lt_of_eq (least_lt hJ (by simp only[fwLeft,Tree.steps];omega)) hNe.symm⟩
 | .rep o bt e r,F=>
  obtain⟨hx,hat2⟩:=hat.rep
  refine RowC.load hrow hx rfl fun H2 p hO e2 hp hpl=>⟨⟨by omega,by omega⟩,copyN (n:=5) (rdL_append.1 hO.1).1 (by rfl) (by rfl) opC_one fun H3 p3 hO3 e3 hp3 hpl3=>?_⟩
  have e13:=e2.thenExt e3
  have hd:=hat.deep
  simp only[Tree.depth] at hd
  have hleft3:=hleft.mod e13 (by simp)
  have hkl:(F.map Fw.k).reverse.length=F.length:=by simp
  refine⟨_,hO3.rd 0 rfl,fun _=>⟨_,hO3.rd 4 rfl,⟨by omega,by omega⟩,?_,?_⟩,fun h'=>(h' hat.ok.1).elim⟩
  ·rw[Nat.zero_add,Nat.mul_one,Int.toNat_natCast];exact hleft3.w (by omega)
  rintro H4 hH4
  rw[Nat.zero_add,Nat.mul_one,Int.toNat_natCast] at hH4
  have hput:=hleft3.put (v:=o.v) (by omega)
  rw[hkl,<-hH4] at hput
  have m4:Mod [b] H3 H4:=by rw[hH4];exact Mod.refl.wr (.inl (by simp))
  clear hH4
  have hJ:J (fwLeft bt (⟨o.v,o,bt,e,r⟩ ::F)) b 0 ((at_:Int)+1) ((F.length:Int)+1) (done.length:Int) H4:=by
   refine⟨at_+1,bt,⟨o.v,o,bt,e,r⟩ ::F,done,by push_cast;rfl,rfl,by simp,rfl,rfl,hat2,by rw[<-hdone,fwRem_rep hat.full.1],by simpa using hput,(hown.mod e13 (by simp)).mod m4 (by simpa using Ne.symm hbr),(hmod.thenExt e13).trans_new m4 (by simpa using .inr hne),hne⟩
  exact⟨⟨by omega,by omega⟩,⟨_,hJ⟩,Nat.lt_of_lt_of_eq (least_lt hJ (fwLeft_rep hat.full.1)) hNe.symm⟩
 | .nil,f ::F=>
  obtain⟨hx,hagain,hout⟩:=hat.end_
  obtain⟨_,_,hk0,_,he0,_⟩:=hat.fr
  refine RowC.load hrow hx rfl fun H2 p hO e2 hp hpl=>⟨⟨by omega,by omega⟩,copyN (n:=5) (rdL_append.1 hO.1).1 (by rfl) (by rfl) opC_one fun H3 p3 hO3 e3 hp3 hpl3=>?_⟩
  have e13:=e2.thenExt e3
  have hleft3:=hleft.mod e13 (by simp)
  simp only[List.map_cons,List.reverse_cons] at hleft3
  have hkl:(F.map Fw.k).reverse.length=F.length:=by simp
  have hle8:=hleft3.le
  simp at hle8
  have eF:((((f ::F).length:Nat):Int)-1).toNat=F.length:=by simp
  have eF1:(((f ::F).length:Nat):Int)=(F.length:Int)+1:=by simp
  have htop:=hleft3.top
  rw[hkl] at htop
  refine⟨_,hO3.rd 0 rfl,fun h'=>by omega,fun _=>⟨fun _=>⟨⟨by omega,by omega⟩,⟨by omega,by omega⟩,_,by rw[eF,Nat.zero_add,Nat.mul_one];exact htop,⟨by omega,by omega⟩,?_,?_⟩,fun h'=>(h' he0).elim⟩⟩
  ·rw[eF,Nat.zero_add,Nat.mul_one];exact hleft3.w (by omega)
  rintro H4 hH4
  rw[eF,Nat.zero_add,Nat.mul_one] at hH4
  have hput:=hleft3.set (w:=f.k-1)
  rw[hkl] at hput
  have hH4':H4=wr H3 b F.length (.int .u64 ((f.k-1).toNat:Int)):=hH4
  rw[<-hH4'] at hput
  have m4:Mod [b] H3 H4:=by rw[hH4];exact Mod.refl.wr (.inl (by simp))
  clear hH4 hH4'
  have hO4:=(hO.mod e3 (by simp)).mod m4 (by simp;omega)
  have hown4:=(hown.mod e13 (by simp)).mod m4 (by simpa using Ne.symm hbr)
  have m14:Mod [br] H H4:=(hmod.thenExt e13).trans_new m4 (by simpa using .inr hne)
  have htop4:=hput.top
  rw[hkl] at htop4
  refine⟨⟨by omega,by omega⟩,⟨by omega,by omega⟩,_,by rw[eF,Nat.zero_add,Nat.mul_one];exact htop4,fun hpos=>?_,fun hpos=>?_⟩
  ·have hk1:1<f.k.toNat:=by
    have:=UInt64.lt_iff_toNat_lt.1 hpos
    rw[u64_pred hk0] at this;simp at this;omega
   have hJ:J (fwLeft f.b ({ f with k:=f.k-1 } ::F)) b 0 ((at_-f.b.flat.length:Nat):Int) (((f ::F).length:Nat):Int) (done.length:Int) H4:=by
    refine⟨at_-f.b.flat.length,f.b,{ f with k:=f.k-1 } ::F,done,rfl,rfl,by simp,rfl,rfl,hagain hk1,by rw[<-hdone,fwRem_again hk1],by simpa using hput,hown4,m14,hne⟩
   exact⟨_,hO4.rd 5 rfl,⟨_,hJ⟩,Nat.lt_of_lt_of_eq (least_lt hJ (fwLeft_again hk1)) hNe.symm⟩
  ·have hk1:¬1<f.k.toNat:=by
    intro h1
    apply hpos
    rw[UInt64.lt_iff_toNat_lt,u64_pred hk0];simp;omega
   have hJ:J (fwLeft f.r F) b 0 ((at_:Int)+1) ((((f ::F).length:Nat):Int)-1) (done.length:Int) H4:=by
    refine⟨at_+1,f.r,F,done,by push_cast;rfl,rfl,by simp,rfl,rfl,hout,by rw[<-hdone,fwRem_out hk1],hput.pop,hown4,m14,hne⟩
   exact⟨⟨by omega,by omega⟩,⟨_,hJ⟩,Nat.lt_of_lt_of_eq (least_lt hJ fwLeft_out) hNe.symm⟩
end Go.VC
namespace Go.VC
open Go Go.Proofs
theorem c313 {H:Heap}{R:Value->Heap->Prop}{a:Option Addr}{l c:Nat}{t:Tree}(hc:RowC H a l (t.link 0))(tok:t.Ok)(tfull:t.Full)(td:t.depth<=8){br c1 kt c2:Nat}{regs tp:List UInt64}(hr:Own H br (u64s regs))(ht:Own H kt (u64s tp))(htl:tp.length=t.size)(hbb:br≠kt)(hkl:kt<H.size)
  (hoff:0<l->Off [br,kt] a) (ho:∀o∈t.unroll,RegOk regs.length o) (hsz:t.size<=65536) (h0:0<regs.length) (hl4:(t.link 0).length<=4096)
  (k:∀H',Own H' br (u64s (fwd t.unroll regs))->Own H' kt (u64s (taped t.unroll regs))->Mod [br,kt] H H'->R (.int .i64 (t.size:Int)) H') :
  Ru 313 [.slice a l c,.slice (some ⟨br,0,none⟩) regs.length c1,.slice (some ⟨kt,0,none⟩) tp.length c2] H R:=by
 have hcl:=hc.len
 have hrl:br<H.size:=hr.lt (u64s_ne h0)
 let J:Nat->Nat->Nat->Int->Int->Int->Heap->Prop:=fun N b o n n1 n2 H'=>∃(at_:Nat) (u:Tree) (F:List Fw) (done:List Op),n=(at_:Int)/\o=0/\n1=(F.length:Int)/\n2=((done.length:Nat):Int)/\N=fwLeft u F/\FwAt (t.link 0) at_ u F/\done++fwRem u F=t.unroll/\
  Lft H' b (F.map Fw.k).reverse/\Own H' br (u64s (fwd done regs))/\Own H' kt (u64s (taped done regs++tp.drop done.length))/\Mod [br,kt] H H'/\H.size<=b
 refine v313 _ _ _ _ _ _ _ _ _ ⟨fun b o n n1 n2 H'=>∃N,J N b o n n1 n2 H',fun b o n n1 n2 H'=>least fun N=>J N b o n n1 n2 H',fun H1 p n1=>⟨_,0,t,[],[],rfl,rfl,rfl,rfl,rfl,FwAt.start tok tfull td,?_,n1.lft,hr.mod n1.mod (by simp),by simpa [taped] using ht.mod n1.mod (by simp),n1.mod.ext,n1.ge⟩,?_⟩
 ·simp[fwRem,fwRest]
 rintro H1 b o n n1 n2 ⟨N0,hN0⟩
 have hN:=least_spec (p:=fun N=>J N b o n n1 n2 H1) hN0
 clear hN0 N0
 obtain⟨at_,u,F,done,rfl,rfl,rfl,rfl,hNe,hat,hdone,hleft,hown,hown2,hmod,hne⟩:=hN
 have hdl:done.length<=65536:=by have:=congrArg List.length hdone;rw[<-t.size_eq,List.length_append] at this;omega
 have hle:=hat.le
 have hfl:=(fwd_length done regs)
 have husz:=t.size_eq
 refine⟨fun he=>?_,fun he=>?_⟩
 ·have hend:u=.nil/\F=[]:=by
   have h1:=hat.here
   rw[List.drop_of_length_le (by omega)] at h1
   have h2:=List.append_eq_nil_iff.1 h1.symm
   constructor
   ·cases u with
    | nil=>rfl
    | op _ _=>simp[Tree.link] at h2
    | rep _ _ _ _=>simp[Tree.link] at h2
   ·cases F with
    | nil=>rfl
    | cons f F=>simp[fwCode] at h2
  obtain⟨rfl,rfl⟩:=hend
  simp only[fwRem,Tree.unroll,fwRest,List.append_nil] at hdone
  rw[hdone] at hown hown2 ⊢
  rw[List.drop_of_length_le (by omega),List.append_nil] at hown2
  rw[<-husz]
  exact k _ hown hown2 hmod
 have hbr:b≠br:=by omega
 have hbk:b≠kt:=by omega
 have hdt:done.length+(fwRem u F).length=t.size:=by rw[husz,<-hdone,List.length_append]
 have hrow:RowC H1 a l (t.link 0):=hmod.rowz hoff hc
 have hbl:=hleft.lt
 match u,F with
 | .nil,[]=>have:=hat.done;omega
 | .op o r,F=>
  obtain⟨hx,hat2⟩:=hat.op
  refine RowC.load hrow hx rfl fun H2 p hO e2 hp hpl=>⟨⟨by omega,by omega⟩,copyN (n:=5) (rdL_append.1 hO.1).1 (by rfl) (by rfl) opC_one fun H3 p3 hO3 e3 hp3 hpl3=>?_⟩
  have hk1:=hat.ok.1;have hk2:=hat.ok.2.1
  have hro:RegOk regs.length o:=ho o (by rw[<-hdone,fwRem_op];simp)
  obtain⟨r1,r2,r3,r4,r5,r6⟩:=hro
  have e13:=e2.thenExt e3
  have hown3:=hown.mod e13 (by simp)
  have hz13:=e13.1
  have hown23:=hown2.mod e13 (by simp)
  rw[fwRem_op,List.length_cons] at hdt
  have hkw:=hown23.wu (i:=(done.length:Int)) (by omega) (by simp[taped_length];omega)
  refine⟨_,hO3.rd 0 rfl,fun h'=>by omega,fun _=>⟨fun h'=>by omega,fun _=>⟨_,hO3.rd 1 rfl,br,0,rfl,⟨r1,r2⟩,_,hown3.u64 r1 (by omega),kt,0,rfl,⟨by omega,by omega⟩,hkw,?_⟩⟩⟩
  intro H4 h4
  have hown24:=hown23.setu (done.length:Int).toNat (rg (fwd done regs) o.d)
  rw[<-h4] at hown24
  have m4:Mod [kt] H3 H4:=by rw[h4];exact Mod.refl.wr (.inl (by simp))
  clear h4 hkw
  have hset:(taped done regs++tp.drop done.length).set (done.length:Int).toNat (rg (fwd done regs) o.d)=taped (done++[o]) regs++tp.drop (done.length+1):=by
   rw[taped_append,Int.toNat_natCast,List.drop_eq_getElem_cons (by omega)]
   have:=set_mid (taped done regs) (tp.drop (done.length+1)) (tp[done.length]'(by omega)) (rg (fwd done regs) o.d) done.length (by rw[taped_length])
   rw[this];simp[taped]
  rw[hset] at hown24
  have hO4:=hO3.mod m4 (by simp;omega)
  have hown4:=hown3.mod m4 (by simpa using hbb)
  refine⟨⟨by omega,by omega⟩,_,hO4.rd 1 rfl,_,rfl,hO4.1,_,hO4.rd 2 rfl,br,0,rfl,⟨r3,r4⟩,_,hown4.u64 r3 (by omega),_,hO4.rd 3 rfl,br,0,rfl,⟨r5,r6⟩,_,hown4.u64 r5 (by omega),?_⟩
  refine c338 o _ _ fun H5 e5=>⟨_,rfl,e5.rd (by simp) (hO4.rd 1 rfl),br,0,rfl,⟨r1,r2⟩,(hown4.mod e5 (by simp)).wu r1 (by omega),?_⟩
  intro H6 h6
  have hown6:=(hown4.mod e5 (by simp)).setu o.d.toNat (applyOp o (rg (fwd done regs) o.a) (rg (fwd done regs) o.b))
  rw[<-h6] at hown6
  have m6:Mod [br] H5 H6:=by rw[h6];exact Mod.refl.wr (.inl (by simp))
  clear h6
  have mall:Mod [br,kt] H1 H6:=((Mod.ext e13).trans (m4.mono (by simp))).trans ((Mod.ext e5).trans (m6.mono (by simp)))
  have hJ:J (fwLeft r F) b 0 ((at_:Int)+1) (F.length:Int) ((done.length:Int)+1) H6:=by
   refine⟨at_+1,r,F,done++[o],by push_cast;rfl,rfl,rfl,by simp,rfl,hat2,?_,hleft.mod mall (by simp;omega),?_,?_,hmod.trans mall,hne⟩
   ·rw[<-hdone,fwRem_op];simp
   ·rw[fwd_append];exact hown6
   ·have:=(hown24.mod e5 (by simp)).mod m6 (by simpa using Ne.symm hbb)
    simpa using this
  exact⟨⟨_,hJ⟩,Nat.lt_of_lt_of_eq (least_lt hJ (by simp only[fwLeft,Tree.steps];omega)) hNe.symm⟩
 | .rep o bt e r,F=>
  obtain⟨hx,hat2⟩:=hat.rep
  refine RowC.load hrow hx rfl fun H2 p hO e2 hp hpl=>⟨⟨by omega,by omega⟩,copyN (n:=5) (rdL_append.1 hO.1).1 (by rfl) (by rfl) opC_one fun H3 p3 hO3 e3 hp3 hpl3=>?_⟩
  have e13:=e2.thenExt e3
  have hd:=hat.deep
  simp only[Tree.depth] at hd
  have hleft3:=hleft.mod e13 (by simp)
  have hkl:(F.map Fw.k).reverse.length=F.length:=by simp
  refine⟨_,hO3.rd 0 rfl,fun _=>⟨_,hO3.rd 4 rfl,⟨by omega,by omega⟩,?_,?_⟩,fun h'=>(h' hat.ok.1).elim⟩
  ·rw[Nat.zero_add,Nat.mul_one,Int.toNat_natCast];exact hleft3.w (by omega)
  rintro H4 hH4
  rw[Nat.zero_add,Nat.mul_one,Int.toNat_natCast] at hH4
  have hput:=hleft3.put (v:=o.v) (by omega)
  rw[hkl,<-hH4] at hput
  have m4:Mod [b] H3 H4:=by rw[hH4];exact Mod.refl.wr (.inl (by simp))
  clear hH4
  have hJ:J (fwLeft bt (⟨o.v,o,bt,e,r⟩ ::F)) b 0 ((at_:Int)+1) ((F.length:Int)+1) (done.length:Int) H4:=by
   refine⟨at_+1,bt,⟨o.v,o,bt,e,r⟩ ::F,done,by push_cast;rfl,rfl,by simp,rfl,rfl,hat2,by rw[<-hdone,fwRem_rep hat.full.1],by simpa using hput,(hown.mod e13 (by simp)).mod m4 (by simpa using Ne.symm hbr),(hown2.mod e13 (by simp)).mod m4 (by simpa using Ne.symm hbk),(hmod.thenExt e13).trans_new m4 (by simpa using .inr hne),hne⟩
  exact⟨⟨by omega,by omega⟩,⟨_,hJ⟩,Nat.lt_of_lt_of_eq (least_lt hJ (fwLeft_rep hat.full.1)) hNe.symm⟩
 | .nil,f ::F=>
  obtain⟨hx,hagain,hout⟩:=hat.end_
  obtain⟨_,_,hk0,_,he0,_⟩:=hat.fr
  refine RowC.load hrow hx rfl fun H2 p hO e2 hp hpl=>⟨⟨by omega,by omega⟩,copyN (n:=5) (rdL_append.1 hO.1).1 (by rfl) (by rfl) opC_one fun H3 p3 hO3 e3 hp3 hpl3=>?_⟩
  have e13:=e2.thenExt e3
  have hleft3:=hleft.mod e13 (by simp)
  simp only[List.map_cons,List.reverse_cons] at hleft3
  have hkl:(F.map Fw.k).reverse.length=F.length:=by simp
  have hle8:=hleft3.le
  simp at hle8
  have eF:((((f ::F).length:Nat):Int)-1).toNat=F.length:=by simp
  have eF1:(((f ::F).length:Nat):Int)=(F.length:Int)+1:=by simp
  have htop:=hleft3.top
  rw[hkl] at htop
  refine⟨_,hO3.rd 0 rfl,fun h'=>by omega,fun _=>⟨fun _=>⟨⟨by omega,by omega⟩,⟨by omega,by omega⟩,_,by rw[eF,Nat.zero_add,Nat.mul_one];exact htop,⟨by omega,by omega⟩,?_,?_⟩,fun h'=>(h' he0).elim⟩⟩
  ·rw[eF,Nat.zero_add,Nat.mul_one];exact hleft3.w (by omega)
  rintro H4 hH4
  rw[eF,Nat.zero_add,Nat.mul_one] at hH4
  have hput:=hleft3.set (w:=f.k-1)
  rw[hkl] at hput
  have hH4':H4=wr H3 b F.length (.int .u64 ((f.k-1).toNat:Int)):=hH4
  rw[<-hH4'] at hput
  have m4:Mod [b] H3 H4:=by rw[hH4];exact Mod.refl.wr (.inl (by simp))
  clear hH4 hH4'
  have hO4:=(hO.mod e3 (by simp)).mod m4 (by simp;omega)
  have hown4:=(hown.mod e13 (by simp)).mod m4 (by simpa using Ne.symm hbr)
  have hown24:=(hown2.mod e13 (by simp)).mod m4 (by simpa using Ne.symm hbk)
  have m14:Mod [br,kt] H H4:=(hmod.thenExt e13).trans_new m4 (by simpa using .inr hne)
  have htop4:=hput.top
  rw[hkl] at htop4
  refine⟨⟨by omega,by omega⟩,⟨by omega,by omega⟩,_,by rw[eF,Nat.zero_add,Nat.mul_one];exact htop4,fun hpos=>?_,fun hpos=>?_⟩
  ·have hk1:1<f.k.toNat:=by
    have:=UInt64.lt_iff_toNat_lt.1 hpos
    rw[u64_pred hk0] at this;simp at this;omega
   have hJ:J (fwLeft f.b ({ f with k:=f.k-1 } ::F)) b 0 ((at_-f.b.flat.length:Nat):Int) (((f ::F).length:Nat):Int) (done.length:Int) H4:=by
    refine⟨at_-f.b.flat.length,f.b,{ f with k:=f.k-1 } ::F,done,rfl,rfl,by simp,rfl,rfl,hagain hk1,by rw[<-hdone,fwRem_again hk1],by simpa using hput,hown4,hown24,m14,hne⟩
   exact⟨_,hO4.rd 5 rfl,⟨_,hJ⟩,Nat.lt_of_lt_of_eq (least_lt hJ (fwLeft_again hk1)) hNe.symm⟩
  ·have hk1:¬1<f.k.toNat:=by
    intro h1
    apply hpos
    rw[UInt64.lt_iff_toNat_lt,u64_pred hk0];simp;omega
   have hJ:J (fwLeft f.r F) b 0 ((at_:Int)+1) ((((f ::F).length:Nat):Int)-1) (done.length:Int) H4:=by
    refine⟨at_+1,f.r,F,done,by push_cast;rfl,rfl,by simp,rfl,rfl,hout,by rw[<-hdone,fwRem_out hk1],hput.pop,hown4,hown24,m14,hne⟩
   exact⟨⟨by omega,by omega⟩,⟨_,hJ⟩,Nat.lt_of_lt_of_eq (least_lt hJ fwLeft_out) hNe.symm⟩
end Go.VC
