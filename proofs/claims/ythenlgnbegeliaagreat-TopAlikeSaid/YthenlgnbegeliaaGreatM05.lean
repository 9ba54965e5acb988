/- Texts that the claim rests on: CDrv6, CDrv7, CDrv8, PDrv, CDo, CDo2, CNew, CNew2, CNew3, CEng, CEng2, POff, PStr, CEng3, VRef, CRef2, CIter2, CIter3, CIter4, CUnroll, CTidy, PSeg, CPlaces, POpen, COpen, CRef12, PAlong, PAlike, CLook3. No condition. -/
import Derived.Test.YthenlgnbegeliaaGreatM04
namespace Go.VC
open Go Go.Proofs
theorem c188 {H:Heap}{R:Value->Heap->Prop}{b:DB}{h:Hdr}{d:DS}{s:PS}{K post:List UInt64}(v:Drv H b h d s K post)(hth:s.th=h.th)(t:Nat)(ha:d.at_=t)(hst:s.st=st h t)(n:Nat)(htn:t+n<65536)
  (hpl:0<=d.plain/\d.plain<=4611686018427387904)
  (k:∀H' sr,Drv H' b h { d with plain:=d.plain+n } { s with st:=st h (t+n),sr:=sr } K post->Mod [b.d,b.w] H H'->R (.tuple #[]) H'):Ru 188 [.pointer (some ⟨b.d,0,none⟩),.int .i64 (n:Int)] H R:=by
 have ok:=v.ok.1
 obtain⟨hrs,hrl⟩:=ok_regs ok
 have hd:=ok.dims
 obtain⟨d1,d2,d3,d4,d5⟩:=ok.dims
 have hnS:nS h=h.step.regs.toNat:=rfl
 refine v188 _ _ _ ⟨fun i H'=>∃j:Nat,i=j/\j<=n/\∃sr,Drv H' b h { d with plain:=d.plain+j } { s with st:=st h (t+j),sr:=sr } K post/\Mod [b.d,b.w] H H',fun i _=>(n-i).toNat,⟨0,rfl,by omega,s.sr,?_,Mod.refl⟩,?_⟩
 ·have e1:({ d with plain:=d.plain+((0:Nat):Int) }:DS)=d:=by simp
  have e2:({ s with st:=st h (t+0),sr:=s.sr }:PS)=s:=by rw[Nat.add_zero,<-hst]
  rw[e1,e2];exact v
 rintro H1 _ ⟨j,rfl,hj,sr,v1,m1⟩
 refine⟨fun hlt=>?_,fun hge=>?_⟩
 ·have hlen:=v1.lens
  have hxl:(st h (t+j)).length=nX h:=st_length hd _
  have hat:UInt64.ofInt (d.at_+(j:Int))=UInt64.ofNat (t+j):=by rw[ha,<-Int.natCast_add];exact ofInt_nat _
  have hin:padTo (nS h) (st h (t+j)++s.th++[UInt64.ofNat (t+j)])=stepIn h (t+j) (st h (t+j)):=by rw[hth];rfl
  have rst:∀{H':Heap},Ext H1 H'->RdL H' b.d (0+7) (progC h.step b.hp.sa h.step.ops.length b.hp.sc):=fun e=>(v1.ext e).stepC
  have tail:∀(H2:Heap) (a:Option Addr) (c:Nat),Ext H1 H2->RowU H2 a (nS h) (stepIn h (t+j) (st h (t+j)))->
    Ru 205 [.agg (progC h.step b.hp.sa h.step.ops.length b.hp.sc).toArray,.slice a (nS h) c] H2 fun r H'=>∃a l c n_2,r=.tuple #[.slice a l c,.int .i64 n_2]/\Ru 112 [.pointer (some ⟨b.d,0,none⟩),.int .i64 2,.slice a l c] H' fun r H'=>∃a_2 l c_1,rd H' b.d (0+5)=some (.slice a_2 l c_1)/\((0:Int)<=(l:Int)/\(l:Int)<=(c:Int))/\Ru 112 [.pointer (some ⟨b.d,0,none⟩),.int .i64 1,.slice a (Int.toNat (l:Int)) c] H' fun r H'=>∃n_3,rd H' b.d (0+20)=some (.int .i64 n_3)/\I64 (n_3+1)/\WOk H' b.d (0+20) 1/\∀H'_2,H'_2=wr H' b.d (0+20) (.int .i64 (n_3+1))->I64 ((j:Int)+1)/\(∃j_1:Nat,(j:Int)+1=j_1/\j_1<=n/\∃sr,Drv H'_2 b h { d with plain:=d.plain+j_1 } { s with st:=st h (t+j_1),sr:=sr } K post/\Mod [b.d,b.w] H H'_2)/\((n:Int)-((j:Int)+1)).toNat<((n:Int)-(j:Int)).toNat:=by
   intro H2 a c e2 hrow
   have v2:=v1.ext e2
   refine c205 v2.rows.s v2.rows.s1 ok.step hrow rfl fun H3 q o3 e3 hq=>⟨_,_,_,_,rfl,?_⟩
   have v3:=v2.ext e3
   have hol:(fwd (unr h.step) (stepIn h (t+j) (st h (t+j)))).length=nS h:=by rw[fwd_length,stepIn_length hd hxl]
   refine c112 v3 2 (by omega) (o3.rowU hol.symm) (by show _<=sr.length;have:=hlen.sr;dsimp only at this;omega) fun H4 v4 m4=>?_
   have hql:q<H3.size:=o3.lt (u64s_ne (by omega))
   have hqw:q≠b.w:=by
    intro e
    have hf:DOff h b [q]:=v1.fresh (by simp;have:=e2.1;omega)
    exact hf.w (by simp[e])
   have o4:=o3.mod m4 (by simpa using hqw)
   have hnx:h.x.length=nX h:=rfl
   refine⟨_,_,_,by rw[Nat.zero_add];exact v4.rd 5 rfl,⟨by omega,by omega⟩,?_⟩
   rw[Int.toNat_natCast,hnx]
   refine c112 v4 1 (by omega) (o4.rowT (l:=nX h) (by rw[hol];simp only[nX];omega)) (by show _<=(st h (t+j)).length;omega) fun H5 v5 m5=>⟨_,by rw[Nat.zero_add];exact v5.rd 20 rfl,⟨by dsimp only;omega,by dsimp only;omega⟩,by rw[Nat.zero_add];exact v5.top.w 20 1 rfl,fun H6 h6=>?_⟩
   have o6:=v5.top.wr 20 (.int .i64 (d.plain+j+1))
   rw[Nat.zero_add] at h6
   rw[<-h6] at o6
   have m6:Mod [b.d] H5 H6:=by rw[h6];exact Mod.refl.wr (.inl (by simp))
   clear h6
   have e20:d.plain+(j:Int)+1=d.plain+((j+1:Nat):Int):=by push_cast;omega
   rw[e20] at o6
   have v6:=v5.setD { d with plain:=d.plain+((j+1:Nat):Int) } o6 m6 rfl rfl
   refine⟨⟨by omega,by omega⟩,⟨j+1,by push_cast;rfl,by omega,stepOut h (t+j) (st h (t+j)),?_,?_⟩,by omega⟩
   ·have hP:putP (putP ({ s with st:=st h (t+j),sr:=sr }:PS).l 2 (fwd (unr h.step) (stepIn h (t+j) (st h (t+j))))) 1 ((fwd (unr h.step) (stepIn h (t+j) (st h (t+j)))).take (nX h))=({ s with st:=st h (t+(j+1)),sr:=stepOut h (t+j) (st h (t+j)) }:PS).l:=by
     have e1:sr.drop (fwd (unr h.step) (stepIn h (t+j) (st h (t+j)))).length=[]:=List.drop_of_length_le (by have:=hlen.sr;dsimp only at this;omega)
     have hx1:st h (t+(j+1))=(fwd (unr h.step) (stepIn h (t+j) (st h (t+j)))).take (nX h):=rfl
     have e2:(st h (t+j)).drop ((fwd (unr h.step) (stepIn h (t+j) (st h (t+j)))).take (nX h)).length=[]:=List.drop_of_length_le (by rw[<-hx1];simp only[st_length hd];exact Nat.le_refl _)
     have e3:putP (putP ({ s with st:=st h (t+j),sr:=sr }:PS).l 2 (fwd (unr h.step) (stepIn h (t+j) (st h (t+j))))) 1 ((fwd (unr h.step) (stepIn h (t+j) (st h (t+j)))).take (nX h)) =
      [s.th,(fwd (unr h.step) (stepIn h (t+j) (st h (t+j)))).take (nX h)++(st h (t+j)).drop ((fwd (unr h.step) (stepIn h (t+j) (st h (t+j)))).take (nX h)).length,fwd (unr h.step) (stepIn h (t+j) (st h (t+j)))++sr.drop (fwd (unr h.step) (stepIn h (t+j) (st h (t+j)))).length,s.lr,s.ad,s.ax,s.ag,s.tp]:=rfl
     rw[e3,e1,e2,List.append_nil,List.append_nil];rfl
    rw[hP] at v6
    exact v6
   ·exact m1.trans ((Mod.ext (e2.thenExt e3)).trans ((m4.mono (by simp)).trans ((m5.mono (by simp)).trans (m6.mono (by simp)))))
  refine⟨_,rfl,rst Mod.refl,_,rfl,rst Mod.refl,d.at_,by rw[Nat.zero_add];exact v1.rd 18 rfl,⟨by omega,by omega⟩,?_⟩
  rw[hat]
  have beg:∀(H2:Heap) (a:Option Addr) (c q:Nat) (K':Value->Heap->Prop),Ext H1 H2->RowU H2 a (st h (t+j)).length (st h (t+j))->RowU H2 (some ⟨q,0,none⟩) 1 [UInt64.ofNat (t+j)]->
    (∀a c H3,Buf 1 H3 H2.size a (nS h) c (u64s (stepIn h (t+j) (st h (t+j))))->Ext H2 H3->K' (.slice a (nS h) c) H3)->Ru 233 [.pointer (some ⟨b.d,0,none⟩),.agg (progC h.step b.hp.sa h.step.ops.length b.hp.sc).toArray,.slice a (st h (t+j)).length c,.slice (some ⟨q,0,none⟩) 1 1] H2 K':=by
   intro H2 a c q K' e2 hx hq hk
   refine c233 (v1.ext e2) h.step hx hq (by have:=hlen.th;dsimp only at this;rw[hxl,this];simp only[nX,nT];omega) hrs fun a' c' H3 hB e3=>?_
   have hB':Buf 1 H3 H2.size a' (nS h) c' (u64s (padTo (nS h) (st h (t+j)++s.th++[UInt64.ofNat (t+j)]))):=hB
   rw[hin] at hB'
   exact hk a' c' H3 hB' e3
  refine⟨c121 v1 1 (by omega) fun a c H2 hB e2=>⟨_,_,_,rfl,by rw[Nat.zero_add];exact (v1.ext e2).rd 18 rfl,rst e2,rst e2,fun H3 q n3=>⟨rst (e2.new n3),rst (e2.new n3),?_⟩⟩,fun H2 q n2=>⟨rst n2.mod,rst n2.mod,c121 (v1.ext n2.mod) 1 (by omega) fun a c H3 hB e3=>⟨_,_,_,rfl,by rw[Nat.zero_add];exact (v1.ext (n2.mod.thenExt e3)).rd 18 rfl,rst (n2.mod.thenExt e3),rst (n2.mod.thenExt e3),?_⟩⟩⟩
  ·exact beg H3 a c q _ (e2.new n3) (hB.ext n3.mod).row n3.oneU fun a' c' H4 hB4 e4=>⟨_,_,_,rfl,rst ((e2.new n3).thenExt e4),tail H4 a' c' ((e2.new n3).thenExt e4) hB4.row⟩
  ·exact beg H3 a c q _ (n2.mod.thenExt e3) hB.row (Ext.row e3 n2.oneU) fun a' c' H4 hB4 e4=>⟨_,_,_,rfl,rst ((n2.mod.thenExt e3).thenExt e4),tail H4 a' c' ((n2.mod.thenExt e3).thenExt e4) hB4.row⟩
 ·have:j=n:=by omega
  subst this
  exact k H1 sr v1 m1
end Go.VC
namespace Go.VC
open Go Go.Proofs
variable {H:Heap}{R:Value->Heap->Prop}
theorem DrvM.shelf {H:Heap}{b:DB}{h:Hdr}{d:DS}{s:PS}{l:List Held}{post:List UInt64}(v:Drv H b h d s (slotsW (nX h) l) post)(hm:h.mode≠3)(hl:l.length=(slotsOf h).toNat)(hok:∀x∈l,HeldOk (nX h) x) :
  Shelf H b.s b.a b.w s.l.flatten l post (nX h) (s.l.flatten.length+(slotsW (nX h) l).length):=by
 have h1:=v.sl hm
 obtain⟨d1,d2,d3,d4,d5⟩:=v.ok.1.dims
 rw[<-hl] at h1
 exact⟨h1,v.ar,by rw[slotsW_length hok];exact Nat.le_refl _,by simp only[nX];omega,by simp only[nX];omega,hok,v.so.2.1,v.so.2.2.1⟩
theorem slot_eq {h:Hdr}(hm:h.mode≠3):slotOf h=(nX h:Int)+1:=by
 have:slotOf h=if h.mode=3 then (wr_ h.step:Int)+h.step.regs else (h.x.length:Int)+1:=rfl
 rw[this,if_neg hm];rfl
theorem c242' {bs ba bw:Nat}{pre post:List UInt64}{l:List Held}{x given lx:Nat}{tt:Int}(e:lx=x)(h:Shelf H bs ba bw pre l post x given)(k:Nat)(hk:k<l.length)(hn:l[k]=none)(t:Nat)(et:tt=t)(ht:t<65536)
  {a:Option Addr} {c:Nat} {xs:List UInt64} (hx:RowU H a x xs)
  (K:∀(r:Int) (H':Heap),Shelf H' bs ba bw pre (l.set k (some (t,xs))) post x given->Mod [bw] H H'->R (.int .i64 r) H'):Ru 242 [.pointer (some ⟨bs,0,none⟩),.int .i64 (k:Int),.int .i64 tt,.slice a lx c] H R:=by
 subst e;subst et;exact c242 h k hk hn t ht hx K
theorem DrvM.reshelf {H H':Heap}{b:DB}{h:Hdr}{d:DS}{s:PS}{l l':List Held}{post:List UInt64}(v:Drv H b h d s (slotsW (nX h) l) post)(hok:∀x∈l,HeldOk (nX h) x)(hl:l'.length=l.length){g:Nat}
  (hS:Shelf H' b.s b.a b.w s.l.flatten l' post (nX h) g) (m:Mod [b.w] H H') (hg:g=s.l.flatten.length+(slotsW (nX h) l).length:=by rfl):Drv H' b h d s (slotsW (nX h) l') post:=by
 subst hg
 exact v.setW hS.ar m rfl (by rw[slotsW_length hS.ok,slotsW_length hok,hl])
theorem c189 {b:DB}{h:Hdr}{d:DS}{s:PS}{l:List Held}{post:List UInt64}(v:Drv H b h d s (slotsW (nX h) l) post)(hm:h.mode≠3)(hl:l.length=(slotsOf h).toNat)(hok:∀x∈l,HeldOk (nX h) x)
  (k:Nat) (hk:k<l.length) (hn:l[k]=none) (t:Nat) (ha:d.at_=t) (ht:t<65536) (h0:0<=d.live) (hw:d.live+slotOf h<=h.words)
  (K:∀H',Drv H' b h { d with live:=d.live+slotOf h,peak:=max d.peak (d.live+slotOf h) } s (slotsW (nX h) (l.set k (some (t,s.st)))) post->Mod [b.m,b.w] H H'->R (.tuple #[]) H'):Ru 189 [.pointer (some ⟨b.d,0,none⟩),.int .i64 (k:Int)] H R:=by
 have ok:=v.ok.1
 have hwd:=ok.words
 have hse:=slot_eq hm
 refine v189 _ _ _ ⟨_,by rw[Nat.zero_add];exact v.rd 16 rfl,_,by rw[Nat.zero_add];exact v.rd 2 rfl,?_⟩
 refine c108 (slotOf h) v.met (by omega) hw h0 (by omega) fun H1 o1 m1=>⟨_,rfl,?_⟩
 have v1:=v.setM _ _ o1 m1
 have hsp:slotsPtr h b=.pointer (some ⟨b.s,0,none⟩):=by unfold slotsPtr;rw[if_neg hm]
 refine⟨_,by rw[Nat.zero_add];exact v1.rd 15 rfl,_,by rw[Nat.zero_add];exact v1.rd 18 rfl,c121 v1 1 (by omega) fun a c H2 hB e2=>⟨_,_,_,rfl,by rw[Nat.zero_add];exact (v1.ext e2).rd 18 rfl,by rw[Nat.zero_add];exact (v1.ext e2).rd 15 rfl,?_⟩⟩
 have v2:=v1.ext e2
 have hsh:=v2.shelf hm hl hok
 rw[hsp]
 have hrow:RowU H2 a (nX h) s.st:=by have:=hB.row;have hs:=v.lens.st;rw[<-hs];exact this
 refine c242' (lx:=s.st.length) v.lens.st hsh k hk hn t ha ht hrow fun r H3 hS m3=>⟨_,rfl,?_⟩
 have v3:=v2.reshelf hok (by rw[List.length_set]) hS m3
 refine K H3 v3 ((m1.mono (by simp)).trans ((Mod.ext e2).trans (m3.mono (by simp))))
theorem c190 {b:DB}{h:Hdr}{d:DS}{s:PS}{l:List Held}{post:List UInt64}(v:Drv H b h d s (slotsW (nX h) l) post)(hm:h.mode≠3)(hl:l.length=(slotsOf h).toNat)(hok:∀x∈l,HeldOk (nX h) x)
  (k:Nat) (hk:k<l.length) {t:Nat} {xs:List UInt64} (hn:l[k]=some (t,xs))
  (K:∀H',Drv H' b h d { s with st:=xs } (slotsW (nX h) l) post->Mod [b.w] H H'->R (.tuple #[]) H'):Ru 190 [.pointer (some ⟨b.d,0,none⟩),.int .i64 (k:Int)] H R:=by
 have hsp:slotsPtr h b=.pointer (some ⟨b.s,0,none⟩):=by unfold slotsPtr;rw[if_neg hm]
 have hxl:xs.length=nX h:=by have:=hok _ (List.getElem_mem hk);rw[hn] at this;exact this.2
 have hlen:=v.lens
 refine v190 _ _ _ ⟨_,by rw[Nat.zero_add];exact v.rd 15 rfl,?_⟩
 rw[hsp]
 refine c243 (v.shelf hm hl hok) k hk hn fun a c H1 hB e1=>⟨_,_,_,_,_,rfl,?_⟩
 have v1:=v.ext e1
 refine c112 v1 1 (by omega) hB.row (by show _<=s.st.length;rw[hlen.st];exact Nat.le_refl _) fun H2 v2 m2=>?_
 have hP:putP s.l 1 xs=({ s with st:=xs }:PS).l:=by
  have e1:s.st.drop xs.length=[]:=List.drop_of_length_le (by rw[hlen.st,hxl];exact Nat.le_refl _)
  have e3:putP s.l 1 xs=[s.th,xs++s.st.drop xs.length,s.sr,s.lr,s.ad,s.ax,s.ag,s.tp]:=rfl
  rw[e3,e1,List.append_nil];rfl
 rw[hP] at v2
 exact K H2 v2 ((Mod.ext e1).trans m2)
theorem c191 {b:DB}{h:Hdr}{d:DS}{s:PS}{l:List Held}{post:List UInt64}(v:Drv H b h d s (slotsW (nX h) l) post)(hm:h.mode≠3)(hl:l.length=(slotsOf h).toNat)(hok:∀x∈l,HeldOk (nX h) x)
  (k:Nat) (hk:k<l.length) (hn:l[k]≠none) (h0:slotOf h<=d.live) (hp:d.live<=d.peak) (hw:d.live<=h.words)
  (K:∀H',Drv H' b h { d with live:=d.live-slotOf h } s (slotsW (nX h) (l.set k none)) post->Mod [b.m,b.w] H H'->R (.tuple #[]) H'):Ru 191 [.pointer (some ⟨b.d,0,none⟩),.int .i64 (k:Int)] H R:=by
 have ok:=v.ok.1
 have hwd:=ok.words
 have hse:=slot_eq hm
 have hsp:slotsPtr h b=.pointer (some ⟨b.s,0,none⟩):=by unfold slotsPtr;rw[if_neg hm]
 refine v191 _ _ _ ⟨_,by rw[Nat.zero_add];exact v.rd 15 rfl,?_⟩
 rw[hsp]
 refine c244 (v.shelf hm hl hok) k hk hn fun H1 hS m1=>⟨_,rfl,?_⟩
 have v1:=v.reshelf hok (by rw[List.length_set]) hS m1
 refine⟨_,by rw[Nat.zero_add];exact v1.rd 16 rfl,_,by rw[Nat.zero_add];exact v1.rd 2 rfl,?_⟩
 refine c185 (slotOf h) v1.met (by omega) h0 hp (by omega) fun H2 o2 m2=>⟨_,rfl,?_⟩
 have v2:=v1.setM _ _ o2 m2
 exact K H2 v2 ((m1.mono (by simp)).trans (m2.mono (by simp)))
theorem c235 {b:DB}{h:Hdr}{d:DS}{s:PS}{K post:List UInt64}(v:Drv H b h d s K post)(n:Nat)(h0:0<=d.live)(hw:d.live+n<=h.words)(g:FuncId)(u w:Array Value)(hg:callable Tryz.prog g=true)
  (k:∀H1,Drv H1 b h { d with live:=d.live+n,peak:=max d.peak (d.live+n) } s K post->Mod [b.m] H H1->Ru g (u.toList++[]++w.toList) H1 fun _ H2=>∃d' s',Drv H2 b h d' s' K post/\d'.live=d.live+n/\d'.peak=max d.peak (d.live+n)/\
   ∀H3,Drv H3 b h { d' with live:=d.live } s' K post->Mod [b.m] H2 H3->R (.tuple #[]) H3) :
  Ru 235 [.pointer (some ⟨b.d,0,none⟩),.int .i64 (n:Int),.func (.func g) u w] H R:=by
 have hwd:=v.ok.1.words
 refine v235 _ _ _ _ ⟨_,by rw[Nat.zero_add];exact v.rd 16 rfl,?_⟩
 refine c108 (n:Int) v.met (by omega) hw h0 (by omega) fun H1 o1 m1=>⟨_,rfl,g,u,w,rfl,hg,?_⟩
 refine (k H1 (v.setM _ _ o1 m1) m1).mono ?_
 rintro r H2 ⟨d',s',v2,e1,e2,k2⟩
 refine⟨_,by rw[Nat.zero_add];exact v2.rd 16 rfl,?_⟩
 have hmet:=v2.met
 refine c185 (n:Int) hmet (by omega) (by omega) (by omega) (by omega) fun H3 o3 m3=>⟨_,rfl,?_⟩
 have v3:=v2.setM _ _ o3 m3
 have:d'.live-(n:Int)=d.live:=by omega
 rw[this] at v3
 exact k2 H3 v3 m3
end Go.VC
namespace Go.VC
open Go Go.Proofs
variable {H:Heap}{R:Value->Heap->Prop}
theorem c237' {b:DB}{h:Hdr}{d:DS}{s:PS}{K post:List UInt64}{lx:Nat}(e:lx=nX h)(v:Drv H b h d s K post)(hth:s.th=h.th){a0:Option Addr}{c0:Nat}{x:List UInt64}(hx:RowU H a0 (nX h) x)
  (hlo:0<=d.losses/\d.losses<=4611686018427387904) (hsw:0<=d.sweeps/\d.sweeps<=4611686018427387904)
  (k:∀H' ad,Drv H' b h { d with losses:=d.losses+1,sweeps:=d.sweeps+1,loss:=rg (lossOut h x) 0 } { s with lr:=lossOut h x,ad:=ad,ax:=headA h (pullLoss h x),ag:=addL s.ag (restA h (pullLoss h x)) } K post->Mod [b.d,b.w] H H'->R (.tuple #[]) H') :
  Ru 237 [.pointer (some ⟨b.d,0,none⟩),.slice a0 lx c0] H R:=by
 subst e;exact c237 v hth hx hlo hsw k
theorem c182 {b:DB}{h:Hdr}{d:DS}{s:PS}{K post:List UInt64}(v:Drv H b h d s K post)(hth:s.th=h.th)(x:Int)(h0:0<=d.live)(hw:d.live+wr_ h.loss<=h.words)
  (hlo:0<=d.losses/\d.losses<=4611686018427387904) (hsw:0<=d.sweeps/\d.sweeps<=4611686018427387904)
  (k:∀H' lr ad,Drv H' b h { d with losses:=d.losses+1,sweeps:=d.sweeps+1,loss:=rg (lossOut h s.st) 0,peak:=max d.peak (d.live+wr_ h.loss) } { s with lr:=lr,ad:=ad,ax:=headA h (pullLoss h s.st),ag:=addL s.ag (restA h (pullLoss h s.st)) } K post->Mod [b.d,b.m,b.w] H H'->R (.tuple #[]) H') :
  Ru 182 [.pointer (some ⟨b.d,0,none⟩),.int .i64 x] H R:=by
 have ok:=v.ok.1
 refine v182 _ _ _ fun H1 p n1=>⟨_,n1.rd 0,b.d,0,rfl,_,rfl,(v.ext n1.mod).hdr,c103 h b.hp (v.ext n1.mod).rows ok fun H2 e2=>⟨_,_,rfl,_,e2.rd (by simp) (n1.rd 0),?_⟩⟩
 have e02:=n1.mod.thenExt e2
 have v2:=v.ext e02
 have hfp:DOff h b [p]:=v.fresh (by simpa using n1.ge)
 refine c235 v2 (wr_ h.loss) h0 hw 236 _ _ (by kernel_rfl) fun H3 v3 m3=>?_
 have rp:rd H3 p 0=some (.pointer (some ⟨b.d,0,none⟩)):=m3.rd (by simp;exact fun e=>hfp.m (by simp[e])) (e2.rd (by simp) (n1.rd 0))
 refine v236 _ _ ⟨_,rp,_,rp,c121 v3 1 (by omega) fun a c H4 hB e4=>⟨_,_,_,rfl,e4.rd (by simp) rp,?_⟩⟩
 have v4:=v3.ext e4
 have hst:=v.lens.st
 have hrow:RowU H4 a (nX h) s.st:=by have:=hB.row;rw[<-hst];exact this
 refine c237' (lx:=s.st.length) hst v4 hth hrow hlo hsw fun H5 ad v5 m5=>⟨_,_,v5,rfl,rfl,fun H6 v6 m6=>?_⟩
 exact k H6 _ _ v6 (((Mod.ext e02).trans (m3.mono (by simp))).trans ((Mod.ext e4).trans ((m5.mono (by simp)).trans (m6.mono (by simp)))))
theorem c193 {b:DB}{h:Hdr}{d:DS}{s:PS}{K post:List UInt64}(v:Drv H b h d s K post)(hth:s.th=h.th)(t:Nat)(ha:d.at_=t)(hx:s.st.length=nX h)(x:Int)(h0:0<=d.live)(hw:d.live+wr_ h.step<=h.words)
  (hta:0<=d.tapd/\d.tapd<=4611686018427387904) (hsw:0<=d.sweeps/\d.sweeps<=4611686018427387904)
  (k:∀H' sr ad,Drv H' b h { d with tapd:=d.tapd+1,sweeps:=d.sweeps+1,peak:=max d.peak (d.live+wr_ h.step) } { s with sr:=sr,ad:=ad,ax:=headA h (pullStep h t s.st s.ax),ag:=addL s.ag (restA h (pullStep h t s.st s.ax)) } K post->Mod [b.d,b.m,b.w] H H'->R (.tuple #[]) H') :
  Ru 193 [.pointer (some ⟨b.d,0,none⟩),.int .i64 x] H R:=by
 have ok:=v.ok.1
 refine v193 _ _ _ fun H1 p n1=>⟨_,n1.rd 0,b.d,0,rfl,_,rfl,(v.ext n1.mod).hdr,c103 h b.hp (v.ext n1.mod).rows ok fun H2 e2=>⟨_,_,rfl,_,e2.rd (by simp) (n1.rd 0),?_⟩⟩
 have e02:=n1.mod.thenExt e2
 have v2:=v.ext e02
 have hfp:DOff h b [p]:=v.fresh (by simpa using n1.ge)
 refine c235 v2 (wr_ h.step) h0 hw 246 _ _ (by kernel_rfl) fun H3 v3 m3=>?_
 have rp:rd H3 p 0=some (.pointer (some ⟨b.d,0,none⟩)):=m3.rd (by simp;exact fun e=>hfp.m (by simp[e])) (e2.rd (by simp) (n1.rd 0))
 refine v246 _ _ ⟨_,rp,_,rp,c180 v3 hth t ha hta fun H4 br c1 bt v4 o4 t4 hne g1 g2 l1 l2 hc m4=>⟨_,_,_,_,_,_,rfl,m4.rd ?_ rp,?_⟩⟩
 ·simp;exact⟨fun e=>hfp.d (by simp[e]),fun e=>hfp.w (by simp[e])⟩
 have hdo:DOff h b [br,bt]:=v3.fresh (by simp;omega)
 refine c184 v4 t s.st hx o4 t4 hne hdo l1 l2 hsw fun H5 ad v5 m5=>⟨_,_,v5,rfl,rfl,fun H6 v6 m6=>?_⟩
 have hz:=e02.1;have hz3:=m3.1
 have m35:Mod [b.d,b.w] H3 H5:=m4.trans_new m5 (by simp;omega)
 exact k H6 _ _ v6 (((Mod.ext e02).trans (m3.mono (by simp))).trans ((m35.mono (by simp)).trans (m6.mono (by simp))))
theorem c192 {b:DB}{h:Hdr}{d:DS}{s:PS}{K post:List UInt64}(v:Drv H b h d s K post)(hth:s.th=h.th)(t:Nat)(ha:d.at_=t)(hx:s.st=st h t)(x:Int)(h0:0<=d.live)(hw:d.live+(wr_ h.step+wr_ h.loss:Nat)<=h.words)
  (hta:0<=d.tapd/\d.tapd<=4611686018427387904) (hlo:0<=d.losses/\d.losses<=4611686018427387904) (hsw:0<=d.sweeps/\d.sweeps<4611686018427387904)
  (k:∀H' sr lr ad,Drv H' b h { d with tapd:=d.tapd+1,losses:=d.losses+1,sweeps:=d.sweeps+1+1,loss:=rg (lossOut h (st h (t+1))) 0,peak:=max d.peak (d.live+(wr_ h.step+wr_ h.loss:Nat)) }
   { s with sr:=sr,lr:=lr,ad:=ad,ax:=headA h (pullStep h t (st h t) (headA h (pullLoss h (st h (t+1))))),ag:=addL (addL s.ag (restA h (pullLoss h (st h (t+1))))) (restA h (pullStep h t (st h t) (headA h (pullLoss h (st h (t+1)))))) } K post->Mod [b.d,b.m,b.w] H H'->R (.tuple #[]) H') :
  Ru 192 [.pointer (some ⟨b.d,0,none⟩),.int .i64 x] H R:=by
 have ok:=v.ok.1
 have hw1:=wr_le ok.step;have hw2:=wr_le ok.loss
 refine v192 _ _ _ fun H1 p n1=>⟨_,n1.rd 0,b.d,0,rfl,_,rfl,(v.ext n1.mod).hdr,c103 h b.hp (v.ext n1.mod).rows ok fun H2 e2=>⟨_,_,rfl,_,e2.rd (by simp) (n1.rd 0),⟨by omega,by omega⟩,?_⟩⟩
 have e02:=n1.mod.thenExt e2
 have v2:=v.ext e02
 have hfp:DOff h b [p]:=v.fresh (by simpa using n1.ge)
 rw[<-Int.natCast_add]
 refine c235 v2 (wr_ h.step+wr_ h.loss) h0 hw 245 _ _ (by kernel_rfl) fun H3 v3 m3=>?_
 have rp:rd H3 p 0=some (.pointer (some ⟨b.d,0,none⟩)):=m3.rd (by simp;exact fun e=>hfp.m (by simp[e])) (e2.rd (by simp) (n1.rd 0))
 have hpS:p∉[b.d,b.w]:=by simp;exact⟨fun e=>hfp.d (by simp[e]),fun e=>hfp.w (by simp[e])⟩
 refine v245 _ _ ⟨_,rp,c180 v3 hth t ha hta fun H4 br c1 bt v4 o4 t4 hne g1 g2 l1 l2 hc m4=>⟨_,_,_,_,_,_,rfl,_,m4.rd hpS rp,_,m4.rd hpS rp,b.d,0,rfl,_,_,_,by rw[Nat.zero_add];exact v4.rd 5 rfl,?_⟩⟩
 have hnx:h.x.length=nX h:=rfl
 have hstl:s.st.length=nX h:=by rw[hx];exact st_length ok.dims t
 have hol:(stepOut h t s.st).length=nS h:=stepOut_length ok.dims hstl
 obtain⟨d1,d2,d3,d4,d5⟩:=ok.dims
 have hnS:nS h=h.step.regs.toNat:=rfl
 rw[hnx,Int.toNat_natCast]
 have hrow:RowU H4 (some ⟨br,0,none⟩) (nX h) (st h (t+1)):=by
  have:=o4.rowT (l:=nX h) (by rw[hol];simp only[nX] at *;omega)
  rw[hx] at this;exact this
 have hdo:DOff h b [br,bt]:=v3.fresh (by simp;omega)
 have hqS:br∉[b.d,b.w]:=by simp;exact⟨fun e=>hdo.d (by simp[e]),fun e=>hdo.w (by simp[e])⟩
 have hqS2:bt∉[b.d,b.w]:=by simp;exact⟨fun e=>hdo.d (by simp[e]),fun e=>hdo.w (by simp[e])⟩
 refine⟨⟨by omega,by simp only[nX] at *;omega⟩,c237 v4 hth hrow hlo ⟨by dsimp only;omega,by dsimp only;omega⟩ fun H5 ad v5 m5=>⟨_,m5.rd hpS (m4.rd hpS rp),?_⟩⟩
 have hz5:=m5.1
 refine c184 v5 t s.st hstl (o4.mod m5 hqS) (t4.mod m5 hqS2) hne hdo (by omega) (by omega) ⟨by dsimp only;omega,by dsimp only;omega⟩ fun H6 ad2 v6 m6=>⟨_,_,v6,rfl,rfl,fun H7 v7 m7=>?_⟩
 have hz:=e02.1;have hz3:=m3.1
 have m36:Mod [b.d,b.w] H3 H6:=(m4.trans m5).trans_new m6 (by simp;omega)
 dsimp only at v7
 rw[hx] at v7
 exact k H7 _ _ _ (by rw[hx];exact v7) (((Mod.ext e02).trans (m3.mono (by simp))).trans ((m36.mono (by simp)).trans (m7.mono (by simp))))
end Go.VC
namespace Go.VC
open Go Go.Proofs
theorem mstep_inv {s m:MS1}{k n:Int}(e:mstep s k n=some m) :
  (k=1/\1<=n/\n<65536/\n<=s.l-s.at_/\m={ s with at_:=s.at_+n,total:=s.total+n })\/
  (k=2/\0<=n/\n<s.tags.length/\tagAt s n<0/\m={ s with tags:=s.tags.set n.toNat s.at_ })\/
  (k=3/\0<=n/\n<s.tags.length/\0<=tagAt s n/\m={ s with at_:=tagAt s n })\/
  (k=4/\0<=n/\n<s.tags.length/\0<=tagAt s n/\m={ s with tags:=s.tags.set n.toNat (-1) })\/
  (k=5/\n=0/\s.pend = -1/\s.at_=s.l/\m={ s with pend:=s.at_ })\/
  (k=6/\n=0/\s.pend = -1/\s.at_=s.l-1/\m={ s with pend:=s.at_ })\/
  (k=7/\n=0/\0<s.pend/\s.at_=s.pend-1/\m={ s with pend:=s.at_ }):=by
 unfold mstep mstepR at e
 split at e
 ·cases e
 rename_i hr
 have hr':rightA k n:=Classical.byContradiction fun h=>hr (.inl h)
 obtain⟨r1,r2,r3,r4,r5⟩:=hr'
 split at e
 ·rename_i hk
  split at e
  ·cases e
  ·cases e;have:=r3 hk;exact .inl ⟨hk,this.1,this.2,by omega,rfl⟩
 split at e
 ·rename_i hk
  split at e
  ·cases e
  ·cases e;have:=r4 (by omega) (by omega);exact .inr (.inl ⟨hk,this.1,by omega,by omega,rfl⟩)
 split at e
 ·rename_i hk
  split at e
  ·cases e
  ·cases e;have:=r4 (by omega) (by omega);exact .inr (.inr (.inl ⟨hk,this.1,by omega,by omega,rfl⟩))
 split at e
 ·rename_i hk
  split at e
  ·cases e
  ·cases e;have:=r4 (by omega) (by omega);exact .inr (.inr (.inr (.inl ⟨hk,this.1,by omega,by omega,rfl⟩)))
 split at e
 ·rename_i hk
  split at e
  ·rename_i hc;cases e;have:=r5 (by omega);exact .inr (.inr (.inr (.inr (.inl ⟨hk,this,hc.1,hc.2,rfl⟩))))
  ·cases e
 split at e
 ·rename_i hk
  split at e
  ·rename_i hc;cases e;have:=r5 (by omega);exact .inr (.inr (.inr (.inr (.inr (.inl ⟨hk,this,hc.1,hc.2,rfl⟩)))))
  ·cases e
 split at e
 ·rename_i hc;cases e;have:=r5 (by omega);exact .inr (.inr (.inr (.inr (.inr (.inr ⟨by omega,this,hc.1,hc.2,rfl⟩)))))
 ·cases e
noncomputable def heldOf (h:Hdr)(tags:List Int):List (Option (Nat × List UInt64)):=tags.map fun t=>if t<0 then none else some (t.toNat,st h t.toNat)
theorem heldOf_length (h:Hdr)(tags:List Int):(heldOf h tags).length=tags.length:=by simp[heldOf]
theorem heldOf_set (h:Hdr)(tags:List Int)(i:Nat)(t:Int):heldOf h (tags.set i t)=(heldOf h tags).set i (if t<0 then none else some (t.toNat,st h t.toNat)):=by simp[heldOf,List.map_set]
theorem tagAt_get {s:MS1}{n:Int}(h0:0<=n)(h1:n<s.tags.length):s.tags[n.toNat]'(by omega)=tagAt s n:=by
 unfold tagAt;rw[List.getD_eq_getElem?_getD,List.getElem?_eq_getElem (by omega)];rfl
theorem heldOf_get {h:Hdr}{s:MS1}{n:Int}(h0:0<=n)(h1:n<s.tags.length):(heldOf h s.tags)[n.toNat]'(by rw[heldOf_length];omega)=if tagAt s n<0 then none else some ((tagAt s n).toNat,st h (tagAt s n).toNat):=by
 simp only[heldOf,List.getElem_map,tagAt_get h0 h1]
def heldN (tags:List Int):Nat:=tags.countP fun t=>decide (0<=t)
theorem heldN_le (tags:List Int):heldN tags<=tags.length:=List.countP_le_length
theorem heldN_lt {s:MS1}{n:Int}(h0:0<=n)(h1:n<s.tags.length)(h:tagAt s n<0):heldN s.tags<s.tags.length:=by
 apply Nat.lt_of_le_of_ne (heldN_le _)
 intro e
 have:=List.countP_eq_length.1 e _ (tagAt_mem h0 h1)
 simp at this;omega
theorem heldN_set {s:MS1}{n:Int}(h0:0<=n)(h1:n<s.tags.length)(t:Int):(heldN (s.tags.set n.toNat t):Int)=(heldN s.tags:Int)-(if 0<=tagAt s n then 1 else 0)+(if 0<=t then 1 else 0):=by
 unfold heldN
 rw[List.countP_set (by omega),tagAt_get h0 h1]
 have hpos:0<=tagAt s n->0<s.tags.countP fun t=>decide (0<=t):=fun h=>List.countP_pos_iff.2 ⟨_,tagAt_mem h0 h1,by simpa using h⟩
 by_cases hc:0<=tagAt s n
 ·have:=hpos hc
  by_cases ht:0<=t<;>simp[hc,ht]<;>omega
 ·by_cases ht:0<=t<;>simp[hc,ht]
end Go.VC
namespace Go.VC
open Go Go.Proofs
variable {H:Heap}{R:Value->Heap->Prop}
def dMS (d:DS)(tags:List Int):MS1:=⟨d.at_,d.pend,d.l,0,tags⟩
noncomputable def moreOf (h:Hdr)(k:Int):Int:=
 if k=2 then slotOf h else if k=5 then (wr_ h.loss:Int) else if k=6 then ((wr_ h.step+wr_ h.loss:Nat):Int) else if k=7 then (wr_ h.step:Int) else 0
noncomputable def dact (h:Hdr)(d:DS)(k n:Int)(m:MS1):DS:=
 { l:=d.l,at_:=m.at_,pend:=m.pend,plain:=if k=1 then d.plain+n else d.plain,tapd:=if k=6\/k=7 then d.tapd+1 else d.tapd,losses:=if k=5\/k=6 then d.losses+1 else d.losses,sweeps:=if k=6 then d.sweeps+1+1 else if k=5\/k=7 then d.sweeps+1 else d.sweeps,live:=if k=2 then d.live+slotOf h else if k=4 then d.live-slotOf h else d.live,peak:=max d.peak (d.live+moreOf h k),loss:=if k=5\/k=6 then lossOf h d.l.toNat else d.loss }
structure DSem (h:Hdr)(d:DS)(tags:List Int)(s:PS):Prop where
 th:s.th=h.th
 st:s.st=st h d.at_.toNat
 mok:MOk (dMS d tags)
 len:tags.length=(slotsOf h).toNat
 z:d.pend<0->s.ag=zeros (nT h)
 gr:0<=d.pend->s.ax=(grad h d.l.toNat (d.l-d.pend).toNat).1/\s.ag=(grad h d.l.toNat (d.l-d.pend).toNat).2/\d.loss=lossOf h d.l.toNat
 live:d.live=fixedOf h+slotOf h*(heldN tags:Int)
 pk:d.live<=d.peak
 pk2:d.peak<=h.words
structure DCnt (d:DS)(B:Int):Prop where
 p:0<=d.plain/\d.plain<=B
 t:0<=d.tapd/\d.tapd<=B
 l:0<=d.losses/\d.losses<=B
 s:0<=d.sweeps/\d.sweeps<=B
theorem tape_eq {h:Hdr}(hm:h.mode≠3):tapeOf h=(wr_ h.step:Int)+wr_ h.loss:=by
 have:tapeOf h=if h.mode=3 then (wr_ h.loss:Int) else (wr_ h.step:Int)+wr_ h.loss:=rfl
 rw[this,if_neg hm]
theorem live_bound {h:Hdr}(hp:PlanOk h)(hm:h.mode≠3){n:Nat}(hn:(n:Int)<=slotsOf h):0<=fixedOf h/\0<=slotOf h*(n:Int)/\fixedOf h+slotOf h*(n:Int)+tapeOf h<=h.words:=by
 obtain⟨a,b,c,d⟩:=slots_small hp
 have hs:=slot_eq hm
 have h7:=small_sum hp.1 7
 have hfx:((partsOf h).take 7).sum=fixedOf h:=rfl
 rw[hfx] at h7
 refine⟨h7.1,Int.mul_nonneg (by omega) (by omega),?_⟩
 have:=Int.mul_le_mul_of_nonneg_left hn (show 0<=slotOf h by omega)
 omega
theorem heldOf_ok {h:Hdr}(hd:dimsOk h){d:DS}{tags:List Int}(m:MOk (dMS d tags)):∀x∈heldOf h tags,HeldOk (nX h) x:=by
 intro x hx
 simp only[heldOf,List.mem_map] at hx
 obtain⟨t,ht,rfl⟩:=hx
 have h1:=m.tg t ht
 have h2:=m.l1
 split
 ·trivial
 ·exact⟨by simp only[dMS] at h1 h2;omega,st_length hd _⟩
theorem held_tags {h:Hdr}{d:DS}{tags:List Int}(m:MOk (dMS d tags)):(heldOf h tags).map tagOf=tags:=by
 unfold heldOf
 rw[List.map_map]
 conv=>rhs;rw[<-List.map_id tags]
 apply List.map_congr_left
 intro t ht
 have h1:=m.tg t ht
 simp only[Function.comp_apply,id_eq]
 split
 ·simp only[tagOf];omega
 ·simp only[tagOf];omega
theorem c57 {b:DB}{h:Hdr}{d:DS}{s:PS}{tags:List Int}{post:List UInt64}(v:Drv H b h d s (slotsW (nX h) (heldOf h tags)) post)(hm:h.mode≠3)(m:MOk (dMS d tags))(hl:tags.length=(slotsOf h).toNat)
  (k:∀a c H',Buf 1 H' H.size a tags.length c (i64s tags)->Ext H H'->R (.agg (spotC d.at_ d.pend a tags.length c).toArray) H'):Ru 57 [.pointer (some ⟨b.d,0,none⟩)] H R:=by
 have hsp:slotsPtr h b=.pointer (some ⟨b.s,0,none⟩):=by unfold slotsPtr;rw[if_neg hm]
 refine v57 _ _ fun H1 p n1=>?_
 have v1:=v.ext n1.mod
 refine⟨_,by rw[Nat.zero_add];exact v1.rd 18 rfl,_,by rw[Nat.zero_add];exact v1.rd 19 rfl,_,by rw[Nat.zero_add];exact v1.rd 15 rfl,?_⟩
 rw[hsp]
 refine c120 (v1.shelf hm (by rw[heldOf_length,hl]) (heldOf_ok v.ok.1.dims m)) fun a c H2 hB e2=>⟨_,_,_,rfl,by rw[Nat.zero_add];exact (v1.ext e2).rd 19 rfl,by rw[Nat.zero_add];exact (v1.ext e2).rd 18 rfl,rfl,?_,(n1.own.mod e2 (by simp)).w 0 3 rfl,fun H3 h3=>?_⟩
 ·intro x hx;simp only[List.mem_cons,List.not_mem_nil,or_false] at hx;rcases hx with rfl|rfl|rfl<;>trivial
 rw[held_tags m,heldOf_length] at hB
 have o2:=n1.own.mod e2 (by simp)
 have m3:Mod [p] H2 H3:=by rw[h3];exact Mod.refl.wrL (.inl (by simp))
 rw[heldOf_length] at h3
 refine⟨spotC d.at_ d.pend a tags.length c,rfl,by rw[h3];exact rdL_wrL o2.2,?_⟩
 have hp:=n1.ge;have hpl:=n1.lt
 exact k a c H3 ((hB.mod m3 (by simpa using hpl)).down n1.mod.1) ((n1.mod.thenExt e2).trans_new m3 (by simpa using hp))
def mvsD (d:Nat):List Value:=[Value.nilFunc,mvF 188 d,mvF 189 d,mvF 190 d,mvF 191 d,mvF 182 d,mvF 192 d,mvF 193 d]
theorem c118 (d:Nat)(k:∀H',Ext H H'->R (.agg (mvsD d).toArray) H'):Ru 118 [.pointer (some ⟨d,0,none⟩)] H R:=by
 refine v118 _ _ fun H1 p n1=>⟨trivial,rfl,?_,n1.own.w 0 8 rfl,fun H2 h2=>⟨mvsD d,rfl,by rw[h2];exact rdL_wrL n1.own.2,k H2 ?_⟩⟩
 ·intro v hv;simp only[List.mem_cons,List.not_mem_nil,or_false] at hv;rcases hv with rfl|rfl|rfl|rfl|rfl|rfl|rfl|rfl<;>trivial
 ·rw[h2];exact n1.mod.trans_new (Mod.refl.wrL (S:=[p]) (.inl (by simp))) (by simpa using n1.ge)
noncomputable def dmid (h:Hdr)(d:DS)(k n:Int)(m:MS1):DS:={ dact h d k n m with at_:=d.at_,pend:=d.pend }
theorem dsem_act {h:Hdr}{d:DS}{tags:List Int}{s:PS}(hp:PlanOk h)(hm:h.mode≠3)(sem:DSem h d tags s){k n:Int}{m:MS1}(hs:mstep (dMS d tags) k n=some m)(s':PS)(h1:s'.th=h.th)(h2:s'.st=st h m.at_.toNat)(h3:m.pend<0->s'.ag=zeros (nT h))
  (h4:0<=m.pend->s'.ax=(grad h d.l.toNat (d.l-m.pend).toNat).1/\s'.ag=(grad h d.l.toNat (d.l-m.pend).toNat).2/\(dact h d k n m).loss=lossOf h d.l.toNat):DSem h (dact h d k n m) m.tags s':=by
 obtain⟨sth,sst,mok,slen,sz,sgr,slive,spk,spk2⟩:=sem
 have hmok2:=mstep_ok mok hs
 have hlen2:=(mstep_l hs).2
 have hl2:=(mstep_l hs).1
 simp only[dMS] at hlen2 hl2
 obtain⟨a1,a2,a3,a4⟩:=slots_small hp
 have hhn:(heldN tags:Int)<=slotsOf h:=by have:=heldN_le tags;omega
 obtain⟨b1,b2,b3⟩:=live_bound hp hm hhn
 have hte:=tape_eq hm
 have hse:=slot_eq hm
 have hlw:d.live+tapeOf h<=h.words:=by omega
 have mok':MOk (dMS (dact h d k n m) m.tags):=⟨by have:=hmok2.l0;rw[hl2] at this;exact this,by have:=hmok2.l1;rw[hl2] at this;exact this,hmok2.at0,by have:=hmok2.at1;rw[hl2] at this;exact this,hmok2.p0,by have:=hmok2.p1;rw[hl2] at this;exact this,by have:=hmok2.tg;rw[hl2] at this;exact this,hmok2.few⟩
 refine⟨h1,h2,mok',by rw[hlen2,slen],h3,h4,?_,?_,?_⟩
 ·have hv:∀(x:Int),0<=x->slotOf h*((heldN tags:Int)+1)=slotOf h*(heldN tags:Int)+slotOf h:=fun x _=>by rw[Int.mul_add,Int.mul_one]
  rcases mstep_inv hs with ⟨rfl,n1,n2,n3,rfl⟩|⟨rfl,n1,n2,n3,rfl⟩|⟨rfl,n1,n2,n3,rfl⟩|⟨rfl,n1,n2,n3,rfl⟩|⟨rfl,rfl,n1,n2,rfl⟩|⟨rfl,rfl,n1,n2,rfl⟩|⟨rfl,rfl,n1,n2,rfl⟩
  ·exact slive
  ·have:=heldN_set n1 n2 (dMS d tags).at_
   rw[if_neg (by omega),if_pos mok.at0] at this
   show d.live+slotOf h=fixedOf h+slotOf h*_
   rw[this,slive,Int.sub_zero,Int.mul_add,Int.mul_one,Int.add_assoc];rfl
  ·exact slive
  ·have:=heldN_set n1 n2 (-1)
   rw[if_pos n3,if_neg (by omega)] at this
   show d.live-slotOf h=fixedOf h+slotOf h*_
   rw[this,slive,Int.add_zero,Int.mul_sub,Int.mul_one]
   show _=fixedOf h+(slotOf h*(heldN tags:Int)-slotOf h)
   omega
  ·exact slive
  ·exact slive
  ·exact slive
 ·show (dact h d k n m).live<=max d.peak (d.live+moreOf h k)
  unfold dact moreOf
  dsimp only
  by_cases e2:k=2
  ·rw[if_pos e2,if_pos e2];omega
  ·rw[if_neg e2,if_neg e2]
   by_cases e4:k=4
   ·rw[if_pos e4];omega
   ·rw[if_neg e4];omega
 ·show max d.peak (d.live+moreOf h k)<=h.words
  have hmore:d.live+moreOf h k<=h.words:=by
   unfold moreOf
   split
   ·rename_i e2
    rcases mstep_inv hs with ⟨rfl,_⟩|⟨rfl,n1,n2,n3,rfl⟩|⟨rfl,_⟩|⟨rfl,_⟩|⟨rfl,_⟩|⟨rfl,_⟩|⟨rfl,_⟩<;>try omega
    have hlt:=heldN_lt n1 n2 n3
    have hlt':((heldN tags+1:Nat):Int)<=slotsOf h:=by simp only[dMS] at hlt;omega
    obtain⟨_,_,b3'⟩:=live_bound hp hm hlt'
    have:slotOf h*((heldN tags+1:Nat):Int)=slotOf h*(heldN tags:Int)+slotOf h:=by push_cast;rw[Int.mul_add,Int.mul_one]
    omega
   ·split
    ·omega
    ·split
     ·omega
     ·split<;>omega
  omega
theorem doMove {H:Heap}{b:DB}{h:Hdr}{d:DS}{s:PS}{tags:List Int}{post:List UInt64}(v:Drv H b h d s (slotsW (nX h) (heldOf h tags)) post)(hm:h.mode≠3)(sem:DSem h d tags s)(cnt:DCnt d 2305843009213693952)
  {k n:Int} {m:MS1} (hs:mstep (dMS d tags) k n=some m) :
  ∃g u w,(mvsD b.d)[k.toNat*1]?=some (.func (.func g) u w)/\callable Tryz.prog g=true/\∀R:Value->Heap->Prop,(∀H' s',Drv H' b h (dmid h d k n m) s' (slotsW (nX h) (heldOf h m.tags)) post->DSem h (dact h d k n m) m.tags s'->Mod [b.d,b.m,b.w] H H'->R (.tuple #[]) H')->Ru g (u.toList++[.int .i64 n]++w.toList) H R:=by
 have act:=fun s' h1 h2 h3 h4=>dsem_act v.ok hm sem hs s' h1 h2 h3 h4
 obtain⟨sth,sst,mok,slen,sz,sgr,slive,spk,spk2⟩:=sem
 have ok:=v.ok.1
 have ⟨l0,l1,at0,at1,p0,p1,tg,few⟩:=mok
 simp only[dMS] at l0 l1 at0 at1 p0 p1 tg few
 obtain⟨a1,a2,a3,a4⟩:=slots_small v.ok
 have hhn:(heldN tags:Int)<=slotsOf h:=by have:=heldN_le tags;omega
 obtain⟨b1,b2,b3⟩:=live_bound v.ok hm hhn
 have hte:=tape_eq hm
 have hse:=slot_eq hm
 have hw1:=wr_le ok.step;have hw2:=wr_le ok.loss
 have hat:d.at_=(d.at_.toNat:Int):=by omega
 have hlen:(heldOf h tags).length=(slotsOf h).toNat:=by rw[heldOf_length,slen]
 have hok:=heldOf_ok ok.dims mok
 have c1:=cnt.p;have c2:=cnt.t;have c3:=cnt.l;have c4:=cnt.s
 have hstl:s.st.length=nX h:=v.lens.st
 rcases mstep_inv hs with ⟨rfl,n1,n2,n3,rfl⟩|⟨rfl,n1,n2,n3,rfl⟩|⟨rfl,n1,n2,n3,rfl⟩|⟨rfl,n1,n2,n3,rfl⟩|⟨rfl,rfl,n1,n2,rfl⟩|⟨rfl,rfl,n1,n2,rfl⟩|⟨rfl,rfl,n1,n2,rfl⟩
 ·simp only[dMS] at n3
  have hn:n=(n.toNat:Int):=by omega
  refine⟨188,_,_,rfl,by kernel_rfl,fun R K=>?_⟩
  have key:=c188 (R:=R) v sth d.at_.toNat hat sst n.toNat (by omega) ⟨by omega,by omega⟩ fun H' sr v' m'=>?_
  ·rw[<-hn] at key;exact key
  ·have hd:dmid h d 1 n { dMS d tags with at_:=(dMS d tags).at_+n,total:=(dMS d tags).total+n }={ d with plain:=d.plain+(n.toNat:Int) }:=by
    rw[<-hn]
    have:max d.peak d.live=d.peak:=by omega
    simp[dmid,dact,moreOf,this]
   rw[<-hd] at v'
   refine K H' _ v' (act _ sth ?_ sz fun hp=>?_) (m'.mono (by simp))
   ·show st h (d.at_.toNat+n.toNat)=st h (d.at_+n).toNat
    congr 1;omega
   ·have:=sgr hp
    exact this
 ·have hn:n=(n.toNat:Int):=by omega
  have hg:=heldOf_get (h:=h) n1 n2
  rw[if_pos n3] at hg
  have hlt:=heldN_lt n1 n2 n3
  have hlt':((heldN tags+1:Nat):Int)<=slotsOf h:=by simp only[dMS] at hlt;omega
  obtain⟨_,_,b3'⟩:=live_bound v.ok hm hlt'
  have hmul:slotOf h*((heldN tags+1:Nat):Int)=slotOf h*(heldN tags:Int)+slotOf h:=by push_cast;rw[Int.mul_add,Int.mul_one]
  refine⟨189,_,_,rfl,by kernel_rfl,fun R K=>?_⟩
  have key:=c189 (R:=R) v hm hlen hok n.toNat (by rw[heldOf_length];simp only[dMS] at n2;omega) hg d.at_.toNat hat (by omega) (by omega) (by omega) fun H' v' m'=>?_
  ·rw[<-hn] at key;exact key
  ·have hd:dmid h d 2 n { dMS d tags with tags:=(dMS d tags).tags.set n.toNat (dMS d tags).at_ }={ d with live:=d.live+slotOf h,peak:=max d.peak (d.live+slotOf h) }:=by
    simp[dmid,dact,moreOf]
   have hh:heldOf h (tags.set n.toNat d.at_)=(heldOf h tags).set n.toNat (some (d.at_.toNat,s.st)):=by
    rw[heldOf_set,if_neg (by omega),sst]
   refine K H' s (by rw[hd];show DrvM _ _ _ _ _ (slotsW (nX h) (heldOf h (tags.set n.toNat d.at_))) _;rw[hh];exact v') (act _ sth sst sz fun hp=>sgr hp) (m'.mono (by simp))
 ·have hn:n=(n.toNat:Int):=by omega
  have hg:=heldOf_get (h:=h) n1 n2
  rw[if_neg (by omega)] at hg
  refine⟨190,_,_,rfl,by kernel_rfl,fun R K=>?_⟩
  have key:=c190 (R:=R) v hm hlen hok n.toNat (by rw[heldOf_length];simp only[dMS] at n2;omega) hg fun H' v' m'=>?_
  ·rw[<-hn] at key;exact key
  ·have hd:dmid h d 3 n { dMS d tags with at_:=tagAt (dMS d tags) n }=d:=by
    have:max d.peak d.live=d.peak:=by omega
    simp[dmid,dact,moreOf,this]
   rw[<-hd] at v'
   exact K H' _ v' (act _ sth rfl sz fun hp=>sgr hp) (m'.mono (by simp))
 ·have hn:n=(n.toNat:Int):=by omega
  have hg:=heldOf_get (h:=h) n1 n2
  rw[if_neg (by omega)] at hg
  have hpos:0<heldN tags:=List.countP_pos_iff.2 ⟨_,tagAt_mem n1 n2,by simpa using n3⟩
  have hmul:slotOf h<=slotOf h*(heldN tags:Int):=by
   have:=Int.mul_le_mul_of_nonneg_left (show (1:Int)<=(heldN tags:Int) by omega) (show 0<=slotOf h by omega)
   omega
  refine⟨191,_,_,rfl,by kernel_rfl,fun R K=>?_⟩
  have key:=c191 (R:=R) v hm hlen hok n.toNat (by rw[heldOf_length];simp only[dMS] at n2;omega) (fun e=>by have:=hg.symm.trans e;cases this) (by omega) spk (by omega) fun H' v' m'=>?_
  ·rw[<-hn] at key;exact key
  ·have hd:dmid h d 4 n { dMS d tags with tags:=(dMS d tags).tags.set n.toNat (-1) }={ d with live:=d.live-slotOf h }:=by
    have:max d.peak d.live=d.peak:=by omega
    simp[dmid,dact,moreOf,this]
   have hh:heldOf h (tags.set n.toNat (-1))=(heldOf h tags).set n.toNat none:=by
    rw[heldOf_set,if_pos (by omega)]
   refine K H' s (by rw[hd];show DrvM _ _ _ _ _ (slotsW (nX h) (heldOf h (tags.set n.toNat (-1)))) _;rw[hh];exact v') (act _ sth sst sz fun hp=>sgr hp) (m'.mono (by simp))
 ·simp only[dMS] at n1 n2
  refine⟨182,_,_,rfl,by kernel_rfl,fun R K=>c182 v sth 0 (by omega) (by omega) ⟨by omega,by omega⟩ ⟨by omega,by omega⟩ fun H' lr ad v' m'=>?_⟩
  have hsl:s.st=st h d.l.toNat:=by rw[sst,n2]
  have hd:dmid h d 5 0 { dMS d tags with pend:=(dMS d tags).at_ }={ d with losses:=d.losses+1,sweeps:=d.sweeps+1,loss:=rg (lossOut h s.st) 0,peak:=max d.peak (d.live+wr_ h.loss) }:=by
   rw[hsl];simp[dmid,dact,moreOf,lossOf]
  rw[<-hd] at v'
  refine K H' _ v' (act _ sth sst (fun hp=>?_) fun hp=>?_) m'
  ·simp only[dMS] at hp;omega
  ·have e0:(d.l-d.at_).toNat=0:=by omega
   simp only[dMS,e0,grad]
   rw[hsl,sz (by omega)]
   exact⟨rfl,rfl,by simp[dact]⟩
 ·simp only[dMS] at n1 n2
  refine⟨192,_,_,rfl,by kernel_rfl,fun R K=>c192 v sth d.at_.toNat hat sst 0 (by omega) (by push_cast;omega) ⟨by omega,by omega⟩ ⟨by omega,by omega⟩ ⟨by omega,by omega⟩ fun H' sr lr ad v' m'=>?_⟩
  have hl:d.at_.toNat+1=d.l.toNat:=by omega
  rw[hl] at v'
  have hd:dmid h d 6 0 { dMS d tags with pend:=(dMS d tags).at_ }={ d with tapd:=d.tapd+1,losses:=d.losses+1,sweeps:=d.sweeps+1+1,loss:=rg (lossOut h (st h d.l.toNat)) 0,peak:=max d.peak (d.live+(wr_ h.step+wr_ h.loss:Nat)) }:=by
   simp[dmid,dact,moreOf,lossOf]
  rw[<-hd] at v'
  refine K H' _ v' (act _ sth sst (fun hp=>?_) fun hp=>?_) m'
  ·simp only[dMS] at hp;omega
  ·have e0:(d.l-d.at_).toNat=1:=by omega
   have e1:d.l.toNat-(0+1)=d.at_.toNat:=by omega
   refine⟨?_,?_,by simp[dact]⟩
   ·show _=(grad h d.l.toNat (d.l-d.at_).toNat).1
    rw[e0];simp only[grad,e1]
   ·show _=(grad h d.l.toNat (d.l-d.at_).toNat).2
    rw[e0];simp only[grad,e1]
    rw[sz (by omega)]
 ·simp only[dMS] at n1 n2
  refine⟨193,_,_,rfl,by kernel_rfl,fun R K=>c193 v sth d.at_.toNat hat hstl 0 (by omega) (by omega) ⟨by omega,by omega⟩ ⟨by omega,by omega⟩ fun H' sr ad v' m'=>?_⟩
  have hd:dmid h d 7 0 { dMS d tags with pend:=(dMS d tags).at_ }={ d with tapd:=d.tapd+1,sweeps:=d.sweeps+1,peak:=max d.peak (d.live+wr_ h.step) }:=by
   simp[dmid,dact,moreOf]
  rw[<-hd] at v'
  refine K H' _ v' (act _ sth sst (fun hp=>?_) fun hp=>?_) m'
  ·simp only[dMS] at hp;omega
  ·have hg:=sgr (by omega)
   obtain⟨j,hj⟩:∃j:Nat,(d.l-d.pend).toNat=j:=⟨_,rfl⟩
   have e0:(d.l-d.at_).toNat=j+1:=by omega
   have e1:d.l.toNat-(j+1)=d.at_.toNat:=by omega
   rw[hj] at hg
   simp only[dMS,e0,grad,e1]
   rw[sst,<-hg.1,<-hg.2.1]
   exact⟨rfl,rfl,by simp[dact];exact hg.2.2⟩
end Go.VC
namespace Go.VC
open Go Go.Proofs
variable {H:Heap}{R:Value->Heap->Prop}
theorem c110 {b:DB}{h:Hdr}{d:DS}{P:List (List UInt64)}{K post:List UInt64}(v:DrvM H b h d P K post)(k:R (.bool (decide (h.mode=3))) H):Ru 110 [.pointer (some ⟨b.d,0,none⟩)] H R:=
 v110 _ _ ⟨_,by rw[Nat.zero_add];exact v.rd 4 rfl,k⟩
theorem DrvM.mach {H H':Heap}{b:DB}{h:Hdr}{d:DS}{P:List (List UInt64)}{K post:List UInt64}(v:DrvM H b h d P K post){H0:Heap}(v0:DrvM H0 b h d P K post){n bm:Nat}{a:Option Addr}{c:Nat}{s:MS1}(m:Mach H n bm a c s)(hn:H0.size<=n)(mm:MMod bm a c H H'):DrvM H' b h d P K post:=by
 obtain⟨S,h1,h2⟩:=mm
 exact v.keep h1 (v0.fresh fun x hx=>Nat.le_trans hn (m.ge (h2 x hx)))
theorem c53 {b:DB}{h:Hdr}{d:DS}{s:PS}{tags:List Int}{post:List UInt64}(v:Drv H b h d s (slotsW (nX h) (heldOf h tags)) post)(hm:h.mode≠3)(sem:DSem h d tags s)(cnt:DCnt d 2305843009213693952)
  {k n:Int} {m:MS1} (hs:mstep (dMS d tags) k n=some m)
  (K:∀H' s',Drv H' b h (dact h d k n m) s' (slotsW (nX h) (heldOf h m.tags)) post->DSem h (dact h d k n m) m.tags s'->Mod [b.d,b.m,b.w] H H'->R (.int .i64 0) H') :
  Ru 53 [.pointer (some ⟨b.d,0,none⟩),.agg (actC k n).toArray] H R:=by
 have hmok2:=mstep_ok sem.mok hs
 refine v53 _ _ (actC k n) fun H1 p n1=>c110 (v.ext n1.mod) ⟨_,rfl,fun h'=>by simp at h';exact (hm h').elim,fun _=>?_⟩
 have v1:=v.ext n1.mod
 refine⟨_,by rw[Nat.zero_add];exact v1.rd 17 rfl,c57 v1 hm sem.mok sem.len fun a c H2 hB e2=>⟨_,rfl,rfl,by rw[Nat.zero_add];exact (v1.ext e2).rd 17 rfl,?_⟩⟩
 refine c117 d.l d.at_ d.pend hB.row sem.mok fun H3 bm a3 c3 hM e3=>⟨_,_,rfl,by simp,fun _=>?_⟩
 have e13:=e2.thenExt e3
 have v3:=v1.ext e13
 have rp3:∀j x,(actC k n)[j]?=some x->rd H3 p j=some x:=fun j x hj=>e13.rd (by simp) ((n1.rd j).trans hj)
 have hp2:p<H2.size:=Nat.lt_of_lt_of_le n1.lt e2.1
 refine⟨actC k n,rfl,e13.rdL (by simp) n1.rdL,c34 hM sem.mok ⟨by simp,by simp⟩ k n ⟨fun m' H4 hm' hM4 mm=>⟨_,rfl,by simp,fun _=>?_⟩,fun e H4 hn _ _ _=>?_⟩⟩
 rotate_left
 ·rw[show mstep ⟨d.at_,d.pend,d.l,0,tags⟩ k n=some m from hs] at hn;cases hn
 have hmm:m'=m:=by rw[show mstep ⟨d.at_,d.pend,d.l,0,tags⟩ k n=some m from hs] at hm';cases hm';rfl
 subst hmm
 have v4:=v3.mach v hM (by have:=n1.mod.1;have:=e2.1;omega) mm
 have rp4:∀j x,(actC k n)[j]?=some x->rd H4 p j=some x:=by
  intro j x hj
  obtain⟨S,h1,h2⟩:=mm
  exact h1.rd (fun hp=>by have:=hM.ge (h2 p hp);omega) (rp3 j x hj)
 have hz4:H3.size<=H4.size:=by obtain⟨S,h1,_⟩:=mm;exact h1.1
 refine⟨_,rp4 0 _ rfl,_,rp4 1 _ rfl,c118 b.d fun H5 e5=>⟨mvsD b.d,rfl,rfl,e5.rd (by simp) (rp4 1 _ rfl),e5.rd (by simp) (rp4 0 _ rfl),?_,?_⟩⟩
 ·rcases mstep_inv hs with ⟨rfl,_⟩|⟨rfl,_⟩|⟨rfl,_⟩|⟨rfl,_⟩|⟨rfl,_⟩|⟨rfl,_⟩|⟨rfl,_⟩<;>exact⟨by omega,by omega⟩
 have v5:=v4.ext e5
 have hM5:=hM4.ext e5
 have hlow:∀x∈[b.d,b.m,b.w],x<H.size:=by
  intro x hx
  simp only[List.mem_cons,List.not_mem_nil,or_false] at hx
  rcases hx with rfl|rfl|rfl
  ·exact v.top.lt (by unfold drvC;simp[i64s,planL])
  ·exact v.met.lt (by simp[meterC])
  ·exact v.ar.row.lt (u64s_ne v.words)
 have hz:H.size<=H2.size:=Nat.le_trans n1.mod.1 e2.1
 obtain⟨g,u,w,h1,h2,h3⟩:=doMove v5 hm sem cnt hs
 refine⟨_,h1,g,u,w,rfl,h2,h3 _ fun H6 s' v6 sem6 m6=>?_⟩
 have hM6:=hM5.low m6 (fun x hx=>Nat.lt_of_lt_of_le (hlow x hx) hz)
 refine c119 hM6 hmok2.few fun H7 a7 c7 hB7 e7=>⟨_,rfl,rfl,fun H8 q n8=>⟨rfl,?_,n8.own.w 0 3 rfl,fun H9 h9=>?_⟩⟩
 ·intro x hx;simp only[spotC,List.mem_cons,List.not_mem_nil,or_false] at hx;rcases hx with rfl|rfl|rfl<;>trivial
 have o9:Own H9 q (spotC m'.at_ m'.pend a7 m'.tags.length c7):=by rw[h9];exact n8.own.swrL rfl
 have e69:Ext H6 H9:=by rw[h9];exact (e7.new n8).trans_new (Mod.refl.wrL (S:=[q]) (.inl (by simp))) (by simp;have:=e7.1;have:=n8.ge;omega)
 clear h9
 have v9:=v6.ext e69
 have hqd:q≠b.d:=by have:=hlow b.d (by simp);have:=n8.ge;have:=e7.1;have:=m6.1;have:=e5.1;have:=e3.1;omega
 refine⟨_,o9.rd 0 rfl,_,o9.rd 1 rfl,by rw[Nat.zero_add];exact v9.top.w 18 1 rfl,fun H10 h10=>?_⟩
 have t10:=v9.top.wr 18 (.int .i64 m'.at_)
 rw[Nat.zero_add] at h10
 rw[<-h10] at t10
 have m10:Mod [b.d] H9 H10:=by rw[h10];exact Mod.refl.wr (.inl (by simp))
 clear h10
 have v10:=v9.setD { dmid h d k n m' with at_:=m'.at_ } t10 m10 rfl rfl
 refine⟨(o9.mod m10 (by simpa using hqd)).rd 1 rfl,by rw[Nat.zero_add];exact v10.top.w 19 1 rfl,fun H11 h11=>?_⟩
 have t11:=v10.top.wr 19 (.int .i64 m'.pend)
 rw[Nat.zero_add] at h11
 rw[<-h11] at t11
 have m11:Mod [b.d] H10 H11:=by rw[h11];exact Mod.refl.wr (.inl (by simp))
 clear h11
 have v11:=v10.setD (dact h d k n m') t11 m11 rfl rfl
 refine K H11 s' v11 sem6 ?_
 have e03:Ext H H3:=n1.mod.thenExt e13
 have m04:Mod [] H H4:=by
  obtain⟨S,h1,h2⟩:=mm
  exact e03.trans_new h1 fun x hx=>.inr (Nat.le_trans hz (hM.ge (h2 x hx)))
 exact (m04.ext.trans ((Mod.ext e5).trans m6)).trans ((Mod.ext e69).trans ((m10.mono (by simp)).trans (m11.mono (by simp))))
end Go.VC
namespace Go.VC
open Go Go.Proofs
variable {H:Heap}{R:Value->Heap->Prop}
theorem c68 {a:Option Addr}{l c:Nat}{xs:List Op}(h:RowO H a l xs)(hl:l<=1099511627776)
  (k:∀a' c' H',Buf 5 H' H.size a' l c' (opsC xs)->Ext H H'->R (.slice a' l c') H'):Ru 68 [.slice a l c] H R:=by
 refine v68 _ _ _ ⟨?_,fun hn H' q n=>⟨opsC xs,by rw[opsC_length,h.len],(Ext.row n.mod h).2,?_⟩⟩
 ·rintro rfl
  have e:=h.none
  have hl:=h.1
  rw[e] at hl k
  have hl0:l=0:=by simp at hl;omega
  subst hl0
  exact k _ _ _ Buf.nil Mod.refl
 ·refine (Buf.nil (sz:=5) (n:=H.size) (a:=some ⟨q,0,none⟩)).app n.mod.1 (by rw[opsC_length,h.len]) rfl opsC_one (by omega) (by omega) fun a' c' H'' S hb hm hs=>?_
  rw[Nat.zero_add,List.nil_append] at hb
  rw[Nat.zero_add]
  exact k _ _ _ hb (n.mod.trans_new hm fun b hb=>.inr (hs b hb))
def Lo (n:Nat)(l:Nat)(a:Option Addr):Prop:=0<l->∀b o,a=some ⟨b,o,none⟩->n<=b
theorem Buf.lo {sz:Nat}{H:Heap}{n:Nat}{a:Option Addr}{l c:Nat}{cells:List Value}(h:Buf sz H n a l c cells)(hz:0<sz):Lo n l a:=by
 intro hl b o e
 rcases h.ok with h0|⟨b',e',hn,_⟩
 ·have:=Nat.mul_pos (Nat.lt_of_lt_of_le hl h.le) hz;omega
 ·rw[e] at e';cases e';exact hn
theorem Lo.down {n m l:Nat}{a:Option Addr}(h:Lo n l a)(hm:m<=n):Lo m l a:=fun hl b o e=>Nat.le_trans hm (h hl b o e)
def drvL (pl hd:List Value)(parts w s m:Value)(d:DS):List Value:=pl++(hd++[parts,w,s,m,.int .i64 d.l,.int .i64 d.at_,.int .i64 d.pend,.int .i64 d.plain,.int .i64 d.tapd,.int .i64 d.losses,.int .i64 d.sweeps,.int .u64 (d.loss.toNat:Int)])
def d0 (h:Hdr)(live:Int):DS:=⟨h.len,0,-1,0,0,0,0,live,live,0⟩
theorem c105 (h:Hdr)(p:HAt)(r:HRows H h p)
  (k1:PlanOk h->∀H' bd hp pa pc,Own H' bd (drvL (i64s (planL h)) (hdrC h hp) (.slice pa 10 pc) (.pointer none) (.pointer none) (.pointer none) (d0 h 0))->HRows H' h hp->RowI H' pa 10 (placesOf h)->Ext H H'->H.size<=bd->
   Lo H.size h.x.length hp.xa->Lo H.size h.th.length hp.ta->Lo H.size h.step.ops.length hp.sa->Lo H.size h.loss.ops.length hp.la->Lo H.size 10 pa->
   (∀b o,0<h.x.length->hp.xa=some ⟨b,o,none⟩->b≠bd)->(∀b o,0<h.th.length->hp.ta=some ⟨b,o,none⟩->b≠bd)->(∀b o,0<h.step.ops.length->hp.sa=some ⟨b,o,none⟩->b≠bd)->(∀b o,0<h.loss.ops.length->hp.la=some ⟨b,o,none⟩->b≠bd)->(∀b o,pa=some ⟨b,o,none⟩->b≠bd)->
   R (.tuple #[.pointer (some ⟨bd,0,none⟩),.int .i64 0]) H')
  (k2:∀n H',n≠0->¬PlanOk h->Ext H H'->R (.tuple #[.pointer none,.int .i64 n]) H'):Ru 105 [.agg (hdrC h p).toArray] H R:=by
 refine v105 (hdrC h p) fun H1 q n1=>⟨_,rfl,n1.rdL,c8 h p (r.ext n1.mod) (fun hp H2 e2=>⟨i64s (planL h),rfl,_,rfl,fun H3 q3 n3=>⟨rfl,i64s_one,n3.own.w 0 4 rfl,fun H4 h4=>⟨by simp,fun _=>?_⟩⟩⟩) (fun n H2 hn hno e2=>⟨i64s [0,0,0,0],rfl,_,rfl,fun H3 q3 n3=>⟨rfl,i64s_one,n3.own.w 0 4 rfl,fun H4 h4=>⟨fun _=>k2 n H4 hn hno ?_,fun h'=>(h' hn).elim⟩⟩⟩)⟩
 rotate_left
 ·rw[h4];exact ((n1.mod.thenExt e2).new n3).trans_new (Mod.refl.wrL (S:=[q3]) (.inl (by simp))) (by simp;have:=n1.mod.1;have:=e2.1;have:=n3.ge;omega)
 have ok:=hp.1
 have o4:Own H4 q3 (i64s (planL h)):=by rw[h4];exact n3.own.swrL rfl
 have e24:Ext H2 H4:=by rw[h4];exact n3.mod.trans_new (Mod.refl.wrL (S:=[q3]) (.inl (by simp))) (by simpa using n3.ge)
 clear h4
 have e14:=e2.thenExt e24
 have e04:=n1.mod.thenExt e14
 have rq4:=e14.rdL (S:=[]) (by simp) n1.rdL
 refine⟨_,rfl,rq4,fun H5 p2 n5=>⟨rfl,?_,n5.own.w 0 9 rfl,fun H6 h6=>?_⟩⟩
 ·intro v hv;simp only[hdrC,List.mem_cons,List.not_mem_nil,or_false] at hv;rcases hv with rfl|rfl|rfl|rfl|rfl|rfl|rfl|rfl|rfl<;>trivial
 have o6:Own H6 p2 (hdrC h p):=by rw[h6];exact n5.own.swrL rfl
 have e46:Ext H4 H6:=by rw[h6];exact n5.mod.trans_new (Mod.refl.wrL (S:=[p2]) (.inl (by simp))) (by simpa using n5.ge)
 clear h6
 have e06:=e04.thenExt e46
 have rq6:∀j v,(hdrC h p)[j]?=some v->rd H6 q j=some v:=fun j v hj=>(e14.thenExt e46).rd (by simp) ((n1.rd j).trans hj)
 have hsl:h.step.ops.length<=4096:=by obtain⟨t,g⟩:=ok.step;exact g.form.1
 have hll:h.loss.ops.length<=4096:=by obtain⟨t,g⟩:=ok.loss;exact g.form.1
 obtain⟨d1,d2,d3,d4,d5⟩:=ok.dims
 refine⟨_,_,_,rq6 4 _ rfl,_,_,_,rq6 6 _ rfl,c68 (r.ext e06).s (by omega) fun sa sc H7 bS e7=>⟨_,_,_,rfl,e7.rd (by simp) (rq6 6 _ rfl),c68 ((r.ext e06).ext e7).l (by omega) fun la lc H8 bL e8=>⟨_,_,_,rfl,?_,fun H9 h9=>?_⟩⟩⟩
 ·exact ((o6.mod e7 (by simp)).mod e8 (by simp)).w 4 1 rfl
 have e68:=e7.thenExt e8
 have o8:=o6.mod e68 (by simp)
 have o9:=o8.wr 4 (.slice sa h.step.ops.length sc)
 rw[<-h9] at o9
 have m9:Mod [p2] H8 H9:=by rw[h9];exact Mod.refl.wr (.inl (by simp))
 clear h9
 refine⟨o9.w 6 1 rfl,fun H10 h10=>?_⟩
 have o10:=o9.wr 6 (.slice la h.loss.ops.length lc)
 rw[<-h10] at o10
 have m10:Mod [p2] H8 H10:=by rw[h10];exact m9.wr (.inl (by simp))
 clear h10
 have hp2g:=n5.ge;have hp2l:=n5.lt;have hz46:=e46.1;have hqlt:=n1.lt;have hz14:=e14.1;have hz01:=n1.mod.1
 have hp2S:∀x∈[p2],x<H6.size:=by simp;exact o6.lt (by simp[hdrC])
 have bS10:=(bS.ext e8).mod m10 hp2S
 have bL10:=bL.mod m10 (fun x hx=>Nat.lt_of_lt_of_le (hp2S x hx) e7.1)
 have e010:Ext H H10:=(e06.thenExt e68).trans_new m10 (by simp;omega)
 have rq10:∀j v,(hdrC h p)[j]?=some v->rd H10 q j=some v:=fun j v hj=>m10.rd (by simp;omega) (e68.rd (by simp) (rq6 j v hj))
 refine⟨_,_,_,rq10 1 _ rfl,_,_,_,rq10 2 _ rfl,c69 (r.ext e010).x (by omega) fun xa xc H11 bX e11=>⟨_,_,_,rfl,e11.rd (by simp) (rq10 2 _ rfl),c69 ((r.ext e010).ext e11).th (by omega) fun ta tc H12 bT e12=>⟨_,_,_,rfl,?_,fun H13 h13=>?_⟩⟩⟩
 ·exact ((o10.mod e11 (by simp)).mod e12 (by simp)).w 1 1 rfl
 have e1012:=e11.thenExt e12
 have o12:=o10.mod e1012 (by simp)
 have o13:=o12.wr 1 (.slice xa h.x.length xc)
 rw[<-h13] at o13
 have m13:Mod [p2] H12 H13:=by rw[h13];exact Mod.refl.wr (.inl (by simp))
 clear h13
 refine⟨o13.w 2 1 rfl,fun H14 h14=>?_⟩
 have o14:=o13.wr 2 (.slice ta h.th.length tc)
 rw[<-h14] at o14
 have m14:Mod [p2] H12 H14:=by rw[h14];exact m13.wr (.inl (by simp))
 clear h14
 have hz68:=e68.1;have hz10:=m10.1;have hz11:=e11.1;have hz12:=e12.1;have hz14':=m14.1
 have bS14:=(bS10.ext e1012).mod m14 hp2S
 have bL14:=(bL10.ext e1012).mod m14 (fun x hx=>Nat.lt_of_lt_of_le (hp2S x hx) e7.1)
 have bX14:=(bX.ext e12).mod m14 (fun x hx=>by have:=hp2S x hx;omega)
 have bT14:=bT.mod m14 (fun x hx=>by have:=hp2S x hx;omega)
 have e014:Ext H H14:=(e010.thenExt e1012).trans_new m14 (by simp;omega)
 have rq14:∀j v,(hdrC h p)[j]?=some v->rd H14 q j=some v:=fun j v hj=>m14.rd (by simp;omega) (e1012.rd (by simp) (rq10 j v hj))
 have o4':RdL H14 q3 0 (i64s (planL h)):=by
  have hq3:q3≠p2:=by have:=o4.lt (by simp[i64s,planL]);omega
  exact m14.rdL (by simpa using hq3) (e1012.rdL (by simp) (m10.rdL (by simpa using hq3) ((e46.thenExt e68).rdL (by simp) o4.1)))
 have hcs:RdL H14 p2 0 (hdrC h ⟨xa,xc,ta,tc,sa,sc,la,lc⟩):=o14.1
 refine⟨_,rfl,o4',_,rfl,hcs,_,rq14 7 _ rfl,⟨rfl,rfl⟩,fun H15 bd n15=>?_⟩
 have hbd:=n15.ge
 have e015:=e014.new n15
 have rq15:=(n15.mod).rdL (S:=[]) (by simp) (rdL_iff.2 fun j v hj=>by rw[Nat.zero_add];exact rq14 j v hj)
 refine⟨_,rfl,rq15,c169 h p (r.ext e015) hp fun pa pc H16 bP e16=>⟨_,_,_,_,rfl,?_,fun H17 h17=>?_⟩⟩
 ·exact (n15.own.mod e16 (by simp)).w 13 1 rfl
 have o17:=(n15.own.mod e16 (by simp)).wr 13 (.slice pa 10 pc)
 rw[<-h17] at o17
 have m17:Mod [bd] H16 H17:=by rw[h17];exact Mod.refl.wr (.inl (by simp))
 clear h17
 have hbdl:=n15.lt;have hz16:=e16.1
 have e1517:=n15.mod.thenExt e16
 have bS17:=(bS14.ext e1517).keep2 m17 (by
  intro hc b e hx;simp at hx;subst hx;subst e
  have:=bS14.lt hc (by omega);omega)
 have bL17:=(bL14.ext e1517).keep2 m17 (by
  intro hc b e hx;simp at hx;subst hx;subst e
  have:=bL14.lt hc (by omega);omega)
 have bX17:=(bX14.ext e1517).keep2 m17 (by
  intro hc b e hx;simp at hx;subst hx;subst e
  have:=bX14.lt hc (by omega);omega)
 have bT17:=(bT14.ext e1517).keep2 m17 (by
  intro hc b e hx;simp at hx;subst hx;subst e
  have:=bT14.lt hc (by omega);omega)
 have bP17:=bP.mod m17 (by simp;omega)
 have ne:∀{sz n l c:Nat} {a:Option Addr} {cells:List Value},Buf sz H14 n a l c cells->0<sz->∀b o,0<l->a=some ⟨b,o,none⟩->b≠bd:=by
  intro sz n l c a cells hB hz b o hl e e2
  subst e2
  rcases hB.ok with h0|⟨b',e',_⟩
  ·have:=Nat.mul_pos (Nat.lt_of_lt_of_le hl hB.le) hz;omega
  ·rw[e] at e';cases e'
   have hB':=hB
   rw[e] at hB'
   have:=hB'.lt (Nat.lt_of_lt_of_le hl hB.le) hz;omega
 have hz7:=e7.1;have hz014:=e014.1;have hz15:=e015.1;have hz010:=e010.1;have hz06:=e06.1;have hz04:=e04.1
 refine k1 hp H17 bd ⟨xa,xc,ta,tc,sa,sc,la,lc⟩ pa pc o17 ⟨bX17.row,bT17.row,bS17.row,bL17.row,r.x1,r.th1,r.s1,r.l1⟩ bP17.row ((e015.thenExt e16).trans_new m17 (by simp;omega)) (by omega)
  (bX17.lo (by omega) |>.down (by omega)) (bT17.lo (by omega) |>.down (by omega)) (bS17.lo (by omega) |>.down (by omega)) (bL17.lo (by omega) |>.down (by omega)) (bP17.lo (by omega) |>.down (by omega)) (ne bX14 (by omega)) (ne bT14 (by omega)) (ne bS14 (by omega)) (ne bL14 (by omega)) ?_
 intro b o e e2
 have:=bP.lo (by omega) (by omega) b o e
 omega
end Go.VC
namespace Go.VC
open Go Go.Proofs
theorem over_same {α:Type}(z:α)(N at_ n:Nat)(h:at_+n<=N):over (List.replicate N z) at_ (List.replicate n z)=List.replicate N z:=by
 unfold over
 simp only[List.take_replicate,List.drop_replicate,List.length_replicate,List.replicate_append_replicate]
 congr 1;omega
theorem c111 {H:Heap}{R:Value->Heap->Prop}{ba bw N given:Nat}(h:Arena H ba bw (List.replicate N 0) given)(n x:Nat)(h0:0<N)(hn:n<=1048576)(h1:1<=x)(h2:x<=64)(hg:given+n*(x+1)<=N)
  (k:∀H' bs,Arena H' ba bw (List.replicate N 0) (given+n*(x+1))->Own H' bs (slotsC given n x ba)->Mod [ba,bw] H H'->H.size<=bs->R (.tuple #[.pointer (some ⟨bs,0,none⟩),.int .i64 0]) H') :
  Ru 111 [.pointer (some ⟨ba,0,none⟩),.int .i64 (n:Int),.int .i64 (x:Int)] H R:=by
 have hf:=h.few
 simp at hf
 have hba:=h.lt
 have hbw:bw<H.size:=h.row.lt (u64s_ne (by simpa using h0))
 refine v111 _ _ _ _ fun H1 p n1=>⟨rfl,?_,n1.own.w 0 3 rfl,fun H2 h2'=>?_⟩
 ·intro v hv;simp only[List.mem_cons,List.not_mem_nil,or_false] at hv;rcases hv with rfl|rfl|rfl<;>trivial
 have o2:Own H2 p [.int .i64 0,.int .i64 (n:Int),.int .i64 (x:Int)]:=by rw[h2'];exact n1.own.swrL rfl
 have e02:Ext H H2:=by rw[h2'];exact n1.mod.trans_new (Mod.refl.wrL (S:=[p]) (.inl (by simp))) (by simpa using n1.ge)
 clear h2'
 have hp:=n1.ge
 have hnx:(n:Int)*((x:Int)+1)=((n*(x+1):Nat):Int):=by push_cast;rfl
 refine⟨_,rfl,o2.1,c175 0 n x (by omega) (by omega) (by omega) (by omega) fun H3 e3=>⟨_,rfl,by simp,fun _=>⟨_,rfl,(o2.mod e3 (by simp)).1,c176 0 n x (by omega) (by omega) fun H4 e4=>⟨_,rfl,?_,?_⟩⟩⟩⟩
 ·rw[hnx];exact⟨by omega,by omega⟩
 rw[hnx]
 have e04:=(e02.thenExt e3).thenExt e4
 have o4:=(o2.mod e3 (by simp)).mod e4 (by simp)
 refine c109 (n*(x+1)) (h.mod e04 (by simp) (by simp)) (by simpa using hg) fun H5 a5 m5=>⟨_,_,rfl,by simp,fun _=>?_⟩
 have o5:=o4.mod m5 (by simp;omega)
 refine⟨o5.w 0 1 rfl,fun H6 h6=>?_⟩
 have o6:=o5.wr 0 (.int .i64 (given:Int))
 rw[<-h6] at o6
 have m6:Mod [p] H5 H6:=by rw[h6];exact Mod.refl.wr (.inl (by simp))
 clear h6
 have a6:=a5.mod m6 (by simp;omega) (by simp;omega)
 refine⟨_,rfl,o6.1,c176 _ _ _ (by omega) (by omega) fun H7 e7=>⟨_,rfl,?_,?_,fun H8 q n8=>?_⟩⟩
 ·rw[hnx];exact⟨by omega,by omega⟩
 ·rw[hnx];exact⟨by omega,by omega,by omega,by omega,by omega⟩
 rw[hnx,Int.toNat_natCast] at n8 ⊢
 rw[rep_u64] at n8
 have e68:=e7.new n8
 refine c177 (xs:=List.replicate (n*(x+1)) 0) (a6.mod e68 (by simp) (by simp)) given (n8.own.rowU (by simp)) (by omega) fun H9 a9 m9=>⟨_,rfl,?_⟩
 rw[over_same _ _ _ _ hg] at a9
 have o9:=(o6.mod e68 (by simp)).mod m9 (by simp;omega)
 refine⟨_,rfl,o9.1,rfl,fun H10 bs n10=>?_⟩
 have m09:Mod [ba,bw] H H9:=by
  have h1:Mod [ba,bw] H H6:=((Mod.ext e04).trans (m5.mono (by simp))).trans_new m6 (by simp;omega)
  exact h1.trans ((Mod.ext e68).trans (m9.mono (by simp)))
 refine k H10 bs (a9.mod n10.mod (by simp) (by simp)) n10.own (m09.thenExt n10.mod) ?_
 have:=m09.1;have:=n10.ge;omega
structure DIn (h:Hdr)(b:DB)(n:Nat):Prop where
 d:n<=b.d
 a:n<=b.a
 w:n<=b.w
 m:n<=b.m
 s:n<=b.s
 x:Lo n h.x.length b.hp.xa
 t:Lo n h.th.length b.hp.ta
 sp:Lo n h.step.ops.length b.hp.sa
 lp:Lo n h.loss.ops.length b.hp.la
 p:Lo n 10 b.pa
theorem DIn.down {h:Hdr}{b:DB}{n m:Nat}(i:DIn h b n)(hm:m<=n):DIn h b m:=⟨Nat.le_trans hm i.d,Nat.le_trans hm i.a,Nat.le_trans hm i.w,Nat.le_trans hm i.m,Nat.le_trans hm i.s,i.x.down hm,i.t.down hm,i.sp.down hm,i.lp.down hm,i.p.down hm⟩
noncomputable def z0 (h:Hdr):PS:=⟨zeros (nT h),zeros (nX h),zeros (nS h),zeros (nL h),zeros (max (nS h) (nL h)),zeros (nX h),zeros (nT h),zeros (tapeOf h).toNat⟩
noncomputable def s0 (h:Hdr):PS:={ z0 h with th:=h.th,st:=h.x }
noncomputable def k0 (h:Hdr):List UInt64:=zeros (slotOf h*slotsOf h).toNat
noncomputable def post0 (h:Hdr):List UInt64:=zeros (h.words-(fixedOf h+tapeOf h+slotOf h*slotsOf h)).toNat
theorem parts_eq (h:Hdr)(ok:OkH h):partsOf h=[(nT h:Int),(nX h:Int),(nS h:Int),(nL h:Int),((max (nS h) (nL h):Nat):Int),(nX h:Int),(nT h:Int),tapeOf h,slotOf h]:=by
 obtain⟨a,b⟩:=ok_regs ok
 have e1:(nS h:Int)=h.step.regs:=by simp only[nS];omega
 have e2:(nL h:Int)=h.loss.regs:=by simp only[nL];omega
 have e3:((max (nS h) (nL h):Nat):Int)=max h.step.regs h.loss.regs:=by omega
 rw[e3,e1,e2];rfl
theorem fixed_eq (h:Hdr)(ok:OkH h):fixedOf h=((nT h+nX h+nS h+nL h+max (nS h) (nL h)+nX h+nT h:Nat):Int):=by
 unfold fixedOf
 rw[parts_eq h ok]
 simp only[List.take_succ_cons,List.take_zero,List.sum_cons,List.sum_nil]
 push_cast;omega
theorem z0_flat (h:Hdr)(hp:PlanOk h):(z0 h).l.flatten=zeros (fixedOf h+tapeOf h).toNat:=by
 have ht:=parts_small hp.1 (tapeOf h) (List.getElem_mem _)
 have hf:=fixed_eq h hp.1
 simp only[z0,PS.l,List.flatten_cons,List.flatten_nil,List.append_nil,zeros,List.replicate_append_replicate]
 congr 1;omega
theorem words_eq (h:Hdr)(hp:PlanOk h):List.replicate h.words.toNat (0:UInt64)=(z0 h).l.flatten++k0 h++post0 h:=by
 obtain⟨a,b,c,d⟩:=slots_small hp
 have ht:=parts_small hp.1 (tapeOf h) (List.getElem_mem _)
 have hf:=fixed_eq h hp.1
 rw[z0_flat h hp]
 simp only[zeros,k0,post0,List.replicate_append_replicate]
 congr 1;omega
theorem z0_lens (h:Hdr)(ok:OkH h):∀i (hi:i<(z0 h).l.length) (hi':i<(partsOf h).length),((z0 h).l[i].length:Int)=(partsOf h)[i]:=by
 have ht:=parts_small ok (tapeOf h) (List.getElem_mem _)
 intro i hi hi'
 have he:=parts_eq h ok
 have:(partsOf h)[i]=([(nT h:Int),(nX h:Int),(nS h:Int),(nL h:Int),((max (nS h) (nL h):Nat):Int),(nX h:Int),(nT h:Int),tapeOf h,slotOf h])[i]'(by rw[<-he];exact hi'):=by simp only[he]
 rw[this]
 have hi8:i<8:=hi
 match i,hi8 with
 | 0,_=>simp[z0,PS.l]
 | 1,_=>simp[z0,PS.l]
 | 2,_=>simp[z0,PS.l]
 | 3,_=>simp[z0,PS.l]
 | 4,_=>simp[z0,PS.l]
 | 5,_=>simp[z0,PS.l]
 | 6,_=>simp[z0,PS.l]
 | 7,_=>simp[z0,PS.l];omega
end Go.VC
namespace Go.VC
open Go Go.Proofs
theorem k0_slots (h:Hdr)(hp:PlanOk h)(hm:h.mode≠3):k0 h=slotsW (nX h) (heldOf h (List.replicate (slotsOf h).toNat (-1))):=by
 obtain⟨a,b,c,d⟩:=slots_small hp
 have hs:=slot_eq hm
 have e:heldOf h (List.replicate (slotsOf h).toNat (-1))=List.replicate (slotsOf h).toNat none:=by
  unfold heldOf;rw[List.map_replicate];simp
 rw[e]
 have key:∀n:Nat,slotsW (nX h) (List.replicate n none)=zeros (n*(nX h+1)):=by
  intro n
  induction n with
  | zero=>simp[slotsW,zeros]
  | succ n ih=>
   rw[List.replicate_succ]
   simp only[slotsW,List.flatMap_cons] at ih ⊢
   rw[ih]
   simp only[slotW,zeros,List.replicate_append_replicate,Nat.add_mul,Nat.one_mul]
   congr 1;omega
 rw[key]
 unfold k0
 congr 1
 have h1:slotOf h*slotsOf h=(((slotsOf h).toNat*(nX h+1):Nat):Int):=by
  push_cast
  rw[hs,Int.mul_comm]
  congr 1;omega
 omega
theorem drvL_eq (h:Hdr)(b:DB)(d:DS)(s:Value)(hs:s=slotsPtr h b):drvL (i64s (planL h)) (hdrC h b.hp) (.slice b.pa 10 b.pc) (.pointer (some ⟨b.a,0,none⟩)) s (.pointer (some ⟨b.m,0,none⟩)) d=drvC h b d:=by
 subst hs;rfl
theorem c49 {H:Heap}{R:Value->Heap->Prop}(h:Hdr)(p:HAt)(r:HRows H h p)
  (k1:PlanOk h->∀H' b,Drv H' b h (d0 h (fixedOf h)) (s0 h) (k0 h) (post0 h)->DIn h b H.size->Ext H H'->R (.tuple #[.pointer (some ⟨b.d,0,none⟩),.int .i64 0]) H')
  (k2:∀n H',n≠0->¬PlanOk h->Ext H H'->R (.tuple #[.pointer none,.int .i64 n]) H'):Ru 49 [.agg (hdrC h p).toArray] H R:=by
 refine v49 (hdrC h p) fun H1 q n1=>⟨_,rfl,n1.rdL,c105 h p (r.ext n1.mod) (fun hp H2 bd hq pa pc o2 rr2 rp2 e2 hbd lx lt ls ll lp nx nt ns nl np=>⟨_,_,rfl,by simp,fun _=>?_⟩) (fun n H2 hn hno e2=>⟨_,_,rfl,fun _=>k2 n H2 hn hno (n1.mod.thenExt e2),fun h'=>(h' hn).elim⟩)⟩
 have ok:=hp.1
 obtain⟨sl0,sl1,sl2,sl3⟩:=slots_small hp
 have htp:=parts_small ok (tapeOf h) (List.getElem_mem _)
 have hfx:=fixed_eq h ok
 obtain⟨rg1,rg2⟩:=ok_regs ok
 obtain⟨d1,d2,d3,d4,d5⟩:=ok.dims
 have hwd:=ok.words
 have hnS:nS h=h.step.regs.toNat:=rfl
 have hw1:1<=h.words:=by omega
 have e02:=n1.mod.thenExt e2
 have rq:∀{H'} (e:Ext H2 H') j v,(hdrC h p)[j]?=some v->rd H' q j=some v:=fun e j v hj=>e.rd (by simp) (e2.rd (by simp) ((n1.rd j).trans hj))
 have hqd:q≠bd:=by have:=n1.lt;omega
 refine⟨_,rq Mod.refl 8 _ rfl,?_⟩
 have hww:h.words=(h.words.toNat:Int):=by omega
 have hc106:∀R',(∀H' b bw,Arena H' b bw (List.replicate h.words.toNat 0) 0->Ext H2 H'->H2.size<=b->H2.size<=bw->R' (.tuple #[.pointer (some ⟨b,0,none⟩),.int .i64 0]) H')->Ru 106 [.int .i64 h.words] H2 R':=by
  intro R' hk
  have:=c106 (R:=R') h.words.toNat (by omega) (by omega) hk
  rwa [<-hww] at this
 refine hc106 _ fun H3 ba bw ar3 e3 ha hb=>⟨_,_,rfl,bd,0,rfl,trivial,?_,fun H4 h4=>?_⟩
 ·rw[Nat.zero_add];exact (o2.mod e3 (by simp)).w 14 1 rfl
 rw[Nat.zero_add] at h4
 have hbdl:bd<H2.size:=o2.lt (by simp[drvL,i64s,planL])
 have o4:=(o2.mod e3 (by simp)).wr 14 (.pointer (some ⟨ba,0,none⟩))
 rw[<-h4] at o4
 have m4:Mod [bd] H3 H4:=by rw[h4];exact Mod.refl.wr (.inl (by simp))
 clear h4
 have o4':Own H4 bd (drvL (i64s (planL h)) (hdrC h hq) (.slice pa 10 pc) (.pointer (some ⟨ba,0,none⟩)) (.pointer none) (.pointer none) (d0 h 0)):=o4
 have ar4:=ar3.mod m4 (by simp;omega) (by simp;omega)
 have m24:Mod [bd] H2 H4:=(Mod.ext e3).trans m4
 have rq4:∀j v,(hdrC h p)[j]?=some v->rd H4 q j=some v:=fun j v hj=>m4.rd (by simpa using hqd) (rq e3 j v hj)
 refine⟨_,rq4 8 _ rfl,c107 h.words (by omega) fun H5 bm n5=>⟨_,_,rfl,bd,0,rfl,trivial,?_,fun H6 h6=>?_⟩⟩
 ·rw[Nat.zero_add];exact (o4'.mod n5.mod (by simp)).w 16 1 rfl
 rw[Nat.zero_add] at h6
 have o6:=(o4'.mod n5.mod (by simp)).wr 16 (.pointer (some ⟨bm,0,none⟩))
 rw[<-h6] at o6
 have m6:Mod [bd] H5 H6:=by rw[h6];exact Mod.refl.wr (.inl (by simp))
 clear h6
 have o6':Own H6 bd (drvL (i64s (planL h)) (hdrC h hq) (.slice pa 10 pc) (.pointer (some ⟨ba,0,none⟩)) (.pointer none) (.pointer (some ⟨bm,0,none⟩)) (d0 h 0)):=o6
 have hbm:=n5.ge;have hbml:=n5.lt;have z24:=m24.1;have z3:=e3.1;have z4:=m4.1
 have hal3:ba<H4.size:=ar4.lt
 have hbl3:bw<H4.size:=ar4.row.lt (u64s_ne (by simp;omega))
 have met6:Own H6 bm (meterC 0 0 h.words):=n5.own.mod m6 (by simp;omega)
 have ar6:=(ar4.mod n5.mod (by simp) (by simp)).mod m6 (by simp;omega) (by simp;omega)
 refine⟨bd,0,rfl,_,by rw[Nat.zero_add];exact o6'.rd 16 rfl,bd,0,rfl,fixedOf h,o6'.rd 0 rfl,?_⟩
 refine c108 (fixedOf h) met6 (by omega) (by omega) (by omega) (by omega) fun H7 met7 m7=>⟨_,rfl,?_⟩
 have hf0:max 0 (0+fixedOf h)=fixedOf h:=by omega
 rw[Int.zero_add,show max 0 (fixedOf h)=fixedOf h from by omega] at met7
 have o7:=o6'.mod m7 (by simp;omega)
 have ar7:=ar6.mod m7 (by simp;omega) (by simp;omega)
 have m27:Mod [bd] H2 H7:=(m24.trans ((Mod.ext n5.mod).trans m6)).trans_new m7 (by simp;omega)
 have rp7:=Mod.row m27 (fun b o e hb=>by simp at hb;exact np b o e hb) rp2
 have kept:((partsOf h).take 8).sum=(((z0 h).l.flatten.length:Nat):Int):=by rw[take8,z0_flat h hp];simp;omega
 obtain⟨pb,po,pe,pr⟩:=rp7.at (by omega)
 have r8:rd H7 pb (po+8)=some (.int .i64 (((z0 h).l.flatten.length:Nat):Int)):=by
  refine rdL_get' pr ?_
  simp only[i64s,List.getElem?_map,places_get h (show 8<=8 by omega),Option.map_some,kept]
 have hzl:(z0 h).l.flatten.length=(fixedOf h+tapeOf h).toNat:=by rw[z0_flat h hp];simp
 refine⟨bd,0,rfl,_,by rw[Nat.zero_add];exact o7.rd 14 rfl,bd,0,rfl,pa,10,pc,by rw[Nat.zero_add];exact o7.rd 13 rfl,pb,po,pe,⟨by omega,by omega⟩,_,r8,?_⟩
 refine c109 _ ar7 (by rw[Nat.zero_add,List.length_replicate];omega) fun H8 ar8 m8=>⟨_,_,rfl,?_⟩
 rw[Nat.zero_add] at ar8
 have o8:=o7.mod m8 (by simp;omega)
 have z7:=m27.1;have z8:=m8.1
 refine v110 _ _ ⟨_,by rw[Nat.zero_add];exact o8.rd 4 rfl,?_⟩
 have m28:Mod [bd] H2 H8:=m27.trans_new m8 (by simp;omega)
 have rq8:∀j v,(hdrC h p)[j]?=some v->rd H8 q j=some v:=fun j v hj=>m28.rd (by simpa using hqd) (rq Mod.refl j v hj)
 have met8:=met7.mod m8 (by simp;omega)
 have e08:Ext H H8:=e02.trans_new m28 (by simp;have:=n1.mod.1;omega)
 have hg:=n1.mod.1;have z02:=e02.1;have z08:=e08.1;have z45:=n5.mod.1;have z56:=m6.1;have z67:=m7.1
 have aw:=ar8.ne
 have fin:∀(H9:Heap) (bs:Nat),Own H9 bd (drvL (i64s (planL h)) (hdrC h hq) (.slice pa 10 pc) (.pointer (some ⟨ba,0,none⟩)) (if h.mode=3 then .pointer none else .pointer (some ⟨bs,0,none⟩)) (.pointer (some ⟨bm,0,none⟩)) (d0 h (fixedOf h)))->
   Arena H9 ba bw (List.replicate h.words.toNat 0) ((z0 h).l.flatten.length+(k0 h).length)->(h.mode≠3->RdL H9 bs 0 (slotsC (z0 h).l.flatten.length (slotsOf h).toNat (nX h) ba))->Mod [bd,ba,bw] H8 H9->H8.size<=bs->
   (∃a l c,rd H9 q 2=some (.slice a l c)/\Ru 112 [.pointer (some ⟨bd,0,none⟩),.int .i64 0,.slice a l c] H9 fun r H'=>∃a l c,rd H' q 1=some (.slice a l c)/\Ru 112 [.pointer (some ⟨bd,0,none⟩),.int .i64 1,.slice a l c] H' fun r H'=>R (.tuple #[.pointer (some ⟨bd,0,none⟩),.int .i64 0]) H'):=by
  intro H9 bs o9 ar9 sl9 m9 hbs
  have m29:Mod [bd,ba,bw] H2 H9:=(m28.mono (by simp)).trans m9
  have hqS:q∉[bd,ba,bw]:=by have:=n1.lt;simp;omega
  have rq9:∀j v,(hdrC h p)[j]?=some v->rd H9 q j=some v:=fun j v hj=>m29.rd hqS (rq Mod.refl j v hj)
  have off:∀{a:Option Addr} {l:Nat},(0<l->∀b o,a=some ⟨b,o,none⟩->b≠bd)->(0<l->∀b o,a=some ⟨b,o,none⟩->b<H2.size)->0<l->Off [bd,ba,bw,bm] a:=by
   intro a l h1 h2 hl b o e hb
   have:=h1 hl b o e;have:=h2 hl b o e
   simp at hb;omega
  have rlt:∀{sz l:Nat} {a:Option Addr} {cells:List Value},Row sz H2 a l cells->0<sz->0<l->∀b o,a=some ⟨b,o,none⟩->b<H2.size:=by
   intro sz l a cells hr hz hl b o e
   apply Classical.byContradiction
   intro hn
   exact hr.fresh (S:=[b]) hz hl (by simp;omega) b o e (by simp)
  have of:ROff h ⟨bd,ba,bw,bm,bs,hq,pa,pc⟩ [bd,ba,bw,bm]:=
   ⟨fun h0=>off (fun h1 b o e=>nx b o h1 e) (fun h1=>rlt rr2.x (by omega) h1) h0,fun h0=>off (fun h1 b o e=>nt b o h1 e) (fun h1=>rlt rr2.th (by omega) h1) h0,fun h0=>off (fun h1 b o e=>ns b o h1 e) (fun h1=>rlt rr2.s (by omega) h1) h0,
    fun h0=>off (fun h1 b o e=>nl b o h1 e) (fun h1=>rlt rr2.l (by omega) h1) h0,off (l:=10) (fun h1 b o e=>np b o e) (fun h1=>rlt rp2 (by omega) h1) (by omega)⟩
  have of':=of.mono (T:=[bd,ba,bw]) (by simp)
  have hdb:drvL (i64s (planL h)) (hdrC h hq) (.slice pa 10 pc) (.pointer (some ⟨ba,0,none⟩)) (if h.mode=3 then .pointer none else .pointer (some ⟨bs,0,none⟩)) (.pointer (some ⟨bm,0,none⟩)) (d0 h (fixedOf h))=drvC h ⟨bd,ba,bw,bm,bs,hq,pa,pc⟩ (d0 h (fixedOf h)):=
   drvL_eq h ⟨bd,ba,bw,bm,bs,hq,pa,pc⟩ _ _ rfl
  rw[hdb] at o9
  have v9:Drv H9 ⟨bd,ba,bw,bm,bs,hq,pa,pc⟩ h (d0 h (fixedOf h)) (z0 h) (k0 h) (post0 h):=by
   refine⟨o9,by rw[<-words_eq h hp];exact ar9,met8.mod m9 (by simp;omega),?_,Mod.row m29 of'.p rp2,rfl,z0_lens h ok,?_,?_,sl9,hp,by dsimp only;omega,by dsimp only;omega,by dsimp only;omega,by dsimp only;omega,by dsimp only;omega,⟨by dsimp only;omega,by dsimp only;omega,by dsimp only;omega,by dsimp only;omega⟩,of⟩
   ·exact HRows.mod (b:=⟨bd,ba,bw,bm,bs,hq,pa,pc⟩) rr2 m29 of'
   ·simp[k0];omega
   ·rw[<-words_eq h hp];simp;omega
  have e09:Ext H H9:=e08.trans_new m9 (by simp;omega)
  refine⟨_,_,_,rq9 2 _ rfl,c112 v9 0 (by omega) (Ext.row e09 r.th) (by simp[z0,PS.l,nT]) fun H10 v10 m10=>⟨_,_,_,m10.rd (by have:=n1.lt;simp;omega) (rq9 1 _ rfl),?_⟩⟩
  have e010:Ext H H10:=e09.trans_new m10 (by simp;omega)
  refine c112 v10 1 (by omega) (Ext.row e010 r.x) (by simp[z0,PS.l,putP,nX]) fun H11 v11 m11=>?_
  have hP:putP (putP (z0 h).l 0 h.th) 1 h.x=(s0 h).l:=by
   have e1:(zeros (nT h)).drop h.th.length=[]:=List.drop_of_length_le (by simp[nT])
   have e2:(zeros (nX h)).drop h.x.length=[]:=List.drop_of_length_le (by simp[nX])
   have e3:putP (putP (z0 h).l 0 h.th) 1 h.x=[h.th++(zeros (nT h)).drop h.th.length,h.x++(zeros (nX h)).drop h.x.length,zeros (nS h),zeros (nL h),zeros (max (nS h) (nL h)),zeros (nX h),zeros (nT h),zeros (tapeOf h).toNat]:=rfl
   rw[e3,e1,e2,List.append_nil,List.append_nil];rfl
  rw[hP] at v11
  refine k1 hp H11 _ v11 ⟨by dsimp only;omega,by dsimp only;omega,by dsimp only;omega,by dsimp only;omega,by dsimp only;omega,lx.down hg,lt.down hg,ls.down hg,ll.down hg,lp.down hg⟩ (e010.trans_new m11 (by simp;omega))
 refine⟨_,rfl,fun hb=>?_,fun hb=>?_⟩
 ·simp at hb
  have hsl:slotsOf h*slotOf h=(((k0 h).length:Nat):Int):=by simp[k0];rw[Int.mul_comm];omega
  refine⟨bd,0,rfl,_,by rw[Nat.zero_add];exact o8.rd 14 rfl,bd,0,rfl,slotsOf h,by rw[Nat.zero_add];exact o8.rd 3 rfl,bd,0,rfl,slotOf h,by rw[Nat.zero_add];exact o8.rd 2 rfl,⟨by rw[hsl];simp[k0];omega,by rw[hsl];simp[k0];omega⟩,?_⟩
  rw[hsl]
  have hkl:(k0 h).length=(slotOf h*slotsOf h).toNat:=by simp[k0]
  refine c109 _ ar8 (by rw[List.length_replicate,hkl,hzl];omega) fun H9 ar9 m9=>⟨_,_,rfl,?_⟩
  have o9:=o8.mod m9 (by simp;omega)
  refine fin H9 H9.size ?_ ar9 (fun h'=>(h' hb).elim) (m9.mono (by simp)) m9.1
  rw[if_pos hb];exact o9
 ·simp at hb
  refine⟨bd,0,rfl,_,by rw[Nat.zero_add];exact o8.rd 14 rfl,bd,0,rfl,slotsOf h,by rw[Nat.zero_add];exact o8.rd 3 rfl,_,_,_,rq8 1 _ rfl,?_⟩
  have hse:=slot_eq hb
  have hmul:(slotsOf h).toNat*(nX h+1)=(k0 h).length:=by
   rw[k0_slots h hp hb,slotsW_length (by intro x hx;simp[heldOf] at hx;rw[hx.2];trivial),heldOf_length,List.length_replicate]
  have hkl:(k0 h).length=(slotOf h*slotsOf h).toNat:=by simp[k0]
  have hsn:slotsOf h=((slotsOf h).toNat:Int):=by omega
  have hc111:∀R',(∀H' bs,Arena H' ba bw (List.replicate h.words.toNat 0) ((z0 h).l.flatten.length+(slotsOf h).toNat*(nX h+1))->Own H' bs (slotsC (z0 h).l.flatten.length (slotsOf h).toNat (nX h) ba)->Mod [ba,bw] H8 H'->H8.size<=bs->R' (.tuple #[.pointer (some ⟨bs,0,none⟩),.int .i64 0]) H')->
    Ru 111 [.pointer (some ⟨ba,0,none⟩),.int .i64 (slotsOf h),.int .i64 (h.x.length:Int)] H8 R':=by
   intro R' hk
   have:=c111 (R:=R') ar8 (slotsOf h).toNat (nX h) (by omega) (by omega) (by simp only[nX];omega) (by simp only[nX];omega) (by rw[hmul,hkl];omega) hk
   rw[<-hsn] at this;exact this
  refine hc111 _ fun H9 bs ar9 o9s m9 hbs=>⟨_,_,rfl,bd,0,rfl,trivial,?_,fun H10 h10=>?_⟩
  ·rw[Nat.zero_add];exact (o8.mod m9 (by simp;omega)).w 15 1 rfl
  rw[Nat.zero_add] at h10
  have o10:=(o8.mod m9 (by simp;omega)).wr 15 (.pointer (some ⟨bs,0,none⟩))
  rw[<-h10] at o10
  have m10:Mod [bd] H9 H10:=by rw[h10];exact Mod.refl.wr (.inl (by simp))
  clear h10
  rw[hmul] at ar9
  refine fin H10 bs ?_ (ar9.mod m10 (by simp;omega) (by simp;omega)) (fun _=>(o9s.mod m10 (by simp;omega)).1) ((m9.mono (by simp)).trans (m10.mono (by simp))) hbs
  rw[if_neg hb];exact o10
end Go.VC
namespace Go.VC
open Go Go.Proofs
variable {H:Heap}{R:Value->Heap->Prop}
def nextF (m:Int):Value:=.func (.func (if m=1 then 113 else if m=2 then 114 else 115)) #[] #[]
def engC (h:Hdr)(bd:Nat)(ended failed:Bool):List Value:=[.pointer (some ⟨bd,0,none⟩),.int .i64 h.mode,nextF h.mode,.bool ended,.bool failed]
structure EngS (H:Heap)(be:Nat)(b:DB)(h:Hdr)(d:DS)(tags:List Int)(ended failed:Bool)(s:PS)(post:List UInt64):Prop where
 top:Own H be (engC h b.d ended failed)
 drv:Drv H b h d s (slotsW (nX h) (heldOf h tags)) post
 sem:DSem h d tags s
 off:DOff h b [be]
theorem slots_pos {h:Hdr}(hp:PlanOk h)(hm:h.mode≠3):1<=slotsOf h:=by
 obtain⟨ok,hfit⟩:=hp
 have hs:=slot_eq hm
 have hl1:leastOf h=1:=by unfold leastOf;rw[if_neg hm]
 rw[hl1,Int.mul_one] at hfit
 unfold slotsOf
 rw[if_neg hm]
 exact Int.le_ediv_of_mul_le (by omega) (by omega)
theorem EngS.keep {S:List Nat}{H H':Heap}{be:Nat}{b:DB}{h:Hdr}{d:DS}{tags:List Int}{ended failed:Bool}{s:PS}{post:List UInt64}(e:EngS H be b h d tags ended failed s post)(m:Mod S H H')(h1:be∉S)(h2:DOff h b S):EngS H' be b h d tags ended failed s post:=
 ⟨e.top.mod m h1,e.drv.keep m h2,e.sem,e.off⟩
theorem EngS.ext {H H':Heap}{be:Nat}{b:DB}{h:Hdr}{d:DS}{tags:List Int}{ended failed:Bool}{s:PS}{post:List UInt64}(e:EngS H be b h d tags ended failed s post)(m:Ext H H'):EngS H' be b h d tags ended failed s post:=e.keep m (by simp) (DOff.nil h b)
theorem EngS.ne {H:Heap}{be:Nat}{b:DB}{h:Hdr}{d:DS}{tags:List Int}{ended failed:Bool}{s:PS}{post:List UInt64}(e:EngS H be b h d tags ended failed s post):be∉[b.d,b.m,b.w]:=by
 simp;exact⟨fun h=>e.off.d (by simp[h]),fun h=>e.off.m (by simp[h]),fun h=>e.off.w (by simp[h])⟩
theorem c54 {be:Nat}{h:Hdr}{bd:Nat}{ended failed:Bool}(t:Own H be (engC h bd ended failed))(k:R (.pointer (some ⟨bd,0,none⟩)) H):Ru 54 [.pointer (some ⟨be,0,none⟩)] H R:=
 v54 _ _ ⟨_,t.rd 0 rfl,k⟩
theorem c13 {be:Nat}{b:DB}{h:Hdr}{d:DS}{P:List (List UInt64)}{K post:List UInt64}{ended failed:Bool}(t:Own H be (engC h b.d ended failed))(v:DrvM H b h d P K post)(k:R (.int .i64 d.l) H):Ru 13 [.pointer (some ⟨be,0,none⟩)] H R:=
 v13 _ _ (c54 t (v55 _ _ ⟨_,by rw[Nat.zero_add];exact v.rd 17 rfl,_,rfl,k⟩))
theorem cpy {H:Heap}{p:Nat}{old cs:List Value}{n:Nat}{R:Value->Heap->Prop}{f:List Value->Value}{H0:Heap}(ho:Own H p old)(hn:cs.length=n)(hl:old.length=n)(hone:∀x∈cs,One x)(e:Ext H0 H)(hp:H0.size<=p)(k:∀H',Ext H0 H'->R (f cs) H') :
  cs.length=n/\(∀v:Value,v∈cs->One v)/\WOk H p 0 n/\∀H',H'=wrL H p 0 cs->∃cs:List Value,cs.length=n/\RdL H' p 0 cs/\R (f cs) H':=by
 refine⟨hn,hone,by have:=ho.2;rwa [hl] at this,fun H' h'=>⟨cs,hn,?_,?_⟩⟩
 ·rw[h'];refine rdL_wrL ?_;rw[hn];have:=ho.2;rwa [hl] at this
 ·exact k H' (by rw[h'];exact e.trans_new (Mod.refl.wrL (S:=[p]) (.inl (by simp))) (by simpa using hp))
theorem spot_one {at_ pend:Int}{a:Option Addr}{l c:Nat}:∀x∈spotC at_ pend a l c,One x:=by
 intro x hx;simp only[spotC,List.mem_cons,List.not_mem_nil,or_false] at hx;rcases hx with rfl|rfl|rfl<;>trivial
theorem act_one {k n:Int}:∀x∈actC k n,One x:=by
 intro x hx;simp only[actC,List.mem_cons,List.not_mem_nil,or_false] at hx;rcases hx with rfl|rfl<;>trivial
theorem c16 {be:Nat}{b:DB}{h:Hdr}{d:DS}{tags:List Int}{ended failed:Bool}{s:PS}{post:List UInt64}(e:EngS H be b h d tags ended failed s post)(hm:h.mode≠3)
  (k:∀a c H',Buf 1 H' H.size a tags.length c (i64s tags)->Ext H H'->R (.agg (spotC d.at_ d.pend a tags.length c).toArray) H'):Ru 16 [.pointer (some ⟨be,0,none⟩)] H R:=by
 refine v16 _ _ fun H1 p n1=>c54 (e.ext n1.mod).top (c57 (e.ext n1.mod).drv hm e.sem.mok e.sem.len fun a c H2 hB e2=>⟨_,rfl,rfl,?_⟩)
 have o2:=n1.own.mod e2 (by simp)
 refine⟨rfl,spot_one,o2.w 0 3 rfl,fun H3 h3=>⟨spotC d.at_ d.pend a tags.length c,rfl,by rw[h3];exact rdL_wrL o2.2,?_⟩⟩
 have m3:Mod [p] H2 H3:=by rw[h3];exact Mod.refl.wrL (.inl (by simp))
 exact k a c H3 ((hB.mod m3 (by simpa using n1.lt)).down n1.mod.1) ((n1.mod.thenExt e2).trans_new m3 (by simpa using n1.ge))
noncomputable def enext (h:Hdr)(d:DS)(tags:List Int)(ended:Bool):Option (Int × Int):=
 if h.mode=1 then revNext d.l d.at_ d.pend tags else strideNext d.l ended d.at_ d.pend tags
theorem actR_shape (o:Option (Int × Int)):∃k n c,actR o=.tuple #[.agg (actC k n).toArray,.bool c]/\c=o.isSome/\(∀q,o=some q->q=(k,n))/\(o=none->k=0/\n=0):=by
 cases o with
 | none=>exact⟨0,0,false,rfl,rfl,by simp,by simp⟩
 | some q=>obtain⟨k,n⟩:=q;exact⟨k,n,true,rfl,rfl,by simp,by simp⟩
theorem EngS.pos {H:Heap}{be:Nat}{b:DB}{h:Hdr}{d:DS}{tags:List Int}{ended failed:Bool}{s:PS}{post:List UInt64}(e:EngS H be b h d tags ended failed s post)(hm:h.mode≠3):1<=tags.length:=by
 have:=slots_pos e.drv.ok hm;have:=e.sem.len;omega
theorem cnext {H:Heap}{be:Nat}{b:DB}{h:Hdr}{d:DS}{tags:List Int}{ended failed:Bool}{s:PS}{post:List UInt64}(e:EngS H be b h d tags ended failed s post)(hm:h.mode=1\/h.mode=2) :
  ∃g,nextF h.mode=.func (.func g) #[] #[]/\callable Tryz.prog g=true/\∀R:Value->Heap->Prop,(∀H',Ext H H'->R (actR (enext h d tags ended)) H')->Ru g [.pointer (some ⟨be,0,none⟩)] H R:=by
 have hpos:=e.pos (by omega)
 have hmok:=e.sem.mok
 have hl0:0<=d.l:=hmok.l0
 rcases hm with hm|hm
 ·refine⟨113,by unfold nextF;rw[if_pos hm],by kernel_rfl,fun R K=>?_⟩
  unfold enext at K
  rw[if_pos hm] at K
  refine v113 _ _ fun H1 p n1=>c13 (e.ext n1.mod).top (e.ext n1.mod).drv ⟨_,rfl,c16 (e.ext n1.mod) (by omega) fun a c H2 hB e2=>⟨_,rfl,rfl,c178 d.l d.at_ d.pend hB.row hmok hpos fun H3 e3=>?_⟩⟩
  exact actEnd (n1.own.mod e2 (by simp)) _ n1.ge (n1.mod.thenExt e2) K e3 rfl
 ·refine⟨114,by unfold nextF;rw[if_neg (by omega),if_pos hm],by kernel_rfl,fun R K=>?_⟩
  unfold enext at K
  rw[if_neg (by omega)] at K
  have hdl:d.l=(d.l.toNat:Int):=by omega
  refine v114 _ _ fun H1 p n1=>⟨ended,(e.ext n1.mod).top.rd 3 rfl,c13 (e.ext n1.mod).top (e.ext n1.mod).drv ⟨_,rfl,(e.ext n1.mod).top.rd 3 rfl,c16 (e.ext n1.mod) (by omega) fun a c H2 hB e2=>⟨_,rfl,rfl,((e.ext n1.mod).ext e2).top.rd 3 rfl,?_⟩⟩⟩
  have key:=c179 (c:=c) (R:=fun r H'=>∃cs:List Value,List.length cs=2/\∃c,r=.tuple #[.agg (List.toArray cs),.bool c]/\List.length cs=2/\(∀v:Value,v∈cs->One v)/\WOk H' p 0 2/\∀H'_1,H'_1=wrL H' p 0 cs->∃cs:List Value,List.length cs=2/\RdL H'_1 p 0 cs/\R (.tuple #[.agg (List.toArray cs),.bool c]) H'_1) d.l.toNat ended d.at_ d.pend hB.row (by rw[<-hdl];exact hmok) hpos fun H3 e3=>actEnd (n1.own.mod e2 (by simp)) _ n1.ge (n1.mod.thenExt e2) (by rw[<-hdl];exact K) e3 rfl
  rw[<-hdl] at key
  exact key
theorem c52 {be:Nat}{b:DB}{h:Hdr}{d:DS}{tags:List Int}{ended:Bool}{s:PS}{post:List UInt64}(e:EngS H be b h d tags ended false s post)(hm:h.mode=1\/h.mode=2)
  (k:∀H',Ext H H'->R (.bool (enext h d tags ended).isNone) H'):Ru 52 [.pointer (some ⟨be,0,none⟩)] H R:=by
 obtain⟨g,hg,hc,hr⟩:=cnext e hm
 refine v52 _ _ ⟨false,e.top.rd 4 rfl,by simp,fun _=>⟨_,e.top.rd 2 rfl,g,_,_,hg,hc,hr _ fun H1 e1=>?_⟩⟩
 obtain⟨x,y,c,hs,hcc,_⟩:=actR_shape (enext h d tags ended)
 refine⟨actC x y,rfl,c,hs,fun H2 p n2=>⟨rfl,act_one,n2.own.w 0 2 rfl,fun H3 h3=>?_⟩⟩
 have:(!c)=(enext h d tags ended).isNone:=by rw[hcc];cases enext h d tags ended<;>rfl
 rw[this]
 refine k H3 ?_
 rw[h3];exact (e1.new n2).trans_new (Mod.refl.wrL (S:=[p]) (.inl (by simp))) (by simp;have:=n2.ge;have:=e1.1;omega)
theorem c11 {be:Nat}{b:DB}{h:Hdr}{d:DS}{tags:List Int}{ended:Bool}{s:PS}{post:List UInt64}(e:EngS H be b h d tags ended false s post)(hm:h.mode=1\/h.mode=2)
  (k:∀H',Ext H H'->R (.bool ((enext h d tags ended).isNone && decide (h.mode=2) && !ended)) H'):Ru 11 [.pointer (some ⟨be,0,none⟩)] H R:=by
 refine v11 _ _ (c52 e hm fun H1 e1=>⟨_,rfl,fun h1=>⟨_,(e.ext e1).top.rd 1 rfl,fun h2=>⟨ended,(e.ext e1).top.rd 3 rfl,?_⟩,fun h2=>?_⟩,fun h1=>?_⟩)
 ·have:=k H1 e1;simp only[h1,h2,decide_true,Bool.true_and] at this;exact this
 ·have:=k H1 e1;simp only[h2,decide_false,Bool.and_false,Bool.false_and] at this;exact this
 ·have:=k H1 e1;simp only[h1,Bool.false_and] at this;exact this
theorem c31 {be:Nat}{b:DB}{h:Hdr}{d:DS}{tags:List Int}{ended:Bool}{s:PS}{post:List UInt64}(e:EngS H be b h d tags ended false s post)(hm:h.mode=1\/h.mode=2)
  (k:∀H',Ext H H'->R (.bool ((enext h d tags ended).isNone && decide (d.pend=0))) H'):Ru 31 [.pointer (some ⟨be,0,none⟩)] H R:=by
 refine v31 _ _ (c52 e hm fun H1 e1=>⟨_,rfl,fun h1=>c16 (e.ext e1) (by omega) fun a c H2 hB e2=>⟨_,rfl,rfl,trivial,_,rfl,_,rfl,?_⟩,fun h1=>?_⟩)
 ·have:=k H2 (e1.thenExt e2);simp only[h1,Bool.true_and] at this;exact this
 ·have:=k H1 e1;simp only[h1,Bool.false_and] at this;exact this
theorem c12 {be:Nat}{b:DB}{h:Hdr}{d:DS}{tags:List Int}{ended:Bool}{s:PS}{post:List UInt64}(e:EngS H be b h d tags ended false s post)(hm:h.mode=1\/h.mode=2)
  (cnt:DCnt d 2305843009213693952) (hleg:∀k n,enext h d tags ended=some (k,n)->∃m,mstep (dMS d tags) k n=some m)
  (k1:enext h d tags ended=none->∀H',Ext H H'->R (.tuple #[.agg (actC 0 0).toArray,.bool false,.int .i64 0]) H')
  (k2:∀k n m,enext h d tags ended=some (k,n)->mstep (dMS d tags) k n=some m->∀H' s',EngS H' be b h (dact h d k n m) m.tags ended false s' post->Mod [b.d,b.m,b.w] H H'->R (.tuple #[.agg (actC k n).toArray,.bool true,.int .i64 0]) H') :
  Ru 12 [.pointer (some ⟨be,0,none⟩)] H R:=by
 refine v12 _ _ fun H1 p n1=>⟨false,(e.ext n1.mod).top.rd 4 rfl,by simp,fun _=>?_⟩
 have e1:=e.ext n1.mod
 obtain⟨g,hg,hc,hr⟩:=cnext e1 hm
 refine⟨_,e1.top.rd 2 rfl,g,_,_,hg,hc,hr _ fun H2 x2=>?_⟩
 obtain⟨x,y,c,hs,hcc,hso,hno⟩:=actR_shape (enext h d tags ended)
 refine⟨actC x y,rfl,c,hs,fun H3 q n3=>⟨rfl,act_one,n3.own.w 0 2 rfl,fun H4 h4=>?_⟩⟩
 have oq:Own H4 q (actC x y):=by rw[h4];exact n3.own.swrL rfl
 have x24:Ext H2 H4:=by rw[h4];exact n3.mod.trans_new (Mod.refl.wrL (S:=[q]) (.inl (by simp))) (by simpa using n3.ge)
 clear h4
 have x14:=x2.thenExt x24
 have op:=n1.own.mod x14 (by simp)
 have x04:=n1.mod.thenExt x14
 have hp:=n1.ge
 have hql:=oq.lt (by simp[actC])
 refine⟨fun hc'=>?_,fun hc'=>?_⟩
 ·have hnone:enext h d tags ended=none:=by rw[hcc] at hc';cases hh:enext h d tags ended<;>simp_all
  refine⟨rfl,act_one,op.w 0 2 rfl,fun H5 h5=>⟨actC 0 0,rfl,by rw[h5];exact rdL_wrL op.2,k1 hnone H5 ?_⟩⟩
  rw[h5];exact x04.trans_new (Mod.refl.wrL (S:=[p]) (.inl (by simp))) (by simpa using hp)
 ·have hsome:enext h d tags ended=some (x,y):=by
   rw[hcc] at hc'
   cases hh:enext h d tags ended with
   | none=>rw[hh] at hc';simp at hc'
   | some q=>rw[hso q hh]
  obtain⟨m,hms⟩:=hleg x y hsome
  have e4:=e.ext x04
  refine⟨_,e4.top.rd 0 rfl,actC x y,rfl,oq.1,c53 e4.drv (by omega) e.sem cnt hms fun H5 s' v5 sem5 m5=>⟨_,rfl,by simp,fun _=>?_⟩⟩
  have hlow:∀z∈[b.d,b.m,b.w],z<H.size:=by
   intro z hz
   simp only[List.mem_cons,List.not_mem_nil,or_false] at hz
   rcases hz with rfl|rfl|rfl
   ·exact e.drv.top.lt (by unfold drvC;simp[i64s,planL])
   ·exact e.drv.met.lt (by simp[meterC])
   ·exact e.drv.ar.row.lt (u64s_ne e.drv.words)
  have hqS:q∉[b.d,b.m,b.w]:=fun hz=>by have:=hlow q hz;have:=n3.ge;have:=x2.1;have:=n1.mod.1;omega
  have hpS:p∉[b.d,b.m,b.w]:=fun hz=>by have:=hlow p hz;omega
  have e5:EngS H5 be b h (dact h d x y m) m.tags ended false s' post:=⟨e4.top.mod m5 e.ne,v5,sem5,e.off⟩
  have op5:=op.mod m5 hpS
  refine⟨actC x y,rfl,(oq.mod m5 hqS).1,rfl,act_one,op5.w 0 2 rfl,fun H6 h6=>⟨actC x y,rfl,by rw[h6];exact rdL_wrL op5.2,?_⟩⟩
  have m6:Mod [p] H5 H6:=by rw[h6];exact Mod.refl.wrL (.inl (by simp))
  have hpb:be≠p:=by have:=e.top.lt (by simp[engC]);omega
  refine k2 x y m hsome hms H6 s' (e5.keep m6 (by simpa using hpb) (e.drv.fresh (by simpa using hp))) ?_
  exact ((Mod.ext x04).trans m5).trans_new m6 (by simp;omega)
end Go.VC
namespace Go.VC
open Go Go.Proofs
variable {H:Heap}{R:Value->Heap->Prop}
noncomputable def tags0 (h:Hdr):List Int:=List.replicate (slotsOf h).toNat (-1)
theorem heldN_tags0 (h:Hdr):heldN (tags0 h)=0:=by simp[heldN,tags0,List.countP_replicate]
theorem dsem0 {h:Hdr}(hp:PlanOk h)(_hm:h.mode≠3):DSem h (d0 h (fixedOf h)) (tags0 h) (s0 h):=by
 obtain⟨a,b,c,d⟩:=slots_small hp
 have hl:=hp.1.len
 have ht:=parts_small hp.1 (tapeOf h) (List.getElem_mem _)
 unfold lenOk at hl
 refine⟨rfl,rfl,⟨hl.1,?_,by simp[dMS,d0],hl.1,by simp[dMS,d0],by simp only[dMS,d0];omega,?_,by simp[dMS,tags0];omega⟩,by simp[tags0],fun _=>rfl,fun h0=>by simp[d0] at h0,?_,Int.le_refl _,?_⟩
 ·show h.len<65536
  have:=hl.2
  split at this<;>omega
 ·intro t ht'
  simp only[dMS,tags0,List.mem_replicate] at ht'
  rw[ht'.2]
  exact⟨by omega,by simp only[dMS,d0];omega⟩
 ·show fixedOf h=fixedOf h+slotOf h*(heldN (tags0 h):Int)
  rw[heldN_tags0];simp
 ·show fixedOf h<=h.words
  omega
theorem c50 (h:Hdr)(p:HAt)(hm:1<=h.mode/\h.mode<=3)(bd:Nat)(k:∀H' be,Own H' be (engC h bd false false)->Ext H H'->H.size<=be->be<H'.size->R (.pointer (some ⟨be,0,none⟩)) H'):Ru 50 [.agg (hdrC h p).toArray,.pointer (some ⟨bd,0,none⟩)] H R:=by
 refine v50 (hdrC h p) _ _ fun H3 q3 n3=>⟨trivial,fun H4 q4 n4=>⟨rfl,?_,n4.own.w 0 4 rfl,fun H5 h5=>?_⟩⟩
 ·intro x hx;simp only[List.mem_cons,List.not_mem_nil,or_false] at hx;rcases hx with rfl|rfl|rfl|rfl<;>trivial
 have o5:Own H5 q4 [Value.nilFunc,.func (.func 113) #[] #[],.func (.func 114) #[] #[],.func (.func 115) #[] #[]]:=by rw[h5];exact n4.own.swrL rfl
 have e25:Ext H H5:=by rw[h5];exact (n3.mod.new n4).trans_new (Mod.refl.wrL (S:=[q4]) (.inl (by simp))) (by simp;have:=n3.mod.1;have:=n4.ge;omega)
 have r5:rd H5 q3 0=some (.int .i64 h.mode):=by
  have:q3∉[q4]:=by have:=n3.lt;have:=n4.ge;simp;omega
  rw[h5];exact (Mod.refl.wrL (S:=[q4]) (.inl (by simp))).rd this (n4.mod.rd (by simp) (n3.rd 0))
 clear h5
 have hcell:rd H5 q4 (0+h.mode.toNat*1)=some (nextF h.mode):=by
  have hc:h.mode=1\/h.mode=2\/h.mode=3:=by omega
  rcases hc with hc|hc|hc
  ·rw[hc];exact o5.rd 1 rfl
  ·rw[hc];exact o5.rd 2 rfl
  ·rw[hc];exact o5.rd 3 rfl
 refine⟨_,r5,_,r5,⟨by omega,by omega⟩,_,hcell,trivial,fun H6 be n6=>?_⟩
 exact k H6 be n6.own (e25.new n6) (Nat.le_trans e25.1 n6.ge) n6.lt
theorem c9g (h:Hdr)(p:HAt)(r:HRows H h p)
  (k1:PlanOk h->∀H' be b,Own H' be (engC h b.d false false)->Drv H' b h (d0 h (fixedOf h)) (s0 h) (k0 h) (post0 h)->DOff h b [be]->DIn h b H.size->H.size<=be->be<H'.size->Ext H H'->(∀S,(∀x∈S,H'.size<=x)->DOff h b S)->R (.tuple #[.pointer (some ⟨be,0,none⟩),.int .i64 0]) H')
  (k2:∀n H',n≠0->¬PlanOk h->Ext H H'->R (.tuple #[.pointer none,.int .i64 n]) H'):Ru 9 [.agg (hdrC h p).toArray] H R:=by
 refine v9 (hdrC h p) fun H1 q n1=>⟨_,rfl,n1.rdL,c49 h p (r.ext n1.mod) (fun hp H2 b v2 di e2=>⟨_,_,rfl,by simp,fun _=>⟨_,rfl,e2.rdL (by simp) n1.rdL,?_⟩⟩) (fun n H2 hn hno e2=>⟨_,_,rfl,fun _=>k2 n H2 hn hno (n1.mod.thenExt e2),fun h'=>(h' hn).elim⟩)⟩
 refine c50 h p hp.1.mode b.d fun H6 be o6 e6 hbe hlt=>?_
 have v6:=v2.ext e6
 have hz:=n1.mod.1;have hz2:=e2.1
 exact k1 hp H6 be b o6 v6 (v2.fresh (by simpa using hbe)) (di.down hz) (by omega) hlt ((n1.mod.thenExt e2).thenExt e6) (fun S hS=>v6.fresh hS)
theorem c9 (h:Hdr)(p:HAt)(r:HRows H h p)
  (k1:PlanOk h->∀H' be b,(h.mode≠3->EngS H' be b h (d0 h (fixedOf h)) (tags0 h) false false (s0 h) (post0 h))->DIn h b H.size->H.size<=be->be<H'.size->Ext H H'->(∀S,(∀x∈S,H'.size<=x)->DOff h b S)->R (.tuple #[.pointer (some ⟨be,0,none⟩),.int .i64 0]) H')
  (k2:∀n H',n≠0->¬PlanOk h->Ext H H'->R (.tuple #[.pointer none,.int .i64 n]) H'):Ru 9 [.agg (hdrC h p).toArray] H R:=by
 refine c9g h p r (fun hp H' be b o v f di h1 h2 e hS=>k1 hp H' be b (fun h3=>⟨o,?_,dsem0 hp h3,f⟩) di h1 h2 e hS) k2
 rw[k0_slots h hp h3] at v
 exact v
theorem c56 {b:DB}{h:Hdr}{d:DS}{P:List (List UInt64)}{K post:List UInt64}(v:DrvM H b h d P K post)(hm:h.mode=2)(hpend:d.pend<0)(hl:0<=d.l/\d.l<=65535)
  (k1:d.l=65535->R (.int .i64 14) H) (k2:d.l<65535->∀H',DrvM H' b h { d with l:=d.l+1 } P K post->Mod [b.d] H H'->R (.int .i64 0) H'):Ru 56 [.pointer (some ⟨b.d,0,none⟩)] H R:=by
 refine v56 _ _ ⟨_,by rw[Nat.zero_add];exact v.rd 4 rfl,fun h'=>(h' hm).elim,fun _=>⟨_,by rw[Nat.zero_add];exact v.rd 19 rfl,fun h'=>by omega,fun _=>⟨_,by rw[Nat.zero_add];exact v.rd 17 rfl,k1,fun hne=>⟨_,by rw[Nat.zero_add];exact v.rd 17 rfl,⟨by omega,by omega⟩,by rw[Nat.zero_add];exact v.top.w 17 1 rfl,fun H1 h1=>?_⟩⟩⟩⟩
 have o1:=v.top.wr 17 (.int .i64 (d.l+1))
 rw[Nat.zero_add] at h1
 rw[<-h1] at o1
 have m1:Mod [b.d] H H1:=by rw[h1];exact Mod.refl.wr (.inl (by simp))
 exact k2 (by omega) H1 (v.setD { d with l:=d.l+1 } o1 m1 rfl rfl) m1
theorem c14 {be:Nat}{b:DB}{h:Hdr}{d:DS}{tags:List Int}{s:PS}{post:List UInt64}(e:EngS H be b h d tags false false s post)(hm:h.mode=2)(hpend:d.pend = -1)(hw:enext h d tags false=none)(more:Bool)
  (k1:more=false->∀H',EngS H' be b h d tags true false s post->Mod [be] H H'->R (.int .i64 0) H')
  (k2:more=true->d.l<65535->∀H',EngS H' be b h { d with l:=d.l+1 } tags false false s post->Mod [be,b.d] H H'->R (.int .i64 0) H')
  (k3:more=true->d.l=65535->∀H',EngS H' be b h d tags false true s post->Mod [be] H H'->R (.int .i64 14) H'):Ru 14 [.pointer (some ⟨be,0,none⟩),.bool more] H R:=by
 have hmok:=e.sem.mok
 have hl0:=hmok.l0;have hl1:=hmok.l1
 simp only[dMS] at hl0 hl1
 refine v14 _ _ _ ⟨false,e.top.rd 4 rfl,by simp,fun _=>c11 e (.inr hm) fun H1 e1=>⟨_,rfl,fun h'=>by rw[hw] at h';simp[hm] at h',fun _=>⟨fun hmo=>⟨(e.ext e1).top.w 3 1 rfl,fun H2 h2=>?_⟩,fun hmo=>⟨_,(e.ext e1).top.rd 0 rfl,?_⟩⟩⟩⟩
 ·simp at hmo
  have x1:=e.ext e1
  have o2:=x1.top.wr 3 (.bool true)
  rw[Nat.zero_add] at h2
  rw[<-h2] at o2
  have m2:Mod [be] H1 H2:=by rw[h2];exact Mod.refl.wr (.inl (by simp))
  exact k1 hmo H2 ⟨o2,x1.drv.keep m2 e.off,e.sem,e.off⟩ ((Mod.ext e1).trans m2)
 ·simp at hmo
  have x1:=e.ext e1
  have hbed:be≠b.d:=fun h=>e.off.d (by simp[h])
  refine c56 x1.drv hm (by omega) ⟨hl0,by omega⟩ (fun hl=>⟨_,rfl,x1.top.w 4 1 rfl,fun H2 h2=>?_⟩) (fun hl H2 v2 m2=>⟨_,rfl,?_,fun H3 h3=>?_⟩)
  ·have o2:=x1.top.wr 4 (.bool (decide ((14:Int)=14)))
   rw[Nat.zero_add] at h2
   rw[<-h2] at o2
   have m2:Mod [be] H1 H2:=by rw[h2];exact Mod.refl.wr (.inl (by simp))
   exact k3 hmo hl H2 ⟨o2,x1.drv.keep m2 e.off,e.sem,e.off⟩ ((Mod.ext e1).trans m2)
  ·exact (x1.top.mod m2 (by simpa using hbed)).w 4 1 rfl
  ·have o3:=(x1.top.mod m2 (by simpa using hbed)).wr 4 (.bool (decide ((0:Int)=14)))
   rw[Nat.zero_add] at h3
   rw[<-h3] at o3
   have m3:Mod [be] H2 H3:=by rw[h3];exact Mod.refl.wr (.inl (by simp))
   refine k2 hmo hl H3 ⟨o3,v2.keep m3 e.off,?_,e.off⟩ ((Mod.ext e1).trans ((m2.mono (by simp)).trans (m3.mono (by simp))))
   obtain⟨sth,sst,mok,slen,sz,sgr,slive,spk,spk2⟩:=e.sem
   exact⟨sth,sst,⟨by simp only[dMS];omega,by simp only[dMS];omega,mok.at0,by have:=mok.at1;simp only[dMS] at this ⊢;omega,mok.p0,by have:=mok.p1;simp only[dMS] at this ⊢;omega,fun t ht=>by have:=mok.tg t ht;simp only[dMS] at this ⊢;omega,mok.few⟩,slen,sz,fun h0=>by dsimp only at h0;omega,slive,spk,spk2⟩
theorem c18c {be:Nat}{b:DB}{h:Hdr}{d:DS}{ended failed:Bool}{s:PS}{K post:List UInt64}(et:Own H be (engC h b.d ended failed))(ed:Drv H b h d s K post)(hp:d.pend=0)
  (k:∀H' a1 c1 a2 c2,Buf 1 H' H.size a1 (nX h) c1 (u64s s.ax)->Buf 1 H' H.size a2 (nT h) c2 (u64s s.ag)->Ext H H'->R (.tuple #[.agg [.int .u64 (d.loss.toNat:Int),.slice a1 (nX h) c1,.slice a2 (nT h) c2].toArray,.int .i64 0]) H'):Ru 18 [.pointer (some ⟨be,0,none⟩)] H R:=by
 have hlen:=ed.lens
 refine v18 _ _ fun H1 p n1=>c54 (et.mod n1.mod (by simp)) (v58 _ _ fun H2 p2 n2=>?_)
 have x2:=(ed.ext n1.mod).ext n2.mod
 refine⟨_,by rw[Nat.zero_add];exact x2.rd 19 rfl,fun h'=>(h' hp).elim,fun _=>⟨d.loss,by rw[Nat.zero_add];exact x2.rd 24 rfl,c121 x2 5 (by omega) fun a1 c1 H3 hB3 e3=>⟨_,_,_,rfl,by rw[Nat.zero_add];exact (x2.ext e3).rd 24 rfl,c121 (x2.ext e3) 6 (by omega) fun a2 c2 H4 hB4 e4=>⟨_,_,_,rfl,by rw[Nat.zero_add];exact ((x2.ext e3).ext e4).rd 24 rfl,rfl,?_,?_,fun H5 h5=>?_⟩⟩⟩⟩
 ·intro x hx;simp only[List.mem_cons,List.not_mem_nil,or_false] at hx;rcases hx with rfl|rfl|rfl<;>trivial
 ·exact ((n2.own.mod e3 (by simp)).mod e4 (by simp)).w 0 3 rfl
 have o4:=(n2.own.mod e3 (by simp)).mod e4 (by simp)
 have e24:=e3.thenExt e4
 refine⟨_,rfl,by rw[h5];exact rdL_wrL o4.2,_,rfl,_,rfl,rfl,?_,?_,fun H6 h6=>?_⟩
 ·intro x hx;simp only[List.mem_cons,List.not_mem_nil,or_false] at hx;rcases hx with rfl|rfl|rfl<;>trivial
 ·have m5:Mod [p2] H4 H5:=by rw[h5];exact Mod.refl.wrL (.inl (by simp))
  have:=((n1.own.mod n2.mod (by simp)).mod e24 (by simp)).mod m5 (by have:=n1.lt;have:=n2.ge;simp;omega)
  exact this.w 0 3 rfl
 have m5:Mod [p2] H4 H5:=by rw[h5];exact Mod.refl.wrL (.inl (by simp))
 have o1:=((n1.own.mod n2.mod (by simp)).mod e24 (by simp)).mod m5 (by have:=n1.lt;have:=n2.ge;simp;omega)
 have m6:Mod [p] H5 H6:=by rw[h6];exact Mod.refl.wrL (.inl (by simp))
 have h1:=n1.ge;have h2:=n1.lt;have h3:=n2.ge;have h4:=n2.lt;have z3:=e3.1;have z4:=e4.1;have z1:=n1.mod.1
 have m46:Mod [p2,p] H4 H6:=(m5.mono (by simp)).trans (m6.mono (by simp))
 have b3:Buf 1 H6 H2.size a1 s.ax.length c1 (u64s s.ax):=(hB3.ext e4).mod m46 (by simp;omega)
 have b4:Buf 1 H6 H3.size a2 s.ag.length c2 (u64s s.ag):=hB4.mod m46 (by simp;omega)
 have q1:Buf 1 H6 H.size a1 (nX h) c1 (u64s s.ax):=by rw[<-hlen.ax];exact b3.down (by omega)
 have q2:Buf 1 H6 H.size a2 (nT h) c2 (u64s s.ag):=by rw[<-hlen.ag];exact b4.down (by omega)
 have hk:=k H6 a1 c1 a2 c2 q1 q2 (((n1.mod.new n2).thenExt e24).trans_new m46 (by simp;omega))
 rw[<-hlen.ax,<-hlen.ag] at hk
 exact⟨_,rfl,by rw[h6];exact rdL_wrL o1.2,hk⟩
theorem c18b {be:Nat}{b:DB}{h:Hdr}{d:DS}{tags:List Int}{ended failed:Bool}{s:PS}{post:List UInt64}(e:EngS H be b h d tags ended failed s post)(hp:d.pend=0)
  (k:∀H' a1 c1 a2 c2,Buf 1 H' H.size a1 (nX h) c1 (u64s s.ax)->Buf 1 H' H.size a2 (nT h) c2 (u64s s.ag)->Ext H H'->R (.tuple #[.agg [.int .u64 (d.loss.toNat:Int),.slice a1 (nX h) c1,.slice a2 (nT h) c2].toArray,.int .i64 0]) H'):Ru 18 [.pointer (some ⟨be,0,none⟩)] H R:=c18c e.top e.drv hp k
theorem c18 {be:Nat}{b:DB}{h:Hdr}{d:DS}{tags:List Int}{ended failed:Bool}{s:PS}{post:List UInt64}(e:EngS H be b h d tags ended failed s post)(hp:d.pend=0)
  (k:∀H' a1 c1 a2 c2,RowU H' a1 (nX h) s.ax->RowU H' a2 (nT h) s.ag->Ext H H'->R (.tuple #[.agg [.int .u64 (d.loss.toNat:Int),.slice a1 (nX h) c1,.slice a2 (nT h) c2].toArray,.int .i64 0]) H'):Ru 18 [.pointer (some ⟨be,0,none⟩)] H R:=
 c18b e hp fun H' a1 c1 a2 c2 b1 b2 e'=>k H' a1 c1 a2 c2 b1.row b2.row e'
end Go.VC
namespace Go.VC
open Go Go.Proofs
def gt (tags:List Int)(i:Nat):Int:=tags.getD i (-1)
theorem gt_set (tags:List Int)(i j:Nat)(x:Int):gt (tags.set i x) j=if i=j/\i<tags.length then x else gt tags j:=by
 unfold gt
 simp only[List.getD_eq_getElem?_getD,List.getElem?_set]
 split
 ·rename_i e;subst e
  by_cases h:i<tags.length
  ·simp[h]
  ·simp[h]
 ·rename_i e;simp[e]
theorem gt_mem {tags:List Int}{i:Nat}(h:i<tags.length):gt tags i∈tags:=by
 unfold gt;rw[List.getD_eq_getElem?_getD,List.getElem?_eq_getElem h];exact List.getElem_mem h
def Dist (tags:List Int):Prop:=∀i j,i<tags.length->j<tags.length->gt tags i=gt tags j->0<=gt tags i->i=j
theorem dist_free {tags:List Int}(h:Dist tags)(k:Nat):Dist (tags.set k (-1)):=by
 intro i j hi hj e h0
 simp only[List.length_set] at hi hj
 rw[gt_set] at e h0
 rw[gt_set] at e
 split at h0
 ·omega
 ·rename_i h1
  rw[if_neg h1] at e
  split at e
  ·omega
  ·exact h i j hi hj e h0
theorem dist_store {tags:List Int}(h:Dist tags)(k:Nat){x:Int}(hx:∀j,j<tags.length->gt tags j≠x):Dist (tags.set k x):=by
 intro i j hi hj e h0
 simp only[List.length_set] at hi hj
 rw[gt_set] at e h0
 rw[gt_set] at e
 by_cases h1:k=i/\k<tags.length
 ·rw[if_pos h1] at e
  by_cases h2:k=j/\k<tags.length
  ·omega
  ·rw[if_neg h2] at e;exact absurd e.symm (hx j hj)
 ·rw[if_neg h1] at e h0
  by_cases h2:k=j/\k<tags.length
  ·rw[if_pos h2] at e;exact absurd e (hx i hi)
  ·rw[if_neg h2] at e;exact h i j hi hj e h0
def baseOf (tags:List Int):Int:=(lookF tags).base
theorem seen_of {tags:List Int}(ht:∀t∈tags,-1<=t):Seen tags tags.length (lookF tags):=lookF_seen ht
theorem base_eq {tags:List Int}(ht:∀t∈tags,-1<=t){x:Int}(h0:0<=x){j:Nat}(hj:j<tags.length)(hx:gt tags j=x)(hall:∀j,j<tags.length->gt tags j<=x):baseOf tags=x:=by
 have s:=seen_of ht
 have h1:gt tags j<=baseOf tags:=s.top j hj
 have h2:=s.at_ (show 0<=(lookF tags).base by unfold baseOf at h1;omega)
 have h3:=hall (lookF tags).slot.toNat (by have:=s.slot0;omega)
 unfold gt at h3;rw[h2.2] at h3
 unfold baseOf at h1 ⊢;omega
theorem base_none {tags:List Int}(ht:∀t∈tags,-1<=t)(hall:∀j,j<tags.length->gt tags j<0):baseOf tags = -1:=by
 have s:=seen_of ht
 have hb:=s.b0
 unfold baseOf
 apply Classical.byContradiction
 intro hn
 have h2:=s.at_ (by omega)
 have h3:=hall (lookF tags).slot.toNat (by have:=s.slot0;omega)
 unfold gt at h3;rw[h2.2] at h3;omega
structure OffInv (l at_ pend:Int)(tags:List Int):Prop where
 mok:MOk ⟨at_,pend,l,0,tags⟩
 dist:Dist tags
 n1:1<=tags.length
 start:baseOf tags = -1->(at_=0/\pend = -1)\/pend=0
 has0:0<=baseOf tags->0<endOf l pend->∃i,i<tags.length/\gt tags i=0
 top:baseOf tags<=endOf l pend
 pos:0<=baseOf tags->(baseOf tags<=at_/\at_<endOf l pend)\/(0<=pend/\at_=pend)
def offPhi (l at_ pend:Int)(tags:List Int):Int:=
 let e:=endOf l pend
 let b:=baseOf tags
 if b<0 then (if pend<0 then 3*l+5 else 0)
 else if e<=b then 3*e+3
 else if at_=e-1 then 0
 else if e<=at_ then 3*(e-b)+1
 else if b<at_ then 3*(e-at_)+1
 else 3*(e-b)
def offM (l at_ pend:Int)(tags:List Int):Int:=endOf l pend*(3*l+10)+offPhi l at_ pend tags
theorem offPhi_bound {l at_ pend:Int}{tags:List Int}(h:OffInv l at_ pend tags):0<=offPhi l at_ pend tags/\offPhi l at_ pend tags<=3*l+5:=by
 obtain⟨⟨l0,l1,at0,at1,p0,p1,tg,few⟩,dist,n1,start,has0,top,pos⟩:=h
 dsimp only at l0 l1 at0 at1 p0 p1 tg
 have he:0<=endOf l pend/\endOf l pend<=l:=by unfold endOf;split<;>omega
 unfold offPhi
 dsimp only
 generalize endOf l pend=e at *
 generalize baseOf tags=b at *
 split
 ·split<;>omega
 ·split
  ·omega
  ·split
   ·omega
   ·split
    ·omega
    ·split<;>omega
theorem offM_bound {l at_ pend:Int}{tags:List Int}(h:OffInv l at_ pend tags):0<=offM l at_ pend tags/\offM l at_ pend tags<=l*(3*l+10)+(3*l+5):=by
 have hp:=offPhi_bound h
 obtain⟨⟨l0,l1,at0,at1,p0,p1,tg,few⟩,_⟩:=h
 dsimp only at l0 l1 at0 at1 p0 p1
 have he:0<=endOf l pend/\endOf l pend<=l:=by unfold endOf;split<;>omega
 unfold offM
 have h1:=Int.mul_nonneg he.1 (show 0<=3*l+10 by omega)
 have h2:=Int.mul_le_mul_of_nonneg_right he.2 (show 0<=3*l+10 by omega)
 omega
theorem split_le {n c:Nat}(hn:2<=n)(hc:1<=c):1<=splitOf n c/\splitOf n c<=n-1:=by
 have hsp:=repsOf_spec (l:=n) hc
 have hr1:1<=repsOf n c:=by
  apply Nat.pos_of_ne_zero
  intro e
  have:=hsp.enough
  rw[e] at this;simp at this;omega
 have hlow:ch (c+(repsOf n c-1)) c<n:=by
  rcases hsp.least with e|e
  ·omega
  ·exact e
 have h1:ch (c+repsOf n c-2) c<=n-1:=by
  have:=ch_mono (show c+repsOf n c-2<=c+(repsOf n c-1) by omega) c
  omega
 have h2:1<=ch (c+repsOf n c-1) (c-1):=ch_pos (by omega)
 unfold splitOf
 omega
theorem mst1 {s:MS1}{n:Int}(h1:1<=n)(h2:n<65536)(h3:n<=s.l-s.at_):mstep s 1 n=some { s with at_:=s.at_+n,total:=s.total+n }:=by
 have hr:rightA 1 n:=⟨by omega,by omega,fun _=>⟨h1,h2⟩,by omega,by omega⟩
 unfold mstep mstepR
 rw[if_neg (by rintro (h|h);exact h hr;omega),if_pos rfl,if_neg (by omega)]
theorem mst2 {s:MS1}{n:Int}(h1:0<=n)(h2:n<s.tags.length)(h3:tagAt s n<0)(hf:s.tags.length<=1048576):mstep s 2 n=some { s with tags:=s.tags.set n.toNat s.at_ }:=by
 have hr:rightA 2 n:=⟨by omega,by omega,by omega,fun _ _=>⟨h1,by omega⟩,by omega⟩
 unfold mstep mstepR
 rw[if_neg (by rintro (h|h);exact h hr;omega),if_neg (by omega),if_pos rfl,if_neg (by omega)]
theorem mst3 {s:MS1}{n:Int}(h1:0<=n)(h2:n<s.tags.length)(h3:0<=tagAt s n)(hf:s.tags.length<=1048576):mstep s 3 n=some { s with at_:=tagAt s n }:=by
 have hr:rightA 3 n:=⟨by omega,by omega,by omega,fun _ _=>⟨h1,by omega⟩,by omega⟩
 unfold mstep mstepR
 rw[if_neg (by rintro (h|h);exact h hr;omega),if_neg (by omega),if_neg (by omega),if_pos rfl,if_neg (by omega)]
theorem mst4 {s:MS1}{n:Int}(h1:0<=n)(h2:n<s.tags.length)(h3:0<=tagAt s n)(hf:s.tags.length<=1048576):mstep s 4 n=some { s with tags:=s.tags.set n.toNat (-1) }:=by
 have hr:rightA 4 n:=⟨by omega,by omega,by omega,fun _ _=>⟨h1,by omega⟩,by omega⟩
 unfold mstep mstepR
 rw[if_neg (by rintro (h|h);exact h hr;omega),if_neg (by omega),if_neg (by omega),if_neg (by omega),if_pos rfl,if_neg (by omega)]
theorem mst5 {s:MS1}(h1:s.pend = -1)(h2:s.at_=s.l):mstep s 5 0=some { s with pend:=s.at_ }:=by
 have hr:rightA 5 0:=⟨by omega,by omega,by omega,by omega,by omega⟩
 unfold mstep mstepR
 rw[if_neg (by rintro (h|h);exact h hr;omega),if_neg (by omega),if_neg (by omega),if_neg (by omega),if_neg (by omega),if_pos rfl,if_pos ⟨h1,h2⟩]
theorem mst6 {s:MS1}(h1:s.pend = -1)(h2:s.at_=s.l-1):mstep s 6 0=some { s with pend:=s.at_ }:=by
 have hr:rightA 6 0:=⟨by omega,by omega,by omega,by omega,by omega⟩
 unfold mstep mstepR
 rw[if_neg (by rintro (h|h);exact h hr;omega),if_neg (by omega),if_neg (by omega),if_neg (by omega),if_neg (by omega),if_neg (by omega),if_pos rfl,if_pos ⟨h1,h2⟩]
theorem mst7 {s:MS1}(h1:0<s.pend)(h2:s.at_=s.pend-1):mstep s 7 0=some { s with pend:=s.at_ }:=by
 have hr:rightA 7 0:=⟨by omega,by omega,by omega,by omega,by omega⟩
 unfold mstep mstepR
 rw[if_neg (by rintro (h|h);exact h hr;omega),if_neg (by omega),if_neg (by omega),if_neg (by omega),if_neg (by omega),if_neg (by omega),if_neg (by omega),if_pos ⟨h1,h2⟩]
theorem revNext_eq (l at_ pend:Int)(tags:List Int):revNext l at_ pend tags =
  if 0<=pend/\endOf l pend<=baseOf tags then some (4,(lookF tags).slot) else if pend=0 then none else if pend<0/\at_=l then some (5,0)
  else if at_=endOf l pend-1 then (if 0<=pend then some (7,0) else some (6,0)) else if baseOf tags<0 then (if endOf l pend<=at_ then none else some (2,0))
  else if at_<baseOf tags\/endOf l pend<=at_ then some (3,(lookF tags).slot) else if baseOf tags<at_/\0<(lookF tags).free then some (2,(lookF tags).vac)
  else if baseOf tags<at_ then some (1,endOf l pend-1-at_) else some (1,(splitOf (endOf l pend-baseOf tags).toNat ((lookF tags).free+1).toNat:Nat)):=by
 simp only[revNext,ruleFrom,ruleIs,ruleDo,baseOf,Bool.and_eq_true,Bool.or_eq_true,decide_eq_true_eq]
 repeat' (refine ite_congr rfl (fun _=>?_) (fun _=>?_))
 all_goals rfl
theorem mok_total {a p l k k':Int}{t:List Int}(h:MOk ⟨a,p,l,k,t⟩):MOk ⟨a,p,l,k',t⟩:=by
 obtain⟨l0,l1,at0,at1,p0,p1,tg,few⟩:=h;exact⟨l0,l1,at0,at1,p0,p1,tg,few⟩
theorem off_step {l at_ pend:Int}{tags:List Int}(h:OffInv l at_ pend tags) :
  (revNext l at_ pend tags=none/\pend=0)\/∃k n m,revNext l at_ pend tags=some (k,n)/\mstep ⟨at_,pend,l,0,tags⟩ k n=some m/\OffInv l m.at_ m.pend m.tags/\offM l m.at_ m.pend m.tags<offM l at_ pend tags:=by
 have hh:=h
 obtain⟨mok,dist,n1,start,has0,top,pos⟩:=h
 have ⟨l0,l1,at0,at1,p0,p1,tg,few⟩:=mok
 dsimp only at l0 l1 at0 at1 p0 p1 tg few
 have tg1:∀t∈tags,-1<=t:=fun t ht=>(tg t ht).1
 have seen:=seen_of tg1
 have hb:baseOf tags=(lookF tags).base:=rfl
 have he:0<=endOf l pend/\endOf l pend<=l:=by unfold endOf;split<;>omega
 have hpe:0<=pend->endOf l pend=pend:=by intro hp;unfold endOf;rw[if_neg (by omega)]
 have hne:pend<0->endOf l pend=l:=by intro hp;unfold endOf;rw[if_pos hp]
 have b0:=seen.b0
 have hs0:=seen.slot0
 have hphi:=offPhi_bound hh
 have hM:offM l at_ pend tags=endOf l pend*(3*l+10)+offPhi l at_ pend tags:=rfl
 rw[revNext_eq]
 have ta:∀n:Int,tagAt ⟨at_,pend,l,0,tags⟩ n=gt tags n.toNat:=fun n=>rfl
 have hslot:0<=baseOf tags->(lookF tags).slot<tags.length/\gt tags (lookF tags).slot.toNat=baseOf tags:=fun h0=>seen.at_ h0
 have htop:∀j,j<tags.length->gt tags j<=baseOf tags:=seen.top
 have tgm:∀j,j<tags.length->-1<=gt tags j:=fun j hj=>tg1 _ (gt_mem hj)
 have keep:∀{a':Int} {t':List Int},offPhi l a' pend t'<offPhi l at_ pend tags->offM l a' pend t'<offM l at_ pend tags:=by
  intro a' t' hlt;unfold offM;omega
 by_cases c1:0<=pend/\endOf l pend<=baseOf tags
 ·rw[if_pos c1]
  have hp:=hpe c1.1
  have hbe:baseOf tags=pend:=by omega
  obtain⟨hsl,hsg⟩:=hslot (by omega)
  have hat:at_=pend:=by
   rcases pos (by omega) with h1|h1
   ·omega
   ·exact h1.2
  have hst:=mst4 (s:=⟨at_,pend,l,0,tags⟩) hs0 hsl (by rw[ta,hsg];omega) few
  refine .inr ⟨_,_,_,rfl,hst,?_,?_⟩
  all_goals
   have mok2:=mstep_ok mok hst
   have hless:∀j,j<tags.length->gt (tags.set (lookF tags).slot.toNat (-1)) j<pend\/pend=0/\gt (tags.set (lookF tags).slot.toNat (-1)) j = -1:=by
    intro j hj
    rw[gt_set]
    split
    ·omega
    ·rename_i hne'
     have h1:=htop j hj
     have h2:gt tags j≠baseOf tags:=by
      intro e
      have:=dist j (lookF tags).slot.toNat hj (by omega) (by omega) (by omega)
      exact hne' ⟨by omega,by omega⟩
     left;omega
   have tg2:∀t∈tags.set (lookF tags).slot.toNat (-1),-1<=t:=fun t ht=>(mok2.tg t ht).1
   have seen2:=seen_of tg2
   have hb2 : -1<=baseOf (tags.set (lookF tags).slot.toNat (-1)):=seen2.b0
   have hb2lt:0<pend->baseOf (tags.set (lookF tags).slot.toNat (-1))<pend:=by
    intro hp0
    by_cases hneg:0<=baseOf (tags.set (lookF tags).slot.toNat (-1))
    ·have h1:=seen2.at_ hneg
     have h2:=hless (lookF (tags.set (lookF tags).slot.toNat (-1))).slot.toNat (by have:=h1.1;simp at this;have:=seen2.slot0;omega)
     have h3:gt (tags.set (lookF tags).slot.toNat (-1)) (lookF (tags.set (lookF tags).slot.toNat (-1))).slot.toNat=baseOf (tags.set (lookF tags).slot.toNat (-1)):=h1.2
     omega
    ·omega
   have hb2z:pend=0->baseOf (tags.set (lookF tags).slot.toNat (-1)) = -1:=by
    intro hp0
    refine base_none tg2 fun j hj=>?_
    simp at hj
    rcases hless j hj with h1|h1<;>omega
   have h0has:0<pend->∃i,i<(tags.set (lookF tags).slot.toNat (-1)).length/\gt (tags.set (lookF tags).slot.toNat (-1)) i=0:=by
    intro hp0
    obtain⟨i,hi,hi0⟩:=has0 (by omega) (by omega)
    refine⟨i,by simpa using hi,?_⟩
    rw[gt_set,if_neg (by rintro⟨e,_⟩;rw[e] at hsg;omega)];exact hi0
  ·refine⟨mok2,dist_free dist _,by simpa using n1,fun hb'=>?_,fun hb' he'=>?_,?_,fun hb'=>.inr ⟨c1.1,hat⟩⟩
   ·rcases Int.lt_or_le 0 pend with h1|h1
    ·obtain⟨i,hi,hi0⟩:=h0has h1
     have:=seen2.top i hi
     have h2:gt (tags.set (lookF tags).slot.toNat (-1)) i<=baseOf (tags.set (lookF tags).slot.toNat (-1)):=this
     dsimp only at hb'
     omega
    ·exact .inr (by dsimp only;omega)
   ·exact h0has (by dsimp only at he';omega)
   ·dsimp only
    rcases Int.lt_or_le 0 pend with h1|h1
    ·have:=hb2lt h1;omega
    ·have:=hb2z (by omega);omega
  ·apply keep
   unfold offPhi
   dsimp only
   rw[if_neg (show ¬baseOf tags<0 by omega),if_pos c1.2]
   by_cases hp0:0<pend
   ·have h1:=hb2lt hp0
    split
    ·split<;>omega
    ·rw[if_neg (by omega),if_neg (by omega),if_pos (by omega)];omega
   ·rw[if_pos (by have:=hb2z (by omega);omega),if_neg (by omega)];omega
 rw[if_neg c1]
 by_cases c2:pend=0
 ·rw[if_pos c2];exact .inl ⟨rfl,c2⟩
 rw[if_neg c2]
 by_cases c3:pend<0/\at_=l
 ·rw[if_pos c3]
  have hbn:baseOf tags = -1:=by
   apply Classical.byContradiction
   intro hn
   rcases pos (by omega) with h1|h1
   ·have:=hne c3.1;omega
   ·omega
  have hl:l=0:=by rcases start hbn with h1|h1<;>omega
  have hst:=mst5 (s:=⟨at_,pend,l,0,tags⟩) (by dsimp only;omega) c3.2
  refine .inr ⟨_,_,_,rfl,hst,⟨mstep_ok mok hst,dist,n1,fun _=>.inr (by dsimp only;omega),fun h0=>by dsimp only at h0;omega,by dsimp only;unfold endOf;rw[if_neg (by omega)];omega,fun h0=>by dsimp only at h0;omega⟩,?_⟩
  have e1:endOf l at_=0:=by unfold endOf;rw[if_neg (by omega)];omega
  have e2:endOf l pend=0:=by rw[hne c3.1];exact hl
  dsimp only
  unfold offM offPhi
  dsimp only
  rw[e1,e2,hbn]
  simp only[show ((-1:Int)<0)=True from by simp,if_true]
  rw[if_neg (by omega),if_pos c3.1];omega
 rw[if_neg c3]
 by_cases c4:at_=endOf l pend-1
 ·rw[if_pos c4]
  have mul:endOf l at_*(3*l+10)=endOf l pend*(3*l+10)-(3*l+10):=by
   have:endOf l at_=endOf l pend-1:=by unfold endOf;rw[if_neg (by omega)];unfold endOf at c4;exact c4
   rw[this,Int.sub_mul,Int.one_mul]
  have inv2:∀{m:MS1},m.at_=at_->m.pend=at_->m.tags=tags->m.l=l->MOk m->OffInv l m.at_ m.pend m.tags/\offM l m.at_ m.pend m.tags<offM l at_ pend tags:=by
   intro m q1 q2 q3 q4 q5
   have e1:endOf l at_=at_:=by unfold endOf;rw[if_neg (by omega)]
   have inv:OffInv l at_ at_ tags:=by
    refine⟨⟨l0,l1,at0,at1,by dsimp only;omega,at1,tg,few⟩,dist,n1,fun hb'=>?_,fun hb' he'=>has0 hb' (by omega),?_,fun hb'=>.inr ⟨at0,rfl⟩⟩
    ·rcases start hb' with h1|h1
     ·exact .inr h1.1
     ·omega
    ·rw[e1]
     by_cases hn:0<=baseOf tags
     ·rcases pos hn with h1|h1
      ·omega
      ·omega
     ·omega
   rw[q1,q2,q3]
   refine⟨inv,?_⟩
   have:=(offPhi_bound inv).2
   unfold offM
   rw[mul];omega
  by_cases hp:0<=pend
  ·rw[if_pos hp]
   have hst:=mst7 (s:=⟨at_,pend,l,0,tags⟩) (by dsimp only;omega) (by have:=hpe hp;dsimp only;omega)
   obtain⟨i1,i2⟩:=inv2 (m:={ at_:=at_,pend:=at_,l:=l,total:=0,tags:=tags }) rfl rfl rfl rfl (mstep_ok mok hst)
   exact .inr ⟨_,_,_,rfl,hst,i1,i2⟩
  ·rw[if_neg hp]
   have hst:=mst6 (s:=⟨at_,pend,l,0,tags⟩) (by dsimp only;omega) (by have:=hne (by omega);dsimp only;omega)
   obtain⟨i1,i2⟩:=inv2 (m:={ at_:=at_,pend:=at_,l:=l,total:=0,tags:=tags }) rfl rfl rfl rfl (mstep_ok mok hst)
   exact .inr ⟨_,_,_,rfl,hst,i1,i2⟩
 rw[if_neg c4]
 by_cases c5:baseOf tags<0
 ·rw[if_pos c5]
  have hbn:baseOf tags = -1:=by omega
  obtain⟨ha0,hp1⟩:at_=0/\pend = -1:=by rcases start hbn with h1|h1;exact h1;omega
  have hel:endOf l pend=l:=hne (by omega)
  rw[if_neg (by omega)]
  have hneg:∀j,j<tags.length->gt tags j<0:=fun j hj=>by have:=htop j hj;omega
  have hst:=mst2 (s:=⟨at_,pend,l,0,tags⟩) (n:=0) (by omega) (by dsimp only;omega) (by rw[ta];exact hneg 0 (by omega)) few
  have mok2:=mstep_ok mok hst
  have hb2:baseOf (tags.set 0 at_)=0:=by
   have tg2:∀t∈tags.set 0 at_,-1<=t:=fun t ht=>(mok2.tg t ht).1
   refine base_eq (tags:=tags.set 0 at_) (j:=0) tg2 (by omega) (by rw[List.length_set];omega) (by rw[gt_set,if_pos ⟨rfl,by omega⟩];exact ha0) fun j hj=>?_
   rw[List.length_set] at hj
   rw[gt_set];split
   ·omega
   ·have:=hneg j hj;omega
  refine .inr ⟨_,_,_,rfl,hst,⟨mok2,dist_store dist 0 fun j hj e=>by have h1:=hneg j hj;have h2:gt tags j=at_:=e;omega,by simpa using n1,fun hb'=>?_,fun _ _=>⟨0,by show 0<(tags.set 0 at_).length;rw[List.length_set];omega,?_⟩,?_,fun _=>.inl ?_⟩,?_⟩
  ·have:baseOf (tags.set 0 at_) = -1:=hb';omega
  ·show gt (tags.set 0 at_) 0=0
   rw[gt_set,if_pos ⟨rfl,by omega⟩];exact ha0
  ·show baseOf (tags.set 0 at_)<=endOf l pend;rw[hb2];omega
  ·show baseOf (tags.set 0 at_)<=at_/\at_<endOf l pend;rw[hb2];omega
  ·show offM l at_ pend (tags.set 0 at_)<_
   apply keep
   unfold offPhi
   dsimp only
   rw[hb2]
   (repeat' split)<;>omega
 rw[if_neg c5]
 obtain⟨hsl,hsg⟩:=hslot (by omega)
 by_cases c6:at_<baseOf tags\/endOf l pend<=at_
 ·rw[if_pos c6]
  have hat:0<=pend/\at_=pend:=by
   rcases pos (by omega) with h1|h1
   ·omega
   ·exact h1
  have hep:=hpe hat.1
  have hst:=mst3 (s:=⟨at_,pend,l,0,tags⟩) hs0 hsl (by rw[ta,hsg];omega) few
  rw[ta,hsg] at hst
  refine .inr ⟨_,_,_,rfl,hst,⟨mstep_ok mok hst,dist,n1,fun hb'=>by dsimp only at hb';omega,has0,top,fun _=>.inl ⟨by dsimp only;omega,by dsimp only;omega⟩⟩,?_⟩
  apply keep
  unfold offPhi
  dsimp only
  (repeat' split)<;>omega
 rw[if_neg c6]
 by_cases c7:baseOf tags<at_/\0<(lookF tags).free
 ·rw[if_pos c7]
  have hv:0<=(lookF tags).vac:=by
   apply Classical.byContradiction
   intro hn
   have:=seen.vf (by omega);omega
  have hvv:=seen.vac hv
  have hst:=mst2 (s:=⟨at_,pend,l,0,tags⟩) hv hvv.1 (by rw[ta];exact hvv.2) few
  have mok2:=mstep_ok mok hst
  have hvl:=hvv.1
  have hb2:baseOf (tags.set (lookF tags).vac.toNat at_)=at_:=by
   have tg2:∀t∈tags.set (lookF tags).vac.toNat at_,-1<=t:=fun t ht=>(mok2.tg t ht).1
   refine base_eq (tags:=tags.set (lookF tags).vac.toNat at_) (j:=(lookF tags).vac.toNat) tg2 at0 (by rw[List.length_set];omega) (by rw[gt_set,if_pos ⟨rfl,by omega⟩]) fun j hj=>?_
   rw[List.length_set] at hj
   rw[gt_set];split
   ·omega
   ·have:=htop j hj;omega
  refine .inr ⟨_,_,_,rfl,hst,⟨mok2,dist_store dist _ fun j hj e=>by have h1:=htop j hj;have h2:gt tags j=at_:=e;omega,by simpa using n1,fun hb'=>?_,fun _ he'=>?_,?_,fun _=>.inl ?_⟩,?_⟩
  ·have:baseOf (tags.set (lookF tags).vac.toNat at_) = -1:=hb';omega
  ·obtain⟨i,hi,hi0⟩:=has0 (by omega) he'
   refine⟨i,by simpa using hi,?_⟩
   show gt (tags.set (lookF tags).vac.toNat at_) i=0
   rw[gt_set,if_neg ?_]
   ·exact hi0
   ·rintro⟨e,_⟩
    have:=hvv.2
    have h3:gt tags (lookF tags).vac.toNat<0:=this
    rw[e] at h3;omega
  ·show baseOf (tags.set (lookF tags).vac.toNat at_)<=endOf l pend;rw[hb2];omega
  ·show baseOf (tags.set (lookF tags).vac.toNat at_)<=at_/\at_<endOf l pend;rw[hb2];omega
  ·show offM l at_ pend (tags.set (lookF tags).vac.toNat at_)<_
   apply keep
   unfold offPhi
   dsimp only
   rw[hb2]
   (repeat' split)<;>omega
 rw[if_neg c7]
 by_cases c8:baseOf tags<at_
 ·rw[if_pos c8]
  have hst:=mst1 (s:=⟨at_,pend,l,0,tags⟩) (n:=endOf l pend-1-at_) (by omega) (by omega) (by dsimp only;omega)
  refine .inr ⟨_,_,_,rfl,hst,⟨mok_total (mstep_ok mok hst),dist,n1,fun hb'=>by dsimp only at hb';omega,has0,top,fun _=>.inl ⟨by dsimp only;omega,by dsimp only;omega⟩⟩,?_⟩
  apply keep
  unfold offPhi
  dsimp only
  (repeat' split)<;>omega
 rw[if_neg c8]
 have hsp:=split_le (n:=(endOf l pend-baseOf tags).toNat) (c:=((lookF tags).free+1).toNat) (by omega) (by have:=seen.f0;omega)
 generalize splitOf (endOf l pend-baseOf tags).toNat ((lookF tags).free+1).toNat=q at hsp ⊢
 have hst:=mst1 (s:=⟨at_,pend,l,0,tags⟩) (n:=(q:Int)) (by omega) (by omega) (by dsimp only;omega)
 refine .inr ⟨_,_,_,rfl,hst,⟨mok_total (mstep_ok mok hst),dist,n1,fun hb'=>by dsimp only at hb';omega,has0,top,fun _=>.inl ⟨by dsimp only;omega,by dsimp only;omega⟩⟩,?_⟩
 apply keep
 unfold offPhi
 dsimp only
 (repeat' split)<;>omega
end Go.VC
namespace Go.VC
open Go Go.Proofs
theorem nodup_le:∀{a b:List Nat},a.Nodup->(∀x∈a,x∈b)->a.length<=b.length
 | [],b,_,_=>by simp
 | x ::a,b,hn,hs=>by
  rw[List.nodup_cons] at hn
  have h1:x∈b:=hs x (by simp)
  have ih:=nodup_le (a:=a) (b:=b.erase x) hn.2 fun y hy=>(List.mem_erase_of_ne (fun e=>hn.1 (by rw[<-e];exact hy))).2 (hs y (by simp[hy]))
  rw[List.length_erase_of_mem h1] at ih
  have:=List.length_pos_of_mem h1
  simp only[List.length_cons];omega
@[simp] theorem gt_succ (a:Int)(l:List Int)(i:Nat):gt (a ::l) (i+1)=gt l i:=by simp[gt]
@[simp] theorem gt_zero (a:Int)(l:List Int):gt (a ::l) 0=a:=by simp[gt]
theorem gt_of_mem {tags:List Int}{t:Int}(h:t∈tags):∃j,j<tags.length/\gt tags j=t:=by
 obtain⟨j,hj,e⟩:=List.getElem_of_mem h
 exact⟨j,hj,by unfold gt;rw[List.getD_eq_getElem?_getD,List.getElem?_eq_getElem hj];exact e⟩
def heldL (tags:List Int):List Nat:=(tags.filter fun t=>decide (0<=t)).map Int.toNat
theorem heldL_length (tags:List Int):(heldL tags).length=heldN tags:=by simp[heldL,heldN,List.countP_eq_length_filter]
theorem mem_heldL {tags:List Int}{x:Nat}:x∈heldL tags<->∃j,j<tags.length/\gt tags j=(x:Int):=by
 unfold heldL
 simp only[List.mem_map,List.mem_filter,decide_eq_true_eq]
 constructor
 ·rintro⟨t,⟨ht,h0⟩,e⟩
  obtain⟨j,hj,he⟩:=gt_of_mem ht
  exact⟨j,hj,by omega⟩
 ·rintro⟨j,hj,e⟩
  exact⟨gt tags j,⟨gt_mem hj,by omega⟩,by omega⟩
theorem dist_nodup:∀{tags:List Int},Dist tags->(heldL tags).Nodup
 | [],_=>by simp[heldL]
 | a ::l,h=>by
  have h':Dist l:=fun i j hi hj e h0=>by
   have:=h (i+1) (j+1) (by simpa using hi) (by simpa using hj) (by simpa using e) (by simpa using h0);omega
  have ih:=dist_nodup h'
  unfold heldL at ih ⊢
  by_cases ha:0<=a
  ·rw[List.filter_cons_of_pos (by simpa using ha)]
   simp only[List.map_cons,List.nodup_cons]
   refine⟨fun hm=>?_,ih⟩
   obtain⟨j,hj,e⟩:=mem_heldL.1 hm
   have:=h 0 (j+1) (by simp) (by simpa using hj) (by simp;omega) (by simpa using ha)
   omega
  ·rw[List.filter_cons_of_neg (by simpa using ha)];exact ih
def bad (D:Nat)(t:Int):Bool:=decide (0<=t) && decide (¬t % (D:Int)=0)
def DD (l:Int)(tags:List Int):Nat:=strideD l.toNat tags.length
structure AInv (l at_:Int)(tags:List Int):Prop where
 mok:MOk ⟨at_,-1,l,0,tags⟩
 dist:Dist tags
 n1:1<=tags.length
 has:∀m:Nat,((m*DD l tags:Nat):Int)<l->∃i,i<tags.length/\gt tags i=((m*DD l tags:Nat):Int)
structure AFull (l at_:Int)(tags:List Int):Prop where
 inv:AInv l at_ tags
 here:at_=l
 next:∀ended,strideNext l ended at_ (-1) tags=if ended then some (5,0) else none
 mul:∀j,j<tags.length->0<=gt tags j->gt tags j % (DD l tags:Int)=0
 full:∀m:Nat,((m*DD l tags:Nat):Int)<=l->∃i,i<tags.length/\gt tags i=((m*DD l tags:Nat):Int)
def aM (l at_:Int)(tags:List Int):Int:=(if at_<l then 1 else 0)+2*(tags.countP (bad (DD l tags)):Int)+(if l∈tags then 0 else 1)
theorem aM_bound {l at_:Int}{tags:List Int}(h:AInv l at_ tags):0<=aM l at_ tags/\aM l at_ tags<=2097154:=by
 have h1:=h.mok.few
 have h2:tags.countP (bad (DD l tags))<=tags.length:=List.countP_le_length
 dsimp only at h1
 unfold aM
 constructor<;>split<;>split<;>omega
theorem countP_set' {p:Int->Bool}{tags:List Int}{i:Nat}(hi:i<tags.length)(t:Int):((tags.set i t).countP p:Int)=(tags.countP p:Int)-(if p (gt tags i) then 1 else 0)+(if p t then 1 else 0):=by
 have e:tags[i]=gt tags i:=by unfold gt;rw[List.getD_eq_getElem?_getD,List.getElem?_eq_getElem hi];rfl
 rw[List.countP_set hi,e]
 have hpos:p (gt tags i)=true->0<tags.countP p:=fun h=>List.countP_pos_iff.2 ⟨_,gt_mem hi,h⟩
 by_cases hc:p (gt tags i)=true
 ·have:=hpos hc
  by_cases ht:p t=true<;>simp[hc,ht]<;>omega
 ·by_cases ht:p t=true<;>simp[hc,ht]
theorem DD_set (l:Int)(tags:List Int)(i:Nat)(t:Int):DD l (tags.set i t)=DD l tags:=by unfold DD;rw[List.length_set]
theorem best_lt {tags:List Int}{is:Int->Bool}{ah:Int->Int->Bool}(h0:0<=bestF tags is ah):(bestF tags is ah).toNat<tags.length:=by
 have:bestF tags is ah<tags.length:=(bestN_range tags is ah tags.length).2
 omega
theorem best_is {tags:List Int}{is:Int->Bool}{ah:Int->Int->Bool}(h0:0<=bestF tags is ah):is (gt tags (bestF tags is ah).toNat)=true:=bestN_is tags is ah tags.length h0
theorem best_none {tags:List Int}{is:Int->Bool}{ah:Int->Int->Bool}(h0:bestF tags is ah<0){j:Nat}(hj:j<tags.length):is (gt tags j)=false:=bestN_none tags is ah tags.length h0 j hj
theorem ahead_eq {l at_:Int}{tags:List Int}(ended:Bool):strideNext l ended at_ (-1) tags =
  if at_<l then some (1,l-at_)
  else if 0<=bestF tags (bad (DD l tags)) (fun a b=>decide (a<b)) then some (4,bestF tags (bad (DD l tags)) (fun a b=>decide (a<b)))
  else if l % (DD l tags:Int)=0/\bestF tags (fun t=>decide (t=l)) (fun a b=>decide (a<b))<0/\0<=bestF tags (fun t=>decide (t<0)) (fun a b=>decide (a<b)) then some (2,bestF tags (fun t=>decide (t<0)) (fun a b=>decide (a<b)))
  else if ended then some (5,0) else none:=by
 unfold strideNext
 rw[if_pos (by omega)]
 rfl
theorem a_step {l at_:Int}{tags:List Int}(h:AInv l at_ tags) :
  AFull l at_ tags\/∃k n m,(∀ended,strideNext l ended at_ (-1) tags=some (k,n))/\mstep ⟨at_,-1,l,0,tags⟩ k n=some m/\m.pend = -1/\AInv l m.at_ m.tags/\aM l m.at_ m.tags<aM l at_ tags:=by
 have hh:=h
 obtain⟨mok,dist,n1,has⟩:=h
 have ⟨l0,l1,at0,at1,p0,p1,tg,few⟩:=mok
 dsimp only at l0 l1 at0 at1 p0 p1 tg few
 have hD:0<DD l tags:=strideD_pos n1 (by omega)
 have hDl:l<tags.length*(DD l tags:Int):=by
  obtain⟨j,_,e,hlt,_⟩:=strideD_spec (k:=l.toNat) n1 (by omega)
  have e':DD l tags=2 ^ j:=e
  rw[<-e'] at hlt
  have:((l.toNat:Nat):Int)<((tags.length*DD l tags:Nat):Int):=by exact_mod_cast hlt
  push_cast at this
  omega
 have tgm:∀j,j<tags.length->-1<=gt tags j/\gt tags j<=l:=fun j hj=>tg _ (gt_mem hj)
 by_cases c1:at_<l
 ·right
  have hst:=mst1 (s:=⟨at_,-1,l,0,tags⟩) (n:=l-at_) (by omega) (by omega) (by dsimp only;omega)
  refine⟨_,_,_,fun ended=>by rw[ahead_eq,if_pos c1],hst,rfl,⟨mok_total (mstep_ok mok hst),dist,n1,has⟩,?_⟩
  dsimp only
  unfold aM
  rw[if_pos c1,if_neg (show ¬at_+(l-at_)<l by omega)]
  omega
 have hat:at_=l:=by omega
 by_cases c2:0<=bestF tags (bad (DD l tags)) (fun a b=>decide (a<b))
 ·right
  have hlt:=best_lt c2
  have hbad:=best_is c2
  generalize hoff:bestF tags (bad (DD l tags)) (fun a b=>decide (a<b))=off at *
  have hb:=hbad
  unfold bad at hbad
  simp only[Bool.and_eq_true,decide_eq_true_eq] at hbad
  have hst:=mst4 (s:=⟨at_,-1,l,0,tags⟩) (n:=off) c2 (by dsimp only;omega) hbad.1 few
  refine⟨_,_,_,fun ended=>by rw[ahead_eq,if_neg c1,hoff,if_pos c2],hst,rfl,⟨mstep_ok mok hst,dist_free dist _,by simpa using n1,?_⟩,?_⟩
  ·intro m hm
   dsimp only at hm ⊢
   rw[DD_set] at hm ⊢
   obtain⟨i,hi,e⟩:=has m hm
   refine⟨i,by simpa using hi,?_⟩
   rw[gt_set,if_neg ?_,e]
   rintro⟨ei,_⟩
   rw[ei,e] at hbad
   apply hbad.2
   push_cast
   exact Int.mul_emod_left _ _
  ·dsimp only
   unfold aM
   rw[DD_set,countP_set' hlt,hb]
   rw[if_pos rfl,if_neg (show ¬bad (DD l tags) (-1)=true by simp[bad])]
   split<;>split<;>split<;>omega
 have c2':bestF tags (bad (DD l tags)) (fun a b=>decide (a<b))<0:=by omega
 have hmul:∀j,j<tags.length->0<=gt tags j->gt tags j % (DD l tags:Int)=0:=by
  intro j hj h0
  have:=best_none c2' hj
  unfold bad at this
  simp only[Bool.and_eq_false_iff,decide_eq_false_iff_not] at this
  rcases this with h1|h1
  ·omega
  ·exact Classical.byContradiction h1
 by_cases c3:l % (DD l tags:Int)=0/\bestF tags (fun t=>decide (t=l)) (fun a b=>decide (a<b))<0/\0<=bestF tags (fun t=>decide (t<0)) (fun a b=>decide (a<b))
 ·right
  obtain⟨q1,q2,q3⟩:=c3
  have hlt:=best_lt q3
  have hvac:=best_is q3
  generalize hv:bestF tags (fun t=>decide (t<0)) (fun a b=>decide (a<b))=vac at *
  simp only[decide_eq_true_eq] at hvac
  have hno:∀j,j<tags.length->gt tags j≠l:=fun j hj=>by simpa using best_none q2 hj
  have hst:=mst2 (s:=⟨at_,-1,l,0,tags⟩) (n:=vac) q3 (by dsimp only;omega) hvac few
  refine⟨_,_,_,fun ended=>by rw[ahead_eq,if_neg c1,if_neg (by omega),hv,if_pos ⟨q1,q2,q3⟩],hst,rfl,⟨mstep_ok mok hst,dist_store dist _ (by dsimp only;rw[hat];exact hno),by simpa using n1,?_⟩,?_⟩
  ·intro m hm
   dsimp only at hm ⊢
   rw[DD_set] at hm ⊢
   obtain⟨i,hi,e⟩:=has m hm
   refine⟨i,by simpa using hi,?_⟩
   rw[gt_set,if_neg ?_,e]
   rintro⟨ei,_⟩
   rw[ei,e] at hvac
   omega
  ·dsimp only
   unfold aM
   rw[DD_set,countP_set' hlt,hat]
   have hl1:l∉tags:=fun hm=>by
    obtain⟨j,hj,e⟩:=gt_of_mem hm
    exact hno j hj e
   have hl2:l∈tags.set vac.toNat l:=List.mem_set hlt _
   rw[if_neg hl1,if_pos hl2,if_neg (show ¬bad (DD l tags) (gt tags vac.toNat)=true by simp[bad];omega),if_neg (show ¬bad (DD l tags) l=true by simp[bad,q1])]
   omega
 left
 refine⟨hh,hat,fun ended=>by rw[ahead_eq,if_neg c1,if_neg c2,if_neg c3],hmul,fun m hm=>?_⟩
 by_cases hlt:((m*DD l tags:Nat):Int)<l
 ·exact has m hlt
 have he:((m*DD l tags:Nat):Int)=l:=by omega
 have hz:l % (DD l tags:Int)=0:=by
  have e2:((m*DD l tags:Nat):Int) % (DD l tags:Int)=0:=by push_cast;exact Int.mul_emod_left _ _
  rwa [he] at e2
 rw[he]
 by_cases hheld:bestF tags (fun t=>decide (t=l)) (fun a b=>decide (a<b))<0
 ·exfalso
  have hvac:bestF tags (fun t=>decide (t<0)) (fun a b=>decide (a<b))<0:=by
   apply Classical.byContradiction
   intro hn
   exact c3 ⟨hz,hheld,by omega⟩
  have hall:∀j,j<tags.length->0<=gt tags j:=fun j hj=>by simpa using best_none hvac hj
  have hno:∀j,j<tags.length->gt tags j≠l:=fun j hj=>by simpa using best_none hheld hj
  have hlen:heldN tags=tags.length:=by
   unfold heldN
   rw[List.countP_eq_length]
   intro t ht
   obtain⟨j,hj,e⟩:=gt_of_mem ht
   have:=hall j hj
   simp;omega
  have hle:=nodup_le (b:=(List.range m).map (·*DD l tags)) (dist_nodup dist) fun x hx=>by
   obtain⟨j,hj,e⟩:=mem_heldL.1 hx
   have h1:=hmul j hj (hall j hj)
   have h2:=(tgm j hj).2
   have h3:=hno j hj
   rw[e] at h1 h2 h3
   have h4:x % DD l tags=0:=by exact_mod_cast h1
   have h5:x=x / DD l tags*DD l tags:=by have:=Nat.div_add_mod x (DD l tags);rw[h4,Nat.mul_comm] at this;omega
   refine List.mem_map.2 ⟨x / DD l tags,?_,h5.symm⟩
   rw[List.mem_range]
   apply Nat.div_lt_of_lt_mul
   rw[Nat.mul_comm];omega
  rw[heldL_length,hlen,List.length_map,List.length_range] at hle
  have h6:tags.length*DD l tags<=m*DD l tags:=Nat.mul_le_mul_right _ hle
  have h7:((tags.length*DD l tags:Nat):Int)<=((m*DD l tags:Nat):Int):=by exact_mod_cast h6
  rw[he] at h7
  push_cast at h7
  omega
 ·have h0:0<=bestF tags (fun t=>decide (t=l)) (fun a b=>decide (a<b)):=by omega
  exact⟨_,best_lt h0,by simpa using best_is h0⟩
theorem a_more {l at_:Int}{tags:List Int}(h:AFull l at_ tags)(hl:l<65535):AInv (l+1) at_ tags:=by
 obtain⟨⟨mok,dist,n1,has⟩,hat,_,hmul,full⟩:=h
 have ⟨l0,l1,at0,at1,p0,p1,tg,few⟩:=mok
 dsimp only at l0 l1 at0 at1 p0 p1 tg few
 refine⟨⟨by dsimp only;omega,by dsimp only;omega,at0,by dsimp only;omega,by dsimp only;omega,by dsimp only;omega,fun t ht=>by have:=tg t ht;dsimp only;omega,few⟩,dist,n1,fun m hm=>?_⟩
 have hd:DD l tags ∣ DD (l+1) tags:=strideD_dvd n1 (by omega) (by omega)
 obtain⟨q,hq⟩:=hd
 rw[hq] at hm ⊢
 have e:m*(DD l tags*q)=(m*q)*DD l tags:=by rw[Nat.mul_comm (DD l tags),Nat.mul_assoc]
 rw[e] at hm ⊢
 exact full (m*q) (by omega)
theorem a_first (s:Nat)(h1:1<=s)(h2:s<=1048576):AInv 0 0 (List.replicate s (-1)):=by
 refine⟨⟨by dsimp only;omega,by dsimp only;omega,by dsimp only;omega,by dsimp only;omega,by dsimp only;omega,by dsimp only;omega,fun t ht=>by simp at ht;dsimp only;omega,by simpa using h2⟩,?_,by simpa using h1,fun m hm=>by omega⟩
 intro i j hi hj e h0
 have:gt (List.replicate s (-1)) i = -1:=by have:=gt_mem hi;simp at this;exact this.2
 omega
def bT (tags:List Int):Int:=if 0<=bestF tags (fun t=>decide (0<=t)) (fun a b=>decide (b<a)) then gt tags (bestF tags (fun t=>decide (0<=t)) (fun a b=>decide (b<a))).toNat else -1
structure BInv (l at_ pend:Int)(tags:List Int):Prop where
 mok:MOk ⟨at_,pend,l,0,tags⟩
 pd:0<=pend
 n1:1<=tags.length
 has0:0<pend->∃i,i<tags.length/\gt tags i=0
def sPhase (at_ pend:Int)(tags:List Int):Int:=if pend<=bT tags then 2 else if at_=pend-1 then 0 else if bT tags<=at_/\at_<pend then 1 else 2
theorem sPhase_bound (at_ pend:Int)(tags:List Int):0<=sPhase at_ pend tags/\sPhase at_ pend tags<=2:=by
 unfold sPhase;split
 ·omega
 ·split
  ·omega
  ·split<;>omega
def bM (at_ pend:Int)(tags:List Int):Int:=3*pend+sPhase at_ pend tags+heldN tags
theorem bT_top {tags:List Int}(_ht:∀t∈tags,-1<=t){j:Nat}(hj:j<tags.length):gt tags j<=bT tags:=by
 unfold bT
 by_cases h0:0<=gt tags j
 ·split
  ·have h1:decide (gt tags (bestF tags (fun t=>decide (0<=t)) (fun a b=>decide (b<a))).toNat<gt tags j)=false:=bestN_best tags (fun t=>decide (0<=t)) (fun a b=>decide (b<a)) (by simp) (by simp;omega) (by simp;omega) tags.length j hj (by show decide (0<=gt tags j)=true;exact decide_eq_true h0)
   simp only[decide_eq_false_iff_not] at h1
   omega
  ·have:=best_none (tags:=tags) (is:=fun t=>decide (0<=t)) (ah:=fun a b=>decide (b<a)) (by omega) hj
   simp at this;omega
 ·split
  ·rename_i h1
   have:=best_is h1
   simp only[decide_eq_true_eq] at this;omega
  ·omega
theorem back_eq {l at_ pend:Int}{tags:List Int}(ended:Bool)(hp:0<=pend):strideNext l ended at_ pend tags =
  if 0<=bT tags/\pend<=bT tags then some (4,bestF tags (fun t=>decide (0<=t)) (fun a b=>decide (b<a)))
  else if pend=0 then none
  else if at_=pend-1 then some (7,0)
  else if 0<=bT tags/\(at_<bT tags\/pend<=at_) then some (3,bestF tags (fun t=>decide (0<=t)) (fun a b=>decide (b<a)))
  else if at_<pend then some (1,pend-1-at_)
  else none:=by
 unfold strideNext
 rw[if_neg (by omega)]
 dsimp only
 by_cases hb:0<=bestF tags (fun t=>decide (0<=t)) (fun a b=>decide (b<a))
 ·have h1:=best_is hb
  simp only[decide_eq_true_eq] at h1
  have e:bT tags=gt tags (bestF tags (fun t=>decide (0<=t)) (fun a b=>decide (b<a))).toNat:=by unfold bT;rw[if_pos hb]
  rw[e]
  simp only[hb,h1,true_and]
  rfl
 ·have e:bT tags = -1:=by unfold bT;rw[if_neg hb]
  rw[e]
  simp only[hb,false_and,if_false]
  simp
theorem b_step {l at_ pend:Int}{tags:List Int}(h:BInv l at_ pend tags) :
  ((∀ended,strideNext l ended at_ pend tags=none)/\pend=0)\/∃k n m,(∀ended,strideNext l ended at_ pend tags=some (k,n))/\mstep ⟨at_,pend,l,0,tags⟩ k n=some m/\BInv l m.at_ m.pend m.tags/\bM m.at_ m.pend m.tags<bM at_ pend tags:=by
 obtain⟨mok,pd,n1,has0⟩:=h
 have ⟨l0,l1,at0,at1,p0,p1,tg,few⟩:=mok
 dsimp only at l0 l1 at0 at1 p0 p1 tg few
 have tg1:∀t∈tags,-1<=t:=fun t ht=>(tg t ht).1
 have hat:0<=bT tags->0<=bestF tags (fun t=>decide (0<=t)) (fun a b=>decide (b<a))/\(bestF tags (fun t=>decide (0<=t)) (fun a b=>decide (b<a))).toNat<tags.length/\gt tags (bestF tags (fun t=>decide (0<=t)) (fun a b=>decide (b<a))).toNat=bT tags:=by
  intro h0
  have hb:0<=bestF tags (fun t=>decide (0<=t)) (fun a b=>decide (b<a)):=by
   apply Classical.byContradiction
   intro hn
   unfold bT at h0;rw[if_neg hn] at h0;omega
  exact⟨hb,best_lt hb,by unfold bT;rw[if_pos hb]⟩
 have hph:=sPhase_bound at_ pend tags
 have hbl:bT tags<=l:=by
  rcases Int.lt_or_le (bT tags) 0 with h0|h0
  ·omega
  ·obtain⟨_,h2,h3⟩:=hat h0
   have:=(tg _ (gt_mem h2)).2;omega
 generalize hbs:bestF tags (fun t=>decide (0<=t)) (fun a b=>decide (b<a))=base at *
 by_cases c1:0<=bT tags/\pend<=bT tags
 ·right
  obtain⟨h1,h2,h3⟩:=hat c1.1
  have hst:=mst4 (s:=⟨at_,pend,l,0,tags⟩) (n:=base) h1 (by dsimp only;omega) (by show 0<=gt tags base.toNat;omega) few
  refine⟨_,_,_,fun ended=>by rw[back_eq ended pd,if_pos c1,hbs],hst,⟨mstep_ok mok hst,pd,by simpa using n1,fun hp=>?_⟩,?_⟩
  ·obtain⟨i,hi,e⟩:=has0 hp
   refine⟨i,by simpa using hi,?_⟩
   dsimp only at hp ⊢
   rw[gt_set,if_neg ?_,e]
   rintro⟨ei,_⟩
   rw[ei,e] at h3;omega
  ·dsimp only
   unfold bM
   have e1:sPhase at_ pend tags=2:=by unfold sPhase;rw[if_pos c1.2]
   have e2:=sPhase_bound at_ pend (tags.set base.toNat (-1))
   have e3:(heldN (tags.set base.toNat (-1)):Int)=(heldN tags:Int)-1:=by
    unfold heldN
    rw[countP_set' h2,if_pos (by simp;omega),if_neg (by simp)];omega
   omega
 by_cases c2:pend=0
 ·left
  exact⟨fun ended=>by rw[back_eq ended pd,if_neg c1,if_pos c2],c2⟩
 right
 obtain⟨i0,hi0,e0⟩:=has0 (by omega)
 have hbt:0<=bT tags:=by have:=bT_top tg1 hi0;omega
 obtain⟨h1,h2,h3⟩:=hat hbt
 have hlt:bT tags<pend:=by omega
 by_cases c3:at_=pend-1
 ·have hst:=mst7 (s:=⟨at_,pend,l,0,tags⟩) (by dsimp only;omega) c3
  refine⟨_,_,_,fun ended=>by rw[back_eq ended pd,if_neg c1,if_neg c2,if_pos c3],hst,⟨mstep_ok mok hst,at0,n1,fun _=>⟨i0,hi0,e0⟩⟩,?_⟩
  dsimp only
  unfold bM
  have:=sPhase_bound at_ at_ tags
  omega
 by_cases c4:0<=bT tags/\(at_<bT tags\/pend<=at_)
 ·have hst:=mst3 (s:=⟨at_,pend,l,0,tags⟩) (n:=base) h1 (by dsimp only;omega) (by show 0<=gt tags base.toNat;omega) few
  have e:tagAt ⟨at_,pend,l,0,tags⟩ base=bT tags:=h3
  rw[e] at hst
  refine⟨_,_,_,fun ended=>by rw[back_eq ended pd,if_neg c1,if_neg c2,if_neg c3,if_pos c4,hbs],hst,⟨mstep_ok mok hst,pd,n1,has0⟩,?_⟩
  dsimp only
  unfold bM
  have e1:sPhase at_ pend tags=2:=by unfold sPhase;rw[if_neg (by omega),if_neg c3,if_neg (by omega)]
  have e2:sPhase (bT tags) pend tags<=1:=by
   unfold sPhase;rw[if_neg (by omega)];split
   ·omega
   ·rw[if_pos (by omega)];omega
  omega
 have c5:at_<pend:=by omega
 have hst:=mst1 (s:=⟨at_,pend,l,0,tags⟩) (n:=pend-1-at_) (by omega) (by omega) (by dsimp only;omega)
 refine⟨_,_,_,fun ended=>by rw[back_eq ended pd,if_neg c1,if_neg c2,if_neg c3,if_neg c4,if_pos c5],hst,⟨mok_total (mstep_ok mok hst),pd,n1,has0⟩,?_⟩
 dsimp only
 unfold bM
 have e1:sPhase at_ pend tags=1:=by unfold sPhase;rw[if_neg (by omega),if_neg c3,if_pos (by omega)]
 have e2:sPhase (at_+(pend-1-at_)) pend tags=0:=by unfold sPhase;rw[if_neg (by omega),if_pos (by omega)]
 omega
def SInv (l at_ pend:Int)(tags:List Int):Prop:=(pend = -1/\AFull l at_ tags)\/BInv l at_ pend tags
def sM (l at_ pend:Int)(tags:List Int):Int:=if pend<0 then 3*l+3+tags.length else bM at_ pend tags
theorem sM_bound {l at_ pend:Int}{tags:List Int}(h:SInv l at_ pend tags):0<=sM l at_ pend tags/\sM l at_ pend tags<=2097154:=by
 have hh:=heldN_le tags
 have hph:=sPhase_bound at_ pend tags
 unfold sM bM
 rcases h with ⟨hp,h⟩|h
 ·obtain⟨l0,l1,at0,at1,p0,p1,tg,few⟩:=h.inv.mok
  dsimp only at l0 l1 few
  rw[if_pos (by omega)];omega
 ·obtain⟨l0,l1,at0,at1,p0,p1,tg,few⟩:=h.mok
  have:=h.pd
  dsimp only at l0 l1 p1 few
  rw[if_neg (by omega)];omega
theorem s_step {l at_ pend:Int}{tags:List Int}(h:SInv l at_ pend tags) :
  (strideNext l true at_ pend tags=none/\pend=0)\/∃k n m,strideNext l true at_ pend tags=some (k,n)/\mstep ⟨at_,pend,l,0,tags⟩ k n=some m/\SInv l m.at_ m.pend m.tags/\sM l m.at_ m.pend m.tags<sM l at_ pend tags:=by
 rcases h with ⟨hp,h⟩|h
 ·right
  have mok:=h.inv.mok
  have ⟨l0,l1,at0,at1,p0,p1,tg,few⟩:=mok
  have n1:=h.inv.n1
  have hat:=h.here
  dsimp only at l0 l1 few
  subst hp
  have hst:=mst5 (s:=⟨at_,-1,l,0,tags⟩) rfl hat
  refine⟨_,_,_,by rw[h.next];rfl,hst,.inr ⟨mstep_ok mok hst,at0,n1,fun _=>?_⟩,?_⟩
  ·obtain⟨i,hi,e⟩:=h.full 0 (by simp;exact l0)
   exact⟨i,hi,by simpa using e⟩
  ·dsimp only
   have hh:=heldN_le tags
   have hph:=sPhase_bound at_ at_ tags
   unfold sM bM
   dsimp only at at0
   rw[if_neg (by omega),if_pos (by omega)];omega
 ·rcases b_step h with ⟨h1,h2⟩|⟨k,n,m,h1,h2,h3,h4⟩
  ·exact .inl ⟨h1 true,h2⟩
  ·have hpd:=h.pd
   have hpd2:=h3.pd
   refine .inr ⟨k,n,m,h1 true,h2,.inr h3,?_⟩
   unfold sM
   rw[if_neg (by omega),if_neg (by omega)];exact h4
end Go.VC
namespace Go.VC
open Go Go.Proofs
theorem tmpE {H0 H1 H2:Heap}{old cs:List Value}{t p:Nat}(n:New H0 old t H1 p)(hl:cs.length=old.length)(h2:H2=wrL H1 p 0 cs):Ext H0 H2/\Own H2 p cs:=by
 refine⟨?_,by rw[h2];exact n.own.swrL hl⟩
 rw[h2];exact n.mod.trans_new (Mod.refl.wrL (S:=[p]) (.inl (by simp))) (by have:=n.ge;simpa using this)
inductive ERun (h:Hdr)(ended:Bool):DS->List Int->DS->List Int->Prop
 | refl (d tags):ERun h ended d tags d tags
 | step {d tags k n m d' tags'}:enext h d tags ended=some (k,n)->mstep (dMS d tags) k n=some m->ERun h ended (dact h d k n m) m.tags d' tags'->ERun h ended d tags d' tags'
theorem ERun.snoc {h:Hdr}{ended:Bool}{d tags d' tags'}(r:ERun h ended d tags d' tags'){k n m}(e1:enext h d' tags' ended=some (k,n))(e2:mstep (dMS d' tags') k n=some m):ERun h ended d tags (dact h d' k n m) m.tags:=by
 induction r with
 | refl=>exact .step e1 e2 (.refl _ _)
 | step a b _ ih=>exact .step a b (ih e1 e2)
structure RunInv (h:Hdr)(ended:Bool)(P:DS->List Int->Prop)(M:DS->List Int->Int):Prop where
 lo:∀d tags,P d tags->0<=M d tags
 step:∀d tags,P d tags->enext h d tags ended=none\/∃k n m,enext h d tags ended=some (k,n)/\mstep (dMS d tags) k n=some m/\P (dact h d k n m) m.tags/\M (dact h d k n m) m.tags<M d tags
theorem dcnt_step {h:Hdr}{d:DS}{tags:List Int}{k n:Int}{m:MS1}{B:Int}(e:mstep (dMS d tags) k n=some m)(c:DCnt d B):DCnt (dact h d k n m) (B+65535):=by
 obtain⟨p,t,l,s⟩:=c
 have hn:k=1->1<=n/\n<=65535:=by intro hk;rcases mstep_inv e with h|h|h|h|h|h|h<;>omega
 refine⟨?_,?_,?_,?_⟩<;>simp only[dact]<;>(repeat' split)<;>omega
theorem DCnt.mono {d:DS}{A B:Int}(c:DCnt d A)(h:A<=B):DCnt d B:=by
 obtain⟨p,t,l,s⟩:=c;exact⟨by omega,by omega,by omega,by omega⟩
theorem c17 {H:Heap}{R:Value->Heap->Prop}{be:Nat}{b:DB}{h:Hdr}{d:DS}{tags:List Int}{ended:Bool}{s:PS}{post:List UInt64}(e:EngS H be b h d tags ended false s post)(hm:h.mode=1\/h.mode=2)
  {P:DS->List Int->Prop} {M:DS->List Int->Int} (ri:RunInv h ended P M) (hp:P d tags) {B:Int} (cnt:DCnt d B) (hB:B+65535*M d tags<=2305843009213693952) (hB0:0<=B)
  (k:∀n d' tags' s' H',enext h d' tags' ended=none->P d' tags'->ERun h ended d tags d' tags'->EngS H' be b h d' tags' ended false s' post->Mod [b.d,b.m,b.w] H H'->R (.tuple #[.int .i64 n,.int .i64 0]) H') :
  Ru 17 [.pointer (some ⟨be,0,none⟩)] H R:=by
 have hM:=ri.lo d tags hp
 let J:Nat->Int->Heap->Prop:=fun N n H'=>∃d' tags' s',N=(M d' tags').toNat/\EngS H' be b h d' tags' ended false s' post/\P d' tags'/\ERun h ended d tags d' tags'/\DCnt d' (B+65535*(M d tags-M d' tags'))/\0<=n/\n<=M d tags-M d' tags'/\Mod [b.d,b.m,b.w] H H'
 refine v17 _ _ ⟨fun n H'=>∃N,J N n H',fun n H'=>least fun N=>J N n H',⟨_,d,tags,s,rfl,e,hp,.refl _ _,by simpa using cnt,by omega,by omega,Mod.refl⟩,?_⟩
 intro H1 n hI
 obtain⟨N,hJ⟩:=hI
 obtain⟨d1,tags1,s1,hN,e1,p1,r1,c1,n0,nle,m1⟩:=least_spec (p:=fun N=>J N n H1) hJ
 have hM1:=ri.lo d1 tags1 p1
 have hst:=ri.step d1 tags1 p1
 refine c12 e1 hm (c1.mono (by omega)) ?_ ?_ ?_
 ·intro x y hxy
  rcases hst with h0|⟨x',y',m,h1,h2,_⟩
  ·rw[h0] at hxy;cases hxy
  ·rw[h1] at hxy;cases hxy;exact⟨m,h2⟩
 ·intro hnone H2 x2
  refine⟨_,rfl,_,_,rfl,fun H3 q n3=>⟨rfl,act_one,n3.own.w 0 2 rfl,fun H4 h4=>?_⟩⟩
  obtain⟨x4,_⟩:=tmpE n3 rfl h4
  have x14:=x2.thenExt x4
  refine⟨fun hc=>(hc rfl).elim,fun _=>⟨fun hc=>by simp at hc,fun _=>?_⟩⟩
  exact k n d1 tags1 s1 H4 hnone p1 r1 (e1.ext x14) (m1.thenExt x14)
 ·intro x y m hxy hms H2 s2 e2 m2
  rcases hst with h0|⟨x',y',m',h1,h2,h3,h4⟩
  ·rw[h0] at hxy;cases hxy
  rw[h1] at hxy;cases hxy
  rw[h2] at hms;cases hms
  have hM2:=ri.lo _ _ h3
  refine⟨_,rfl,_,_,rfl,fun H3 q n3=>⟨rfl,act_one,n3.own.w 0 2 rfl,fun H4 h4'=>?_⟩⟩
  obtain⟨x4,_⟩:=tmpE (cs:=actC x y) n3 rfl h4'
  refine⟨fun hc=>(hc rfl).elim,fun _=>⟨fun _=>?_,fun hc=>by simp at hc⟩⟩
  have hJ':J (M (dact h d1 x y m) m.tags).toNat (n+1) H4:=⟨_,_,s2,rfl,e2.ext x4,h3,r1.snoc h1 h2,(dcnt_step h2 c1).mono (by omega),by omega,by omega,(m1.trans m2).thenExt x4⟩
  refine⟨by unfold I64;omega,⟨_,hJ'⟩,?_⟩
  exact Nat.lt_of_lt_of_eq (least_lt (p:=fun N=>J N (n+1) H4) hJ' (show (M (dact h d1 x y m) m.tags).toNat<(M d1 tags1).toNat by omega)) hN.symm
theorem off_inv {h:Hdr}(hm:h.mode=1)(ended:Bool):RunInv h ended (fun d tags=>OffInv d.l d.at_ d.pend tags) (fun d tags=>offM d.l d.at_ d.pend tags):=by
 refine⟨fun d tags hp=>(offM_bound hp).1,fun d tags hp=>?_⟩
 unfold enext
 rw[if_pos hm]
 rcases off_step hp with ⟨h1,_⟩|⟨k,n,m,h1,h2,h3,h4⟩
 ·exact .inl h1
 ·exact .inr ⟨k,n,m,h1,h2,h3,h4⟩
theorem off_end {h:Hdr}(hm:h.mode=1){ended:Bool}{d:DS}{tags:List Int}(hp:OffInv d.l d.at_ d.pend tags)(hn:enext h d tags ended=none):d.pend=0:=by
 unfold enext at hn
 rw[if_pos hm] at hn
 rcases off_step hp with ⟨_,h1⟩|⟨k,n,m,h1,_⟩
 ·exact h1
 ·rw[hn] at h1;cases h1
theorem off_first {h:Hdr}(hp:PlanOk h)(hm:h.mode=1):OffInv (d0 h (fixedOf h)).l (d0 h (fixedOf h)).at_ (d0 h (fixedOf h)).pend (tags0 h):=by
 have hs:=slots_pos hp (by omega)
 have hsem:=dsem0 hp (show h.mode≠3 by omega)
 have hall:∀j,j<(tags0 h).length->gt (tags0 h) j = -1:=fun j hj=>by have:=gt_mem hj;simp only[tags0,List.mem_replicate] at this;exact this.2
 have hb:baseOf (tags0 h) = -1:=base_none (fun t ht=>by simp only[tags0,List.mem_replicate] at ht;omega) fun j hj=>by rw[hall j hj];omega
 have hl:=hp.1.len.1
 refine⟨hsem.mok,fun i j hi hj _ h0=>by rw[hall i hi] at h0;omega,by simp[tags0];omega,fun _=>.inl ⟨rfl,rfl⟩,fun h0=>by omega,?_,fun h0=>by omega⟩
 rw[hb]
 show (-1:Int)<=if (-1:Int)<0 then h.len else -1
 rw[if_pos (by omega)];omega
theorem str_inv {h:Hdr}(hm:h.mode=2):RunInv h true (fun d tags=>SInv d.l d.at_ d.pend tags) (fun d tags=>sM d.l d.at_ d.pend tags):=by
 refine⟨fun d tags hp=>(sM_bound hp).1,fun d tags hp=>?_⟩
 unfold enext
 rw[if_neg (by omega)]
 rcases s_step hp with ⟨h1,_⟩|⟨k,n,m,h1,h2,h3,h4⟩
 ·exact .inl h1
 ·exact .inr ⟨k,n,m,h1,h2,h3,h4⟩
theorem str_end {h:Hdr}(hm:h.mode=2){d:DS}{tags:List Int}(hp:SInv d.l d.at_ d.pend tags)(hn:enext h d tags true=none):d.pend=0:=by
 unfold enext at hn
 rw[if_neg (by omega)] at hn
 rcases s_step hp with ⟨_,h1⟩|⟨k,n,m,h1,_⟩
 ·exact h1
 ·rw[hn] at h1;cases h1
theorem str_first {h:Hdr}(hp:PlanOk h)(hm:h.mode=2):(d0 h (fixedOf h)).l=0/\AInv 0 0 (tags0 h):=by
 have hs:=slots_pos hp (by omega)
 obtain⟨a,b,c,d⟩:=slots_small hp
 have hl:=hp.1.len
 unfold lenOk at hl
 rw[if_pos hm] at hl
 exact⟨by simp only[d0];omega,a_first _ (by omega) (by omega)⟩
end Go.VC
set_option linter.unusedVariables false
namespace Go.VC
open Go Go.Proofs
set_option maxRecDepth 100000
variable {H:Heap}{R:Value->Heap->Prop}
theorem v20 (x0:List Value)(x1:List Value)(h:∀H' p,New H x0 53 H' p->∀H'_1 p_1,New H' x1 53 H'_1 p_1->∃(J:Heap->Prop),(∃x,rd H'_1 p 0=some (.u x)/\∃x_1,rd H'_1 p_1 0=some (.u x_1)/\(¬x=x_1->R (.bool false) H'_1)/\(¬¬x=x_1->∃a l c,rd H'_1 p 1=some (.slice a l c)/\∃a l_1 c,rd H'_1 p_1 1=some (.slice a l_1 c)/\(¬(↑l:Int)=(↑l_1:Int)->R (.bool false) H'_1)/\(¬¬(↑l:Int)=(↑l_1:Int)->∃a l c,rd H'_1 p 2=some (.slice a l c)/\∃a l_2 c,rd H'_1 p_1 2=some (.slice a l_2 c)/\(¬(↑l:Int)=(↑l_2:Int)->R (.bool false) H'_1)/\(¬¬(↑l:Int)=(↑l_2:Int)->J H'_1))))/\∀H,J H->∃(I:Int->Heap->Prop),∃(μ:Int->Heap->Nat),I (0:Int) H/\∀H n,I n H->∃a l c,rd H p 1=some (.slice a l c)/\(n<(↑l:Int)->∃a l c,rd H p 1=some (.slice a l c)/\∃b o,At a b o/\((0:Int)<=n/\n<(↑l:Int))/\∃x,rd H b (o+n.toNat)=some (.u x)/\∃a l c,rd H p_1 1=some (.slice a l c)/\∃b o,At a b o/\((0:Int)<=n/\n<(↑l:Int))/\∃x_1,rd H b (o+n.toNat)=some (.u x_1)/\(¬x=x_1->R (.bool false) H)/\(¬¬x=x_1->I64 (n+(1:Int))/\I (n+(1:Int)) H/\μ (n+(1:Int)) H<μ n H))/\(¬n<(↑l:Int)->∃(I:Int->Heap->Prop),∃(μ:Int->Heap->Nat),I (0:Int) H/\∀H n,I n H->∃a l c,rd H p 2=some (.slice a l c)/\(n<(↑l:Int)->∃a l c,rd H p 2=some (.slice a l c)/\∃b o,At a b o/\((0:Int)<=n/\n<(↑l:Int))/\∃x,rd H b (o+n.toNat)=some (.u x)/\∃a l c,rd H p_1 2=some (.slice a l c)/\∃b o,At a b o/\((0:Int)<=n/\n<(↑l:Int))/\∃x_1,rd H b (o+n.toNat)=some (.int .u64 (↑(UInt64.toNat x_1):Int))/\(¬x=x_1->R (.bool false) H)/\(¬¬x=x_1->I64 (n+(1:Int))/\I (n+(1:Int)) H/\μ (n+(1:Int)) H<μ n H))/\(¬n<(↑l:Int)->R (.bool true) H))):Ru 20 [.agg x0.toArray,.agg x1.toArray] H R:=vcr ⟨fun|4=>some [(5,.int .i64)]|9=>some [(6,.int .i64)]|_=>none,fun|3=>some []|_=>none⟩ [.agg x0,.agg x1] h
end Go.VC
namespace Go.VC
open Go Go.Proofs
theorem wrM {H H':Heap}{p o:Nat}{v:Value}(e:H'=wr H p o v):Mod [p] H H':=by rw[e];exact Mod.refl.wr (.inl (by simp))
theorem wrLM {H H':Heap}{p o:Nat}{v:List Value}(e:H'=wrL H p o v):Mod [p] H H':=by rw[e];exact Mod.refl.wrL (.inl (by simp))
end Go.VC
namespace Go.VC
open Go Go.Proofs
structure St2 (t0:Tree)(H0:Heap)(V0:List Nat)(J:List Nat->Nat->Heap->Prop)(at_:Nat)(F:List Fw)(k:Nat)(V:List Nat)(rest:List Op)(al:Option Addr)(ll lc:Nat)(H:Heap):Prop where
 le:k<=(fwSeen t0 []).length
 seen:(fwSeen t0 []).drop k=rest
 hll:ll=F.length
 few:F.length<=8
 buf:Buf 1 H H0.size al ll lc (u64s (F.map Fw.k).reverse)
 j:J V k H
 mod:Mod V0 H0 H
 v:∀v∈V,v<H.size/\(v∈V0\/H0.size<=v)
 own:∀b,al=some ⟨b,0,none⟩->0<lc->b<H.size/\b∉V
theorem St2.mod' {t0:Tree}{H0:Heap}{V0:List Nat}{J:List Nat->Nat->Heap->Prop}{at_:Nat}{F:List Fw}{k:Nat}{V:List Nat}{rest:List Op}{al:Option Addr}{ll lc:Nat}{H H':Heap}(hJ:FrameJ H0.size J)
  (s:St2 t0 H0 V0 J at_ F k V rest al ll lc H) (e:Ext H H'):St2 t0 H0 V0 J at_ F k V rest al ll lc H':=
 ⟨s.le,s.seen,s.hll,s.few,s.buf.ext e,hJ _ _ _ _ _ s.j e (fun v hv=>⟨(s.v v hv).1,by simp⟩) (by simp),s.mod.thenExt e,fun v hv=>⟨Nat.lt_of_lt_of_le (s.v v hv).1 e.1,(s.v v hv).2⟩,fun b h1 h2=>⟨Nat.lt_of_lt_of_le (s.own b h1 h2).1 e.1,(s.own b h1 h2).2⟩⟩
def At2 (t0:Tree)(H0:Heap)(V0:List Nat)(J:List Nat->Nat->Heap->Prop)(al:Option Addr)(ll lc:Nat)(i:Int)(H:Heap)(m:Nat):Prop:=
 ∃at_ t F k V,i=((at_:Nat):Int)/\FwAt (t0.link 0) at_ t F/\m=fwLeft t F/\St2 t0 H0 V0 J at_ F k V (fwSeen t F) al ll lc H
def Mid2 (t0:Tree)(H0:Heap)(V0:List Nat)(J:List Nat->Nat->Heap->Prop)(al:Option Addr)(ll lc:Nat)(i:Int)(m:Nat)(cs:List Value)(p o:Nat)(H:Heap):Prop:=
 ∃at_ F k V x n rest,i=((at_:Nat):Int)/\at_<(t0.link 0).length/\Nxt (t0.link 0) at_ F m x n rest/\cs=opC x/\o=0/\St2 t0 H0 V0 J at_ F k V (x ::rest) al ll lc H/\Own H p (opC x++[.int .i64 (n:Int)])/\p<H.size/\p∉V/\(∀b,al=some ⟨b,0,none⟩->0<lc->b≠p)
def Aft2 (t0:Tree)(H0:Heap)(V0:List Nat)(J:List Nat->Nat->Heap->Prop)(al:Option Addr)(ll lc:Nat)(i:Int)(m:Nat)(p:Nat)(H:Heap):Prop:=
 ∃at_ F k V x n rest,i=((at_:Nat):Int)/\at_<(t0.link 0).length/\Nxt (t0.link 0) at_ F m x n rest/\St2 t0 H0 V0 J at_ F k V rest al ll lc H/\Own H p (opC x++[.int .i64 (n:Int)])/\(∀b,al=some ⟨b,0,none⟩->0<lc->b≠p)
section
variable {t0:Tree}{H0:Heap}{V0:List Nat}{J:List Nat->Nat->Heap->Prop}(hJ:FrameJ H0.size J)
include hJ
set_option maxRecDepth 100000 in
theorem mid2 {al:Option Addr}{ll lc:Nat}{i:Int}{H:Heap}{m:Nat}(s:At2 t0 H0 V0 J al ll lc i H m){a:Option Addr}{l c Bs:Nat}(r0:rd H0 Bs 0=some (.slice a l c))(hc:RowC H0 a l (t0.link 0))(hB:Bs∉V0)(ha:0<l->Off V0 a){y:Value} :
  A276 Tryz.prog [(3,.slc al ll lc),(4,.int .i64 i),(1,.ptr Bs 0),(0,.op y)] H (fun H=>∃V,J V (fwSeen t0 []).length H/\Grew V0 V H0 H) (fun v cs p o H=>v=y/\Mid2 t0 H0 V0 J al ll lc i m cs p o H):=by
 obtain⟨at_,t,F,k,V,rfl,hat,rfl,s⟩:=s
 have r1:=s.mod.rd hB r0
 have hrow:=s.mod.rowz ha hc
 have hcl:=hc.len
 refine a276 _ _ _ _ _ _ _ _ _ ⟨_,_,_,r1,fun hlt=>⟨_,_,_,r1,?_⟩,fun hge=>?_⟩
 ·obtain⟨x,n,rest,hx,hs,hn⟩:=hat.next (by omega)
  have s':=s
  rw[hs] at s'
  refine RowC.load hrow hx rfl fun H1 p hO e1 hp hpl=>⟨opC x,rfl,(rdL_append.1 hO.1).1,rfl,at_,F,k,V,x,n,rest,rfl,by omega,hn,rfl,rfl,s'.mod' hJ e1,hO,hpl,fun h=>?_,fun b h1 h2 h3=>?_⟩
  ·have:=(s.v p h).1;omega
  ·have:=(s.own b h1 h2).1;omega
 ·obtain⟨rfl,rfl⟩:=hat.last (by omega)
  have h1:=congrArg List.length s.seen
  rw[List.length_drop,fwSeen_end,List.length_nil] at h1
  have:k=(fwSeen t0 []).length:=by have:=s.le;omega
  exact⟨V,this ▸ s.j,s.mod,s.v⟩
set_option maxRecDepth 100000 in
theorem aft2 {al:Option Addr}{ll lc:Nat}{i:Int}{m:Nat}{p:Nat}{H:Heap}(s:Aft2 t0 H0 V0 J al ll lc i m p H)(hlen:(t0.link 0).length<=4096){Bs:Nat}{y:Value} :
  B276 Tryz.prog [(20,.tt),(5,.ptr p 0),(3,.slc al ll lc),(4,.int .i64 i),(1,.ptr Bs 0),(0,.op y)] H (fun al ll lc i H=>∃m',m'<m/\At2 t0 H0 V0 J al ll lc i H m'):=by
 obtain⟨at_,F,k,V,x,n,rest,rfl,hlt,hn,s,hO,hbp⟩:=s
 have hI:I64 ((at_:Int)+1):=by unfold I64;omega
 refine b276 _ _ _ _ _ _ _ _ _ ⟨_,hO.rd 0 rfl,fun h7=>⟨_,hO.rd 4 rfl,fun H1 q n1=>?_⟩,fun h7=>⟨fun h0=>?_,fun h0=>⟨hI,?_⟩⟩⟩
 ·refine⟨[.int .u64 (x.v.toNat:Int)],rfl,.inr ⟨q,0,rfl,n1.rdL⟩,?_⟩
  have s1:=s.mod' hJ n1.mod
  have hll:=s.hll;have hfew:=s.few
  cases hn with
  | into t F' k7 h hr hm hk=>
   refine s1.buf.app' s1.mod.1 rfl rfl (by intro v hv;simp at hv;subst hv;trivial) (by omega) (by omega) fun a' c' H2 S b m2 hS ha'=>⟨hI,_,hm,at_+1,t,F',k,V,by push_cast;rfl,h,rfl,?_⟩
   have hl':F'.length=F.length+1:=by have:=congrArg List.length hk;simpa using this
   have hSV:∀b∈S,b∉V:=fun b hb=>(s1.own b (hS b hb).2.2 (hS b hb).2.1).2
   refine⟨s.le,by rw[s.seen,hr],by omega,?_,?_,hJ _ _ _ S _ s1.j m2 (fun v hv=>⟨(s1.v v hv).1,fun h=>hSV v h hv⟩) (fun u hu=>(hS u hu).1),?_,fun v hv=>⟨Nat.lt_of_lt_of_le (s1.v v hv).1 m2.1,(s1.v v hv).2⟩,?_⟩
   ·have:=h.deep;omega
   ·rw[hk]
    have e:u64s (x.v ::F.map Fw.k).reverse=u64s (F.map Fw.k).reverse++[.int .u64 (x.v.toNat:Int)]:=by simp[u64s]
    rw[e];exact b
   ·exact s1.mod.trans_new m2 fun x hx=>.inr (hS x hx).1
   ·intro b' h1 h2
    rcases ha' with ⟨rfl,rfl⟩|⟨p',rfl,hp'⟩
    ·exact⟨Nat.lt_of_lt_of_le (s1.own b' h1 h2).1 m2.1,(s1.own b' h1 h2).2⟩
    ·cases h1
     refine⟨?_,fun hv=>by have:=(s1.v _ hv).1;omega⟩
     rcases b.ok with h0|⟨b2,e,_,_,hw⟩
     ·omega
     ·cases e;exact rdsome_lt (hw 0 (by omega)).1
  | again f G t F' k0=>omega
  | out f G t k0=>omega
  | on t k7=>exact (k7 h7).elim
 ·cases hn with
  | into t F' k7=>omega
  | on t k7 k0=>exact (k0 h0).elim
  | again f G t F' k0 hF h1 h hr hm hk=>
   subst hF
   have hll:=s.hll
   have hfw:=s.few
   simp only[List.length_cons] at hll hfw
   have hbuf:=s.buf
   have hG:(G.map Fw.k).reverse.length=G.length:=by simp
   rcases hbuf.ok with hz|⟨b,rfl,hb,hrd,hw⟩
   ·have:=hbuf.le;omega
   have hlc:0<lc:=by have:=hbuf.le;omega
   have hidx:Int.toNat ((ll:Int)-1)=G.length:=by omega
   rw[hidx]
   have hcell:rd H b (0+G.length)=some (.int .u64 (f.k.toNat:Int)):=by
    refine rdL_get' hrd ?_
    rw[List.map_cons,List.reverse_cons]
    unfold u64s
    rw[List.map_append,List.getElem?_append_right (by simp)]
    simp
   refine⟨⟨by omega,by omega⟩,b,0,rfl,⟨by omega,by omega⟩,f.k,hcell,b,0,rfl,⟨by omega,by omega⟩,wok_sub hw (by omega) (by have:=hbuf.le;omega),fun H1 h1'=>?_⟩
   have m1:Mod [b] H H1:=wrM h1'
   obtain⟨hbl,hbV⟩:=s.own b rfl hlc
   have hcell1:rd H1 b (0+G.length)=some (.int .u64 ((f.k-1).toNat:Int)):=by
    rw[h1',rd_wr_same (by rw[hcell];rfl)]
    rfl
   have hpred:=u64_pred (show 0<f.k.toNat by omega)
   refine⟨b,0,rfl,⟨by omega,by omega⟩,_,hcell1,fun hpos=>?_,fun hneg=>?_⟩
   ·refine⟨_,(hO.mod m1 (by have:=hbp b rfl hlc;simpa using fun e=>this e.symm)).rd 5 rfl,?_,?_,_,hm,n,t,F',k,V,by omega,h,rfl,?_⟩
    ·have:=h.le;unfold I64;omega
    ·have:=h.le;unfold I64;omega
    ·have hl':F'.length=G.length+1:=by have:=congrArg List.length hk;simpa using this
     refine⟨s.le,by rw[s.seen,hr],by omega,by have:=h.deep;omega,?_,hJ _ _ _ [b] _ s.j m1 (fun v hv=>⟨(s.v v hv).1,by simp;rintro rfl;exact hbV hv⟩) (by simpa using hb),s.mod.trans_new m1 (by simp;omega),fun v hv=>⟨Nat.lt_of_lt_of_le (s.v v hv).1 m1.1,(s.v v hv).2⟩,fun b' e1 e2=>?_⟩
     ·refine⟨by rw[hk];simp;omega,hbuf.le,.inr ⟨b,rfl,hb,?_,?_⟩⟩
      ·have:=rdL_wr_set (k:=G.length) (v:=.int .u64 ((f.k-1).toNat:Int)) hrd
       rw[h1',hk]
       have e:(u64s ((f ::G).map Fw.k).reverse).set G.length (.int .u64 ((f.k-1).toNat:Int))=u64s ((f.k-1) ::G.map Fw.k).reverse:=by
        rw[u64s_set,List.map_cons,List.reverse_cons,List.reverse_cons,List.set_append_right _ _ (by simp)]
        simp
       rw[<-e];exact this
      ·rw[h1'];exact wok_wr hw
     ·cases e1;exact⟨Nat.lt_of_lt_of_le hbl m1.1,hbV⟩
   ·exfalso;apply hneg
    rw[UInt64.lt_iff_toNat_lt,hpred]
    show (0:Nat)<_
    omega
  | out f G t k0 hF hf0 h1 h hr hm=>
   subst hF
   have hll:=s.hll
   have hfw:=s.few
   simp only[List.length_cons] at hll hfw
   have hbuf:=s.buf
   have hG:(G.map Fw.k).reverse.length=G.length:=by simp
   rcases hbuf.ok with hz|⟨b,rfl,hb,hrd,hw⟩
   ·have:=hbuf.le;omega
   have hlc:0<lc:=by have:=hbuf.le;omega
   have hidx:Int.toNat ((ll:Int)-1)=G.length:=by omega
   rw[hidx]
   have hcell:rd H b (0+G.length)=some (.int .u64 (f.k.toNat:Int)):=by
    refine rdL_get' hrd ?_
    rw[List.map_cons,List.reverse_cons]
    unfold u64s
    rw[List.map_append,List.getElem?_append_right (by simp)]
    simp
   refine⟨⟨by omega,by omega⟩,b,0,rfl,⟨by omega,by omega⟩,f.k,hcell,b,0,rfl,⟨by omega,by omega⟩,wok_sub hw (by omega) (by have:=hbuf.le;omega),fun H1 h1'=>?_⟩
   have m1:Mod [b] H H1:=wrM h1'
   obtain⟨hbl,hbV⟩:=s.own b rfl hlc
   have hcell1:rd H1 b (0+G.length)=some (.int .u64 ((f.k-1).toNat:Int)):=by
    rw[h1',rd_wr_same (by rw[hcell];rfl)]
    rfl
   have hpred:=u64_pred hf0
   refine⟨b,0,rfl,⟨by omega,by omega⟩,_,hcell1,fun hpos=>?_,fun hneg=>?_⟩
   ·exfalso
    rw[UInt64.lt_iff_toNat_lt,hpred] at hpos
    have:(UInt64.ofNat 0).toNat=0:=rfl
    omega
   ·refine⟨⟨by omega,by have:=hbuf.le;omega⟩,hI,_,hm,at_+1,t,G,k,V,by push_cast;rfl,h,rfl,?_⟩
    refine⟨s.le,by rw[s.seen,hr],rfl,by have:=h.deep;omega,?_,hJ _ _ _ [b] _ s.j m1 (fun v hv=>⟨(s.v v hv).1,by simp;rintro rfl;exact hbV hv⟩) (by simpa using hb),s.mod.trans_new m1 (by simp;omega),fun v hv=>⟨Nat.lt_of_lt_of_le (s.v v hv).1 m1.1,(s.v v hv).2⟩,fun b' e1 e2=>?_⟩
    ·refine⟨by simp,by have:=hbuf.le;omega,.inr ⟨b,rfl,hb,?_,by rw[h1'];exact wok_wr hw⟩⟩
     rw[List.map_cons,List.reverse_cons] at hrd
     have e:u64s ((G.map Fw.k).reverse++[f.k])=u64s (G.map Fw.k).reverse++u64s [f.k]:=by simp[u64s]
     rw[e] at hrd
     have h2:=(rdL_append.1 hrd).1
     rw[h1']
     exact rdL_congr h2 fun j _ hj=>(rd_wr_ne (by simp at hj;omega)).symm
    ·cases e1;exact⟨Nat.lt_of_lt_of_le hbl m1.1,hbV⟩
 ·cases hn with
  | into t F' k7=>exact (h7 k7).elim
  | again f G t F' k0=>exact (h0 k0).elim
  | out f G t k0=>exact (h0 k0).elim
  | on t k7 k0 h hr hm=>exact⟨_,hm,at_+1,t,F,k,V,by push_cast;rfl,h,rfl,⟨s.le,by rw[s.seen,hr],s.hll,s.few,s.buf,s.j,s.mod,s.v,s.own⟩⟩
end
end Go.VC
namespace Go.VC
open Go Go.Proofs Go.RowKit
def blkOf:Option Addr->List Nat
 | some a=>[a.block]
 | none=>[]
def blkL (a:Option Addr)(l:Nat):List Nat:=if l=0 then [] else blkOf a
theorem off_of {a:Option Addr}{l:Nat}{V:List Nat}(h:∀v∈V,v∉blkL a l):0<l->Off V a:=by
 rintro hl b o rfl hb
 exact h b hb (by simp[blkL,blkOf,show l≠0 by omega])
theorem blkL_lt {sz l:Nat}{H:Heap}{a:Option Addr}{cs:List Value}(h:Row sz H a l cs)(hz:0<sz):∀b∈blkL a l,b<H.size:=by
 intro b hb
 unfold blkL at hb
 split at hb
 ·simp at hb
 ·rename_i hl
  obtain⟨b',o,rfl,hr⟩:=h.at (Nat.mul_pos (Nat.pos_of_ne_zero hl) hz)
  simp[blkOf] at hb
  subst hb
  have hlen:=h.1
  cases cs with
  | nil=>have:=Nat.mul_pos (Nat.pos_of_ne_zero hl) hz;simp at hlen;omega
  | cons v r=>exact rd_lt hr.1
theorem row_stay {sz l:Nat}{H H':Heap}{a:Option Addr}{cs:List Value}(h:Row sz H a l cs)(hz:0<sz)(hS:∀b∈blkL a l,H'[b]?=H[b]?):Row sz H' a l cs:=by
 refine⟨h.1,?_⟩
 rcases Nat.eq_zero_or_pos l with rfl|hl
 ·left;have:=h.1;simpa using this
 ·obtain⟨b,o,rfl,hr⟩:=h.at (Nat.mul_pos hl hz)
  refine .inr ⟨b,o,rfl,rdL_congr hr fun j _ _=>?_⟩
  have:=hS b (by simp[blkL,blkOf,show l≠0 by omega])
  unfold rd;rw[this]
theorem Buf.modb {sz:Nat}{U:List Nat}{H H':Heap}{n:Nat}{a:Option Addr}{l c:Nat}{cells:List Value}(h:Buf sz H n a l c cells)(k:Mod U H H')(hb:∀b,a=some ⟨b,0,none⟩->0<c->b∉U):Buf sz H' n a l c cells:=by
 refine⟨h.len,h.le,?_⟩
 rcases Nat.eq_zero_or_pos c with rfl|hc
 ·left;simp
 ·refine h.ok.imp id ?_
  rintro⟨b,e,hn,hr,hw⟩
  exact⟨b,e,hn,k.rdL (hb b e hc) hr,k.wok (hb b e hc) hw⟩
theorem shape276:flatC (bodyC Tryz.f276)=[nthC (flatC (bodyC Tryz.f276)) 0,nthC (flatC (bodyC Tryz.f276)) 1,.block 0 (.loop L276)]:=by kernel_rfl
theorem shapeL276:flatC L276=[nthC (flatC L276) 0,nthC (flatC L276) 1,.block 1 K276,nthC (flatC L276) 3]:=by kernel_rfl
theorem shapeK276:flatC K276=[nthC (flatC K276) 0,.region 5 (opsOfC (nthC (flatC K276) 1)).toArray false,nthC (flatC K276) 2,nthC (flatC K276) 3,nthC (flatC K276) 4]:=by kernel_rfl
noncomputable def y276:Oper:=((opsOfC (nthC (flatC K276) 1))[3]?).getD default
theorem ops276:opsOfC (nthC (flatC K276) 1)=(opsOfC (nthC (flatC K276) 1)).take 3++(y276 :: (opsOfC (nthC (flatC K276) 1)).drop 4):=by kernel_rfl
theorem y276_op:y276.op=.call { callee:=.value (.tmp 17),args:=#[.tmp 19],argTypes:=#[74] }:=by kernel_rfl
theorem y276_dst:y276.dst=some 20:=by kernel_rfl
theorem y276_guard:y276.guard=none:=by kernel_rfl
set_option maxRecDepth 100000 in
theorem it276 {n:Nat}{t0:Tree}(hok:t0.Ok)(hfull:t0.Full)(hd:t0.depth<=8)(hlen:(t0.link 0).length<=4096)(Bs:Nat)(a:Option Addr)(l c:Nat) :
  IterC n Tryz.prog 276 [.pointer (some ⟨Bs,0,none⟩)] (fun H=>rd H Bs 0=some (.slice a l c)/\RowC H a l (t0.link 0)) (Bs ::blkL a l) ((fwSeen t0 []).map fun o=>[.agg (opC o).toArray]):=by
 intro lp J w V ⟨r0,hc⟩ hV hJ h0 hY
 have hB:Bs∉V:=fun h=>(hV _ h).2 (by simp)
 have hoff:0<l->Off V a:=off_of fun v hv h=>(hV v hv).2 (by simp[h])
 generalize hy:Value.func (.yield lp) #[] #[]=y
 have e:#[y]++[Value.pointer (some ⟨Bs,0,none⟩)].toArray=(denL [.op y,.ptr Bs 0]).toArray:=by simp[denL,SV.den]
 rw[e]
 refine callsIn_of_wp (c:=bodyC Tryz.f276) Tryz.func276 (by kernel_rfl) trivial (wpIn_flat ?_) rfl
 rw[shape276]
 have hA0:=start_agree (n:=55) (args:=[.op y,.ptr Bs 0]) (by simp)
 refine execL_sound (ro:=none) (n:=55) (ann:=nn) (w0:=w) (Z:=Zk [] (entry 0 [.op y,.ptr Bs 0])) [nthC (flatC (bodyC Tryz.f276)) 0,nthC (flatC (bodyC Tryz.f276)) 1] [.block 0 (.loop L276)] (entry 0 [.op y,.ptr Bs 0])
  (cutK [(3,.slc),(4,.int .i64)] fun al ll lc i H=>∃m,At2 t0 w.heap V J al ll lc i H m) _ w _ (goods mixed (by kernel_rfl)) (zks (by kernel_rfl)) (s276 _ _ _ _ ?_) hA0 (Same.refl w) ⟨rfl,hA0.at_⟩ ?_
 ·refine⟨_,0,t0,[],0,V,rfl,FwAt.start hok hfull hd,rfl,Nat.zero_le _,by simp[fwSeen,fwVis],rfl,by simp,Buf.nil,h0,Mod.refl,fun v hv=>⟨(hV v hv).1,.inl hv⟩,fun b _ h=>by omega⟩
 intro e fr a1 w1 hk hA1 hS1 hz1
 cases e with
 | exit id=>exact hk.elim
 | goto l=>exact hk.elim
 | ret=>exact hk.elim
 | normal=>
 obtain⟨al,ll,lc,d3,hk⟩:=app_slc hk
 obtain⟨i,d4,m,hk⟩:=app_int hk
 let I:Nat->Act->World->Prop:=fun m a w'=>Same w w'/\a.tmps.size=55/\Zk [] (entry 0 [.op y,.ptr Bs 0]) a/\∃al ll lc i,a.tmps[3]?=some (.slice al ll lc)/\a.tmps[4]?=some (.int .i64 i)/\At2 t0 w.heap V J al ll lc i w'.heap m
 refine wpIn_block (wpIn_loop_g I ?_ m a1 w1 ⟨hS1,hA1.size,hz1,al,ll,lc,i,hA1.at_ _ _ d3,hA1.at_ _ _ d4,hk⟩)
 rintro m a1 w1 ⟨hS1,hsz,hz1,al,ll,lc,i,t3,t4,hat⟩
 have hA1:Agree 55 [(3,.slc al ll lc),(4,.int .i64 i),(1,.ptr Bs 0),(0,.op y)] a1:=agree_cons (agree_cons (zk_agree hz1 hsz) t4) t3
 refine wpIn_flat ?_
 rw[shapeL276]
 have hf:=mid2 hJ hat r0 hc hB hoff (y:=y)
 unfold A276 at hf
 refine execL_sound (ro:=none) (n:=55) (ann:=nn) (w0:=w) (Z:=Zk [] [(3,.slc al ll lc),(4,.int .i64 i),(1,.ptr Bs 0),(0,.op y)]) [nthC (flatC L276) 0,nthC (flatC L276) 1] [.block 1 K276,nthC (flatC L276) 3] _ _ _ w1 _ (goods mixed (by kernel_rfl)) (zks (by kernel_rfl)) hf hA1 hS1 ⟨hz1.1,hA1.at_⟩ ?_
 intro e fr a2 w2 hk hA2 hS2 hz2
 cases e with
 | goto l=>exact hk.elim
 | ret=>exact hk.elim
 | exit id=>
  match id,hk with
  | 0,hk=>
   obtain⟨V',hj,hg⟩:=hk
   simp only[toExit,Exit.then,Exit.inBlock,if_true,chain]
   refine bodyPost_end (results_none (by kernel_rfl) _ _ _) hz2.1 ?_
   exact⟨⟨_,rfl⟩,hS2,V',by simpa using hj,hg⟩
 | normal=>
 refine wpIn_block (wpIn_flat ?_)
 rw[shapeK276]
 refine execL_sound (ro:=none) (n:=55) (ann:=nn) (w0:=w) (Z:=Zk [] [(3,.slc al ll lc),(4,.int .i64 i),(1,.ptr Bs 0),(0,.op y)]) [nthC (flatC K276) 0] [.region 5 (opsOfC (nthC (flatC K276) 1)).toArray false,nthC (flatC K276) 2,nthC (flatC K276) 3,nthC (flatC K276) 4] _ _ _ w2 _ (goods mixed (by kernel_rfl)) (zks (by kernel_rfl)) hk hA2 hS2 hz2 ?_
 intro e fr a2 w2 hk hA2 hS2 hz2
 cases e with
 | exit id=>exact hk.elim
 | goto l=>exact hk.elim
 | ret=>exact hk.elim
 | normal=>
 refine wpIn_region_list ?_
 rw[List.toList_toArray]
 conv=>arg 6;rw[ops276]
 refine opsE_part (ro:=none) (n:=55) (w0:=w) (Z:=Zk [] [(3,.slc al ll lc),(4,.int .i64 i),(1,.ptr Bs 0),(0,.op y)]) ?_ _ fr a2 w2 (dstOk_lt (n:=55) (ts:=[]) (by kernel_rfl)) (dstOk_zk (n:=55) (by kernel_rfl)) hk hA2 hS2 hz2
 intro fr a2 w2 hk hA2 hS2 hz2
 obtain⟨v17,d17,hk⟩:=app_val hk
 obtain⟨cs,d19,hk⟩:=app_agg hk
 obtain⟨p,o,d5,hk⟩:=app_ptr hk
 obtain⟨rfl,at_,F,k,V1,x,n1,rest,rfl,hlt,hn,rfl,rfl,s,hO,hpl,hpV,hbp⟩:=hk
 have g17:=hA2.at_ _ _ d17
 have g19:=hA2.at_ _ _ d19
 have g5:=hA2.at_ _ _ d5
 show (if Region.wanted y276 _ then _ else _)
 rw[if_pos (by unfold Region.wanted;rw[y276_guard])]
 have hxk:((fwSeen t0 []).map fun o=>[Value.agg (opC o).toArray])[k]?=some [.agg (opC x).toArray]:=by
  have h1:=congrArg List.head? s.seen
  rw[List.head?_drop] at h1
  simp[h1]
 refine yield_op (l:=lp) (args:=#[.agg (opC x).toArray]) (fun c hc=>by rw[y276_op] at hc;cases hc) ?_ (hY k V1 w2 _ hxk hS2 s.j fun v hv=>(s.v v hv).1) ?_
 ·rw[run_yield_op y276_op (by rw[eval_tmp g17];exact hy.symm)]
  have e1:(#[Operand.tmp 19].map a2.eval)=#[Value.agg (opC x).toArray]:=by simp[eval_tmp g19]
  rw[e1]
 rintro e w3 ⟨rfl,hS3,V3,hj3,hM3,hV3⟩
 refine⟨_,rfl,?_⟩
 rw[y276_dst]
 have hm3:Aft2 t0 w.heap V J al ll lc ((at_:Nat):Int) m p w3.heap:=by
  have hk1:k<(fwSeen t0 []).length:=by
   have h1:=congrArg List.length s.seen
   rw[List.length_drop,List.length_cons] at h1;omega
  refine⟨at_,F,k+1,V3,x,n1,rest,rfl,hlt,hn,⟨by omega,?_,s.hll,s.few,?_,hj3,?_,fun v hv=>⟨(hV3 v hv).1,?_⟩,fun b h1 h2=>?_⟩,hO.mod hM3 hpV,hbp⟩
  ·rw[<-List.drop_drop,s.seen];rfl
  ·exact s.buf.modb hM3 fun b h1 h2=>(s.own b h1 h2).2
  ·exact s.mod.trans_new hM3 fun v hv=>(s.v v hv).2
  ·rcases (hV3 v hv).2 with h|h
   ·exact (s.v v h).2
   ·exact .inr (Nat.le_trans s.mod.1 h)
  ·obtain⟨h3,h4⟩:=s.own b h1 h2
   refine⟨Nat.lt_of_lt_of_le h3 hM3.1,fun h=>?_⟩
   rcases (hV3 b h).2 with h|h
   ·exact h4 h
   ·omega
 have hg:=aft2 hJ hm3 hlen (Bs:=Bs) (y:=v17)
 unfold B276 at hg
 have hsz2:a2.tmps.size=55:=hA2.size
 have hz3:Zk [] [(3,.slc al ll lc),(4,.int .i64 ((at_:Nat):Int)),(1,.ptr Bs 0),(0,.op v17)] (a2.put (some 20) (.bool true)):=zk_put hz2 (by simp)
 have hA3:Agree 55 [(20,.tt),(5,.ptr p 0),(3,.slc al ll lc),(4,.int .i64 ((at_:Nat):Int)),(1,.ptr Bs 0),(0,.op v17)] (a2.put (some 20) (.bool true)):=by
  refine agree_cons (agree_cons (zk_agree hz3 (by simp[Act.put,hsz2])) ?_) ?_
  ·simp only[Act.put]
   rw[Array.getElem?_setIfInBounds_ne (by decide)]
   exact g5
  ·simp only[Act.put]
   rw[Array.getElem?_setIfInBounds_self_of_lt (by omega)]
   rfl
 have hz4:Zk [] [(1,.ptr Bs 0),(0,.op v17)] (a2.put (some 20) (.bool true)):=⟨hz3.1,fun t u hu=>hz3.2 t u (by
  rw[dl_set] at hu ⊢
  by_cases e1:t=1
  ·subst e1;rw[if_pos rfl] at hu;simp only[dl_set];simpa using hu
  ·rw[if_neg e1] at hu
   rw[dl_set] at hu
   by_cases e0:t=0
   ·subst e0;rw[if_pos rfl] at hu;simp only[dl_set];simpa using hu
   ·rw[if_neg e0] at hu;simp[dl,look] at hu)⟩
 have hs4:Same w w3:=hS3
 refine opsE_sound (ro:=none) (n:=55) (w0:=w) (Z:=Zk [] [(1,.ptr Bs 0),(0,.op v17)]) ?_ _ _ _ w3 (dstOk_lt (n:=55) (ts:=[]) (by kernel_rfl)) (dstOk_zk (n:=55) (by kernel_rfl)) (by rw[List.toList_toArray];exact hg) hA3 hs4 hz4
 intro fr4 a4 w4 hk hA4 hS4 hz4
 have hrest:∀fr a w',execL Tryz.prog nn [nthC (flatC L276) 3] fr w'.heap (cutK [(3,.slc),(4,.int .i64)] fun al ll lc i H=>∃m',m'<m/\At2 t0 w.heap V J al ll lc i H m')->Agree 55 fr a->Same w w'->Zk [] [(1,.ptr Bs 0),(0,.op v17)] a->
   chain Fence.wide n Tryz.prog [nthC (flatC L276) 3] (Exit.then (fun a' w'=>∃j',j'<m/\I j' a' w') (Exit.inBlock 0 (Exit.then (chain Fence.wide n Tryz.prog [] (bodyPost Tryz.prog Tryz.f276 fun e w'=>(∃v,e=.returned v)/\Same w w'/\∃V',J V' ((fwSeen t0 []).map fun o=>[Value.agg (opC o).toArray]).length w'.heap/\Grew V V' w.heap w'.heap)) (bodyPost Tryz.prog Tryz.f276 fun e w'=>(∃v,e=.returned v)/\Same w w'/\∃V',J V' ((fwSeen t0 []).map fun o=>[Value.agg (opC o).toArray]).length w'.heap/\Grew V V' w.heap w'.heap)))) a w':=by
  intro fr a w' hx hA hS hz
  have:=execL_sound (ro:=none) (rm:=n) (n:=55) (ann:=nn) (w0:=w) (Z:=Zk [] [(1,.ptr Bs 0),(0,.op v17)]) [nthC (flatC L276) 3] [] fr _ a w' (Exit.then (fun a' w'=>∃j',j'<m/\I j' a' w') (Exit.inBlock 0 (Exit.then (chain Fence.wide n Tryz.prog [] (bodyPost Tryz.prog Tryz.f276 fun e w'=>(∃v,e=.returned v)/\Same w w'/\∃V',J V' ((fwSeen t0 []).map fun o=>[Value.agg (opC o).toArray]).length w'.heap/\Grew V V' w.heap w'.heap)) (bodyPost Tryz.prog Tryz.f276 fun e w'=>(∃v,e=.returned v)/\Same w w'/\∃V',J V' ((fwSeen t0 []).map fun o=>[Value.agg (opC o).toArray]).length w'.heap/\Grew V V' w.heap w'.heap)))) (goods mixed (by kernel_rfl)) (zks (by kernel_rfl)) hx hA hS hz ?_
  ·exact this
  intro e fr5 a5 w5 hk hA5 hS5 hz5
  cases e with
  | exit id=>exact hk.elim
  | goto l=>exact hk.elim
  | ret=>exact hk.elim
  | normal=>
   obtain⟨al',ll',lc',d3,hk⟩:=app_slc hk
   obtain⟨i',d4,m',hm',hk⟩:=app_int hk
   exact⟨m',hm',hS5,hA5.size,hz5,al',ll',lc',i',hA5.at_ _ _ d3,hA5.at_ _ _ d4,hk⟩
 have:=execL_sound (ro:=none) (rm:=n) (n:=55) (ann:=nn) (w0:=w) (Z:=Zk [] [(1,.ptr Bs 0),(0,.op v17)]) [nthC (flatC K276) 2,nthC (flatC K276) 3,nthC (flatC K276) 4] [] fr4 _ a4 w4 (Exit.inBlock 1 (Exit.then (chain Fence.wide n Tryz.prog [nthC (flatC L276) 3] (Exit.then (fun a' w'=>∃j',j'<m/\I j' a' w') (Exit.inBlock 0 (Exit.then (chain Fence.wide n Tryz.prog [] (bodyPost Tryz.prog Tryz.f276 fun e w'=>(∃v,e=.returned v)/\Same w w'/\∃V',J V' ((fwSeen t0 []).map fun o=>[Value.agg (opC o).toArray]).length w'.heap/\Grew V V' w.heap w'.heap)) (bodyPost Tryz.prog Tryz.f276 fun e w'=>(∃v,e=.returned v)/\Same w w'/\∃V',J V' ((fwSeen t0 []).map fun o=>[Value.agg (opC o).toArray]).length w'.heap/\Grew V V' w.heap w'.heap))))) (Exit.then (fun a' w'=>∃j',j'<m/\I j' a' w') (Exit.inBlock 0 (Exit.then (chain Fence.wide n Tryz.prog [] (bodyPost Tryz.prog Tryz.f276 fun e w'=>(∃v,e=.returned v)/\Same w w'/\∃V',J V' ((fwSeen t0 []).map fun o=>[Value.agg (opC o).toArray]).length w'.heap/\Grew V V' w.heap w'.heap)) (bodyPost Tryz.prog Tryz.f276 fun e w'=>(∃v,e=.returned v)/\Same w w'/\∃V',J V' ((fwSeen t0 []).map fun o=>[Value.agg (opC o).toArray]).length w'.heap/\Grew V V' w.heap w'.heap)))))) (goods mixed (by kernel_rfl)) (zks (by kernel_rfl)) hk hA4 hS4 hz4 ?_
 ·exact this
 intro e fr5 a5 w5 hk hA5 hS5 hz5
 cases e with
 | goto l=>exact hk.elim
 | ret=>exact hk.elim
 | exit id=>
  match id,hk with
  | 1,hk=>exact hrest fr5 a5 w5 hk hA5 hS5 hz5
 | normal=>exact hrest fr5 a5 w5 hk hA5 hS5 hz5
end Go.VC
namespace Go.VC
open Go Go.Proofs Go.RowKit
theorem shape328:flatC (bodyC Tryz.f328)=[nthC (flatC (bodyC Tryz.f328)) 0,.block 0 (.loop L328)]:=by kernel_rfl
theorem shapeL328:flatC L328=[nthC (flatC L328) 0,nthC (flatC L328) 1,.block 1 K328,nthC (flatC L328) 3]:=by kernel_rfl
theorem shapeK328:flatC K328=[.region 3 (opsOfC (nthC (flatC K328) 0)).toArray false,nthC (flatC K328) 1]:=by kernel_rfl
noncomputable def y328:Oper:=((opsOfC (nthC (flatC K328) 0))[6]?).getD default
theorem ops328:opsOfC (nthC (flatC K328) 0)=(opsOfC (nthC (flatC K328) 0)).take 6++(y328 :: (opsOfC (nthC (flatC K328) 0)).drop 7):=by kernel_rfl
theorem y328_op:y328.op=.call { callee:=.value (.tmp 11),args:=#[.tmp 12,.tmp 16],argTypes:=#[3,3] }:=by kernel_rfl
theorem y328_dst:y328.dst=some 17:=by kernel_rfl
theorem y328_guard:y328.guard=none:=by kernel_rfl
def backs (zs:List Int):List (List Value):=(List.range zs.length).map fun k=>[.int .i64 ((zs.length-1-k:Nat):Int),.int .i64 (zs.getD (zs.length-1-k) 0)]
theorem backs_len (zs:List Int):(backs zs).length=zs.length:=by simp[backs]
theorem backs_get {zs:List Int}{k:Nat}(h:k<zs.length):(backs zs)[k]?=some [.int .i64 ((zs.length-1-k:Nat):Int),.int .i64 (zs.getD (zs.length-1-k) 0)]:=by simp[backs,h]
def At4 (zs:List Int)(H0:Heap)(V0:List Nat)(J:List Nat->Nat->Heap->Prop)(i:Int)(H:Heap)(m:Nat):Prop:=
 ∃k V,k<=zs.length/\i=(zs.length:Int)-1-k/\m=zs.length-k/\J V k H/\Grew V0 V H0 H
set_option maxRecDepth 100000 in
theorem it328 {n:Nat}{zs:List Int}(hlen:zs.length<=1099511627776)(Bs:Nat)(a:Option Addr)(c:Nat) :
  IterC n Tryz.prog 328 [.pointer (some ⟨Bs,0,none⟩)] (fun H=>rd H Bs 0=some (.slice a zs.length c)/\RowI H a zs.length zs) (Bs ::blkL a zs.length) (backs zs):=by
 intro lp J w V ⟨r0,hc⟩ hV hJ h0 hY
 have hB:Bs∉V:=fun h=>(hV _ h).2 (by simp)
 have hoff:0<zs.length->Off V a:=off_of fun v hv h=>(hV v hv).2 (by simp[h])
 generalize hy:Value.func (.yield lp) #[] #[]=y
 have e:#[y]++[Value.pointer (some ⟨Bs,0,none⟩)].toArray=(denL [.op y,.ptr Bs 0]).toArray:=by simp[denL,SV.den]
 rw[e]
 refine callsIn_of_wp (c:=bodyC Tryz.f328) Tryz.func328 (by kernel_rfl) trivial (wpIn_flat ?_) rfl
 rw[shape328]
 have hA0:=start_agree (n:=19) (args:=[.op y,.ptr Bs 0]) (by simp)
 refine execL_sound (ro:=none) (n:=19) (ann:=nn) (w0:=w) (Z:=Zk [] (entry 0 [.op y,.ptr Bs 0])) [nthC (flatC (bodyC Tryz.f328)) 0] [.block 0 (.loop L328)] (entry 0 [.op y,.ptr Bs 0])
  (cutK [(3,.int .i64)] fun i H=>∃m,At4 zs w.heap V J i H m) _ w _ (goods mixed (by kernel_rfl)) (zks (by kernel_rfl)) (s328 _ _ _ _ ?_) hA0 (Same.refl w) ⟨rfl,hA0.at_⟩ ?_
 ·exact⟨_,_,_,r0,by unfold I64;omega,_,0,V,Nat.zero_le _,by omega,rfl,h0,Mod.refl,fun v hv=>⟨(hV v hv).1,.inl hv⟩⟩
 intro e fr a1 w1 hk hA1 hS1 hz1
 cases e with
 | exit id=>exact hk.elim
 | goto l=>exact hk.elim
 | ret=>exact hk.elim
 | normal=>
 obtain⟨i,d3,m,hk⟩:=app_int hk
 let I:Nat->Act->World->Prop:=fun m a w'=>Same w w'/\a.tmps.size=19/\Zk [] (entry 0 [.op y,.ptr Bs 0]) a/\∃i,a.tmps[3]?=some (.int .i64 i)/\At4 zs w.heap V J i w'.heap m
 refine wpIn_block (wpIn_loop_g I ?_ m a1 w1 ⟨hS1,hA1.size,hz1,i,hA1.at_ _ _ d3,hk⟩)
 rintro m a1 w1 ⟨hS1,hsz,hz1,i,t3,k,V1,hkl,rfl,rfl,hj,hg⟩
 have hA1:Agree 19 [(3,.int .i64 ((zs.length:Int)-1-k)),(1,.ptr Bs 0),(0,.op y)] a1:=agree_cons (zk_agree hz1 hsz) t3
 refine wpIn_flat ?_
 rw[shapeL328]
 have hf:A328 Tryz.prog [(3,.int .i64 ((zs.length:Int)-1-k)),(1,.ptr Bs 0),(0,.op y)] w1.heap (fun H=>k=zs.length/\H=w1.heap) (fun v x1 x2 H=>v=y/\k<zs.length/\x1=(zs.length:Int)-1-k/\x2=zs.getD (zs.length-1-k) 0/\H=w1.heap):=by
  refine a328 _ _ _ _ _ _ ⟨fun hge=>?_,fun hlt=>⟨by omega,rfl⟩⟩
  obtain⟨b,o,eb,hr⟩:=(hg.1.rowz hoff hc).at (by omega)
  have hidx:Int.toNat ((zs.length:Int)-1-k)=zs.length-1-k:=by omega
  refine⟨_,_,_,hg.1.rd hB r0,b,o,eb,⟨hge,by omega⟩,_,rdL_get' hr (i64s_get (xs:=zs) (i:=Int.toNat ((zs.length:Int)-1-k)) (by omega)),rfl,by omega,rfl,?_,rfl⟩
  rw[List.getD_eq_getElem?_getD,List.getElem?_eq_getElem (by omega)]
  simp only[hidx,Option.getD_some]
 unfold A328 at hf
 refine execL_sound (ro:=none) (n:=19) (ann:=nn) (w0:=w) (Z:=Zk [] [(3,.int .i64 ((zs.length:Int)-1-k)),(1,.ptr Bs 0),(0,.op y)]) [nthC (flatC L328) 0,nthC (flatC L328) 1] [.block 1 K328,nthC (flatC L328) 3] _ _ _ w1 _ (goods mixed (by kernel_rfl)) (zks (by kernel_rfl)) hf hA1 hS1 ⟨hz1.1,hA1.at_⟩ ?_
 intro e fr a2 w2 hk hA2 hS2 hz2
 cases e with
 | goto l=>exact hk.elim
 | ret=>exact hk.elim
 | exit id=>
  match id,hk with
  | 0,hk=>
   obtain⟨hkz,hw⟩:=hk
   simp only[toExit,Exit.then,Exit.inBlock,if_true,chain]
   refine bodyPost_end (results_none (by kernel_rfl) _ _ _) hz2.1 ?_
   rw[hw,backs_len,<-hkz]
   exact⟨⟨_,rfl⟩,hS2,V1,hj,hg⟩
 | normal=>
 refine wpIn_block (wpIn_flat ?_)
 rw[shapeK328]
 refine wpIn_region_list ?_
 rw[List.toList_toArray]
 conv=>arg 6;rw[ops328]
 refine opsE_part (ro:=none) (n:=19) (w0:=w) (Z:=Zk [] [(3,.int .i64 ((zs.length:Int)-1-k)),(1,.ptr Bs 0),(0,.op y)]) ?_ _ fr a2 w2 (dstOk_lt (n:=19) (ts:=[]) (by kernel_rfl)) (dstOk_zk (n:=19) (by kernel_rfl)) hk hA2 hS2 hz2
 intro fr a2 w2 hk hA2 hS2 hz2
 obtain⟨v11,d11,hk⟩:=app_val hk
 obtain⟨x1,d12,hk⟩:=app_int hk
 obtain⟨x2,d16,hk⟩:=app_int hk
 obtain⟨rfl,hlt,rfl,rfl,hw2⟩:=hk
 have g11:=hA2.at_ _ _ d11
 have g12:=hA2.at_ _ _ d12
 have g16:=hA2.at_ _ _ d16
 show (if Region.wanted y328 _ then _ else _)
 rw[if_pos (by unfold Region.wanted;rw[y328_guard])]
 have hcast:((zs.length-1-k:Nat):Int)=(zs.length:Int)-1-k:=by omega
 refine yield_op (l:=lp) (args:=#[.int .i64 ((zs.length-1-k:Nat):Int),.int .i64 (zs.getD (zs.length-1-k) 0)]) (fun c hc=>by rw[y328_op] at hc;cases hc) ?_ (hY k V1 w2 _ (backs_get hlt) hS2 (hw2 ▸ hj) fun v hv=>by rw[hw2];exact (hg.2 v hv).1) ?_
 ·rw[run_yield_op y328_op (by rw[eval_tmp g11];exact hy.symm)]
  have e1:(#[Operand.tmp 12,Operand.tmp 16].map a2.eval)=#[.int .i64 ((zs.length-1-k:Nat):Int),.int .i64 (zs.getD (zs.length-1-k) 0)]:=by simp[eval_tmp g12,eval_tmp g16,hcast]
  rw[e1]
 rintro e w3 ⟨rfl,hS3,V3,hj3,hM3,hV3⟩
 refine⟨_,rfl,?_⟩
 rw[y328_dst]
 rw[hw2] at hM3 hV3
 have hat3:∃m',m'<zs.length-k/\At4 zs w.heap V J ((zs.length:Int)-1-k-1) w3.heap m':=by
  refine⟨_,by omega,k+1,V3,by omega,by omega,rfl,hj3,hg.1.trans_new hM3 fun v hv=>(hg.2 v hv).2,fun v hv=>⟨(hV3 v hv).1,?_⟩⟩
  rcases (hV3 v hv).2 with h|h
  ·exact (hg.2 v h).2
  ·exact .inr (Nat.le_trans hg.1.1 h)
 have hgB:B328 Tryz.prog [(17,.tt),(3,.int .i64 ((zs.length:Int)-1-k)),(1,.ptr Bs 0),(0,.op v11)] w3.heap (fun i H=>∃m',m'<zs.length-k/\At4 zs w.heap V J i H m'):=
  b328 _ _ _ _ _ ⟨by unfold I64;omega,hat3⟩
 unfold B328 at hgB
 have hsz2:a2.tmps.size=19:=hA2.size
 have hz3:Zk [] [(3,.int .i64 ((zs.length:Int)-1-k)),(1,.ptr Bs 0),(0,.op v11)] (a2.put (some 17) (.bool true)):=zk_put hz2 (by simp)
 have hA3:Agree 19 [(17,.tt),(3,.int .i64 ((zs.length:Int)-1-k)),(1,.ptr Bs 0),(0,.op v11)] (a2.put (some 17) (.bool true)):=by
  refine agree_cons (zk_agree hz3 (by simp[Act.put,hsz2])) ?_
  simp only[Act.put]
  rw[Array.getElem?_setIfInBounds_self_of_lt (by omega)]
  rfl
 have hz4:Zk [] [(1,.ptr Bs 0),(0,.op v11)] (a2.put (some 17) (.bool true)):=⟨hz3.1,fun t u hu=>hz3.2 t u (by
  rw[dl_set] at hu ⊢
  by_cases e1:t=1
  ·subst e1;rw[if_pos rfl] at hu;simp only[dl_set];simpa using hu
  ·rw[if_neg e1] at hu
   rw[dl_set] at hu
   by_cases e0:t=0
   ·subst e0;rw[if_pos rfl] at hu;simp only[dl_set];simpa using hu
   ·rw[if_neg e0] at hu;simp[dl,look] at hu)⟩
 refine opsE_sound (ro:=none) (n:=19) (w0:=w) (Z:=Zk [] [(1,.ptr Bs 0),(0,.op v11)]) ?_ _ _ _ w3 (dstOk_lt (n:=19) (ts:=[]) (by kernel_rfl)) (dstOk_zk (n:=19) (by kernel_rfl)) (by rw[List.toList_toArray];exact hgB) hA3 hS3 hz4
 intro fr4 a4 w4 hk hA4 hS4 hz4
 generalize hQ:(Exit.then (fun a' w'=>∃j',j'<zs.length-k/\I j' a' w') (Exit.inBlock 0 (Exit.then (chain Fence.wide n Tryz.prog [] (bodyPost Tryz.prog Tryz.f328 fun e w'=>(∃v,e=.returned v)/\Same w w'/\∃V',J V' (backs zs).length w'.heap/\Grew V V' w.heap w'.heap)) (bodyPost Tryz.prog Tryz.f328 fun e w'=>(∃v,e=.returned v)/\Same w w'/\∃V',J V' (backs zs).length w'.heap/\Grew V V' w.heap w'.heap))))=Q
 have hn:∀a' w',(∃j',j'<zs.length-k/\I j' a' w')->Q .normal a' w':=by rw[<-hQ];exact fun _ _ h=>h
 have:=execL_sound (ro:=none) (rm:=n) (n:=19) (ann:=nn) (w0:=w) (Z:=Zk [] [(1,.ptr Bs 0),(0,.op v11)]) [nthC (flatC K328) 1] [] fr4 _ a4 w4 (Exit.inBlock 1 (Exit.then (chain Fence.wide n Tryz.prog [nthC (flatC L328) 3] Q) Q)) (goods mixed (by kernel_rfl)) (zks (by kernel_rfl)) hk hA4 hS4 hz4 ?_
 ·rw[<-hQ] at this;exact this
 intro e fr5 a5 w5 hk hA5 hS5 hz5
 cases e with
 | goto l=>exact hk.elim
 | ret=>exact hk.elim
 | exit id=>exact hk.elim
 | normal=>
 have h2:=execL_sound (ro:=none) (rm:=n) (n:=19) (ann:=nn) (w0:=w) (Z:=Zk [] [(1,.ptr Bs 0),(0,.op v11)]) [nthC (flatC L328) 3] [] fr5 _ a5 w5 Q (goods mixed (by kernel_rfl)) (zks (by kernel_rfl)) hk hA5 hS5 hz5 ?_
 ·exact h2
 intro e fr6 a6 w6 hk hA6 hS6 hz6
 cases e with
 | exit id=>exact hk.elim
 | goto l=>exact hk.elim
 | ret=>exact hk.elim
 | normal=>
  obtain⟨i',d3,m',hm',hk⟩:=app_int hk
  exact hn a6 w6 ⟨m',hm',hS6,hA6.size,hz6,i',hA6.at_ _ _ d3,hk⟩
end Go.VC
namespace Go.VC
open Go Go.Proofs Go.RowKit
theorem shape156:flatC (bodyC Tryz.f156)=[F156 0,F156 1,F156 2,F156 3,F156 4,F156 5,.block 0 RF156,F156 7,F156 8]:=by kernel_rfl
theorem shapeR156:RF156=.rangeFunc (.tmp 17) #[18] (assignOfC RF156) (roundOfC RF156):=by kernel_rfl
theorem mem_blkL {a:Option Addr}{b l:Nat}(h:a=some ⟨b,0,none⟩)(hl:0<l):b∈blkL a l:=by
 subst h;simp[blkL,blkOf];omega
theorem of_blkL {a:Option Addr}{b v l:Nat}(h:a=some ⟨b,0,none⟩)(hv:v∈blkL a l):0<l/\v=b:=by
 subst h
 unfold blkL at hv
 split at hv
 ·simp at hv
 ·simp[blkOf] at hv;exact⟨by omega,hv⟩
def nb (o:Op):Bool:=!(Tree.brk o)
def J156 (xs:List Op)(N B:Nat):List Nat->Nat->Heap->Prop:=fun V k H=>
 B∈V/\∃a c,Own H B [.slice a ((xs.take k).filter nb).length c]/\Buf 5 H N a ((xs.take k).filter nb).length c (opsC ((xs.take k).filter nb))/\∀b,a=some ⟨b,0,none⟩->0<c->b∈V/\b≠B
theorem J156_frame {xs:List Op}{N B:Nat}(M:Nat):FrameJ M (J156 xs N B):=by
 rintro V k H U H' ⟨hB,a,c,ho,hb,hv⟩ m hu _
 exact⟨hB,a,c,ho.mod m (hu B hB).2,hb.modb m fun b h1 h2=>(hu b (hv b h1 h2).1).2,hv⟩
theorem opsC_cons (l:List Op)(o:Op):opsC (l++[o])=opsC l++opC o:=by simp[opsC]
set_option maxRecDepth 100000 in
theorem round156 {xs:List Op}{N B:Nat}{V:List Nat}{k:Nat}{H:Heap}{o:Op}{lp:Nat}(hN:N<=H.size)(hx:xs[k]?=some o)(hj:J156 xs N B V k H)(hV:∀v∈V,v<H.size)(hl:lp<H.size)(hlV:lp∉V)(few:(xs.filter nb).length<=65536) :
  R156 Tryz.prog [(18,.agg (opC o)),(6,.ptr B 0)] H (fun H1=>Mod V H H1) (fun H1 H2=>Mod [lp] H1 H2) (fun H2 H3=>Mod V H2 H3/\∃V',J156 xs N B V' (k+1) H3/\∀v∈V',v<H3.size/\(v∈V\/H.size<=v)):=by
 refine r156 _ _ _ _ _ _ fun H1 p n1=>⟨rfl,opC_one,n1.own.w 0 5 rfl,fun H2 h2=>?_⟩
 obtain⟨e2,o2⟩:=tmpE (cs:=opC o) n1 rfl h2
 have hp:=n1.ge
 have hpl:p<H2.size:=o2.lt (by simp[opC])
 refine⟨e2.mono (by simp),fun H3 m3=>?_⟩
 have hz2:=e2.1
 have hz3:=m3.1
 have o3:=o2.mod m3 (by simp;omega)
 have hj3:J156 xs N B V k H3:=J156_frame 0 _ _ _ _ _ (J156_frame 0 _ _ _ _ _ hj e2 (fun v hv=>⟨hV v hv,by simp⟩) (by simp)) m3 (fun v hv=>⟨by have:=hV v hv;omega,by simp;rintro rfl;exact hlV hv⟩) (by simp)
 have hpV:p∉V:=fun h=>by have:=hV p h;omega
 have hstep:xs.take (k+1)=xs.take k++[o]:=by
  obtain⟨hk,e⟩:=List.getElem?_eq_some_iff.1 hx
  rw[List.take_succ_eq_append_getElem hk,e]
 have hstay:nb o=false->J156 xs N B V (k+1) H3:=fun h=>by
  obtain⟨hB,a,c,ho,hb,hv⟩:=hj3
  have e:(xs.take (k+1)).filter nb=(xs.take k).filter nb:=by rw[hstep,List.filter_append];simp[h]
  rw[<-e] at ho hb
  exact⟨hB,a,c,ho,hb,hv⟩
 have stay:nb o=false->Mod V H3 H3/\∃V',J156 xs N B V' (k+1) H3/\∀v∈V',v<H3.size/\(v∈V\/H.size<=v):=fun h=>⟨Mod.refl,V,hstay h,fun v hv=>⟨by have:=hV v hv;omega,.inl hv⟩⟩
 have hkd:=o3.rd 0 rfl
 refine⟨_,hkd,fun h7=>⟨_,hkd,fun h0=>?_,fun h0=>stay ?_⟩,fun h7=>stay ?_⟩
 ·obtain⟨hB,a,c,ho,hb,hv⟩:=hj3
  have hBl:=hV B hB
  have hle:((xs.take k).filter nb).length<=65536:=Nat.le_trans ((List.take_sublist k xs).filter nb).length_le few
  refine⟨_,_,_,ho.rd 0 rfl,opC o,rfl,o3.1,rfl,fun H4 q n4=>⟨opC o,rfl,.inr ⟨q,0,rfl,by have:=n4.rdL;rwa [List.append_nil] at this⟩,?_⟩⟩
  refine (hb.ext n4.mod).app' (by have:=n4.mod.1;omega) rfl rfl opC_one (by omega) (by omega) fun a' c' H5 S b5 m5 hS ha'=>?_
  have hSV:∀x∈S,x∈V/\x≠B:=fun x hx=>hv x (hS x hx).2.2 (hS x hx).2.1
  have o5:=(ho.mod n4.mod (by simp)).mod m5 fun h=>(hSV B h).2 rfl
  refine⟨o5.w 0 1 rfl,fun H6 h6=>?_⟩
  have o6:Own H6 B [.slice a' (((xs.take k).filter nb).length+1) c']:=by rw[h6];exact o5.wr 0 _
  have m6:Mod [B] H5 H6:=wrM h6
  have hz4:=n4.mod.1
  have hz5:=m5.1
  have hz6:=m6.1
  have hne:∀b,a'=some ⟨b,0,none⟩->0<c'->(b∈V\/H3.size<=b)/\b≠B/\b<H5.size:=fun b h1 h2=>by
   have hbl:b<H5.size:=by
    rcases b5.ok with h0|⟨b2,e,_,_,hw⟩
    ·omega
    ·rw[e] at h1;cases h1;exact rdsome_lt (hw 0 (by omega)).1
   rcases ha' with ⟨rfl,rfl⟩|⟨p',rfl,hp'⟩
   ·exact⟨.inl (hv b h1 h2).1,(hv b h1 h2).2,hbl⟩
   ·cases h1;exact⟨.inr (by omega),by omega,hbl⟩
  have hmod:Mod V H3 H6:=by
   refine (Mod.mono (n4.mod.mono (by simp):Mod V H3 H4) fun x h=>h).trans ((m5.mono fun x hx=>(hSV x hx).1).trans (m6.mono fun x hx=>by simp at hx;subst hx;exact hB))
  refine⟨hmod,V++blkL a' c',⟨by simp[hB],a',c',?_,?_,fun b h1 h2=>⟨List.mem_append.2 (.inr (mem_blkL h1 h2)),(hne b h1 h2).2.1⟩⟩,fun v hv'=>?_⟩
  ·have e:(xs.take (k+1)).filter nb=(xs.take k).filter nb++[o]:=by rw[hstep,List.filter_append];simp[nb,Tree.brk,h7,h0]
   rw[e,List.length_append];exact o6
  ·have e:(xs.take (k+1)).filter nb=(xs.take k).filter nb++[o]:=by rw[hstep,List.filter_append];simp[nb,Tree.brk,h7,h0]
   rw[e,List.length_append,opsC_cons]
   exact b5.modb m6 fun b h1 h2=>by simp;exact (hne b h1 h2).2.1
  ·rw[List.mem_append] at hv'
   rcases hv' with hv'|hv'
   ·exact⟨by have:=hV v hv';omega,.inl hv'⟩
   ·rcases b5.ok with h0'|⟨b2,e,_,_,hw⟩
    ·have:c'=0:=by omega
     subst this
     simp[blkL] at hv'
    ·obtain⟨h1,rfl⟩:=of_blkL e hv'
     obtain⟨h1,_,h3⟩:=hne _ e h1
     exact⟨by omega,h1.imp id fun h=>by omega⟩
 ·have:o.kind=0:=Classical.not_not.1 h0
  simp[nb,Tree.brk,this]
 ·have:o.kind=7:=Classical.not_not.1 h7
  simp[nb,Tree.brk,this]
theorem seen_few {t:Tree}(h:t.Ok):((fwSeen t []).filter nb)=t.unroll:=by
 have:=Tree.visit_unroll h
 simp only[fwSeen,fwVis,List.append_nil]
 exact this
set_option maxRecDepth 100000 in
theorem c156 {H:Heap}{R:Value->Heap->Prop}{p:Prog}{a:Option Addr}{l c:Nat}(h:RowO H a l p.ops)(hl:l<=4398046511104){t:Tree}(g:GoodP p t)
  (k:∀a' c' H',Buf 5 H' H.size a' t.size c' (opsC t.unroll)->Ext H H'->R (.tuple #[.slice a' t.size c',.int .i64 0]) H'):Ru 156 [.agg (progC p a l c).toArray] H R:=by
 refine runs_marks (fn:=Tryz.f156) (c:=bodyC Tryz.f156) Tryz.func156 (by kernel_rfl) fun w hw=>?_
 subst hw
 refine wpIn_flat ?_
 rw[shape156]
 have pok:=Tree.ok_prune g.ok
 have pfull:=Tree.full_prune t
 have pd:t.prune.depth<=8:=Nat.le_trans (Tree.depth_prune t) g.depth
 have plen:(t.prune.link 0).length<=4096:=by
  rw[Tree.link_length]
  have:=Tree.len_prune t
  have h1:=g.form.1
  rw[<-g.flat] at h1;omega
 have pun:t.prune.unroll=t.unroll:=Tree.unroll_prune t
 have psz:t.unroll.length=t.size:=t.size_eq.symm
 have hf:P156 Tryz.prog (entry 0 [.agg (progC p a l c)]) w.heap R (fun B o v H'=>o=0/\∃Bs ac lc cc,v=.func (.func 276) #[] #[.pointer (some ⟨Bs,0,none⟩)]/\Own H' B [.slice none 0 0]/\rd H' Bs 0=some (.slice ac lc cc)/\RowC H' ac lc (t.prune.link 0)/\Ext w.heap H'/\w.heap.size<=B/\B≠Bs/\B∉blkL ac lc):=by
  refine p156 _ _ _ _ fun H1 q n1=>⟨progC p a l c,rfl,n1.rdL,c216 (Ext.row n1.mod h) hl g fun ac lc cc H2 hB e2=>⟨_,_,_,_,rfl,fun h'=>(h' rfl).elim,fun _ H3 B n3=>v217 _ _ _ fun H4 Bs n4=>⟨rfl,Bs,ac,lc,cc,rfl,n3.own.mod n4.mod (by simp),n4.rd 0,Ext.row (n3.mod.thenExt n4.mod) hB.row,(n1.mod.thenExt e2).thenExt (n3.mod.thenExt n4.mod),?_,?_,fun h'=>?_⟩⟩⟩
  ·have:=n3.ge;have:=(n1.mod.thenExt e2).1;omega
  ·have:=n3.lt;have:=n4.ge;omega
  ·have:=blkL_lt hB.row (by omega) B h'
   have:=n3.ge;omega
 unfold P156 at hf
 have hA0:=start_agree (n:=32) (args:=[.agg (progC p a l c)]) (by simp)
 have e0:[Value.agg (progC p a l c).toArray].toArray=(denL [.agg (progC p a l c)]).toArray:=by simp[denL,SV.den]
 rw[e0]
 refine execL_sound (ro:=none) (n:=32) (ann:=nn) (w0:=w) (Z:=Zk [] []) [F156 0,F156 1,F156 2,F156 3,F156 4,F156 5] [.block 0 RF156,F156 7,F156 8] (entry 0 [.agg (progC p a l c)]) _ _ w _ (goods mixed (by kernel_rfl)) (zks (by kernel_rfl)) hf hA0 (Same.refl w) ⟨rfl,fun t u hu=>by simp[dl,look] at hu⟩ ?_
 intro e fr a1 w1 hk hA1 hS1 hz1
 cases e with
 | exit id=>exact hk.elim
 | goto l=>exact hk.elim
 | ret=>exact⟨.inr rfl,hS1,.inl ⟨hz1.1,fr,hA1.at_,hk⟩⟩
 | normal=>
 obtain⟨B,o,d6,hk⟩:=app_ptr hk
 obtain⟨v17,d17,hk⟩:=app_val hk
 obtain⟨rfl,Bs,ac,lc,cc,rfl,oB,rBs,hC,e01,hB0,hBBs,hBac⟩:=hk
 have hBl:B<w1.heap.size:=oB.lt (by simp)
 refine wpIn_block ?_
 rw[shapeR156]
 have few:((fwSeen t.prune []).filter nb).length<=65536:=by rw[seen_few pok,pun,psz];exact g.few
 refine wpIn_rf (n:=5) (a:=a1) (w:=w1) (S:=Bs ::blkL ac lc) (V0:=[B]) (eval_tmp (hA1.at_ _ _ d17)) (fun args w=>callable_run (by kernel_rfl) args w) (it276 pok pfull pd plen Bs ac lc cc) ⟨rBs,hC⟩ ?_ ?_ ?_ ?_ (J156 (fwSeen t.prune []) w.heap.size B) (J156_frame _) ?_ ?_ ?_
 ·rintro H1 H2 ⟨h1,h2⟩ hS
  refine⟨?_,row_stay h2 (by omega) fun b hb=>hS b (by simp[hb])⟩
  unfold rd at h1 ⊢
  rw[hS Bs (by simp)];exact h1
 ·intro b hb
  simp only[List.mem_cons] at hb
  rcases hb with rfl|hb
  ·exact rd_lt rBs
  ·exact blkL_lt hC (by omega) b hb
 ·intro x hx
  simp only[List.mem_map] at hx
  obtain⟨o,_,rfl⟩:=hx
  rfl
 ·intro v hv
  simp at hv;subst hv
  exact⟨hBl,by simp[hBBs,hBac]⟩
 ·exact⟨by simp,none,0,oB,Buf.nil,fun b h=>by cases h⟩
 ·
  intro lp k V W x hlp hlpl hlpV hx hsW hj hV
  rw[List.getElem?_map] at hx
  obtain⟨o,ho,rfl⟩:=Option.map_eq_some_iff.1 hx
  have hr:=round156 (lp:=lp) (Nat.le_trans e01.1 (Nat.le_trans (Nat.le_refl _) (by omega))) ho hj hV hlpl hlpV few
  unfold R156 at hr
  have hAr:Agree 32 [(18,.agg (opC o)),(6,.ptr B 0)] { tmps:=(#[18].zip #[Value.agg (opC o).toArray]).foldl (fun t (p,v)=>t.setIfInBounds p v) a1.tmps,defers:=[] }:=by
   have hs:=hA1.size
   have ef:∀v:Value,(#[18].zip #[v]).foldl (fun (t:Array Value) (x:Nat × Value)=>match x with|(p,v)=>t.setIfInBounds p v) a1.tmps=a1.tmps.setIfInBounds 18 v:=fun v=>by simp
   rw[ef]
   refine agree_cons (agree_cons (agree_nil (by simp[hs])) ?_) ?_
   ·show ((a1.tmps).setIfInBounds 18 _)[6]?=_
    rw[Array.getElem?_setIfInBounds_ne (by decide)]
    exact hA1.at_ _ _ d6
   ·show ((a1.tmps).setIfInBounds 18 _)[18]?=_
    rw[Array.getElem?_setIfInBounds_self_of_lt (by omega)]
    rfl
  refine (good_all (ro:=some lp) (rm:=5-1-1) (n:=32) (ann:=nn) mixed w1 (assignOfC RF156) (wbC_wb (by kernel_rfl))).whole (Zk [] []) _ _ _ W _ (zk_zc (by kernel_rfl)) hr hAr hsW ⟨rfl,fun t u hu=>by simp[dl,look] at hu⟩ ?_
  intro e fr a2 w2 hk hA2 hS2 hz2
  cases e with
  | exit id=>exact hk.elim
  | goto l=>exact hk.elim
  | ret=>exact hk.elim
  | normal=>
  refine⟨hS2,hk.1,fun W2 hS3 m3=>?_⟩
  refine (good_all (ro:=some lp) (rm:=5-1-1) (n:=32) (ann:=nn) mixed w1 (roundOfC RF156) (wbC_wb (by kernel_rfl))).whole (Zk [] []) _ _ _ W2 _ (zk_zc (by kernel_rfl)) (hk.2 W2.heap m3) hA2 hS3 hz2 ?_
  intro e fr a3 w3 hk hA3 hS3 hz3
  cases e with
  | exit id=>exact hk.elim
  | goto l=>exact hk.elim
  | ret=>exact hk.elim
  | normal=>exact⟨rfl,hS3,hk.1,hk.2⟩
 ·
  intro D V W hD hDV hsW hj hM hV hDd
  have hDB:D≠B:=by omega
  obtain⟨hBV,ao,co,oB',hBuf,hv⟩:=hj
  rw[List.length_map,List.take_of_length_le (Nat.le_refl _),seen_few pok,pun,psz] at oB' hBuf
  have eW:Ext w.heap W.heap:=e01.trans_new hM (by simpa using hB0)
  have hfS:S156 Tryz.prog [(6,.ptr B 0)] W.heap (fun H1=>H1=W.heap) (fun H1 H2=>Mod [D] W.heap H2) R:=by
   refine s156 _ _ _ _ _ ⟨_,_,_,oB'.rd 0 rfl,rfl,fun H' m=>k _ _ _ (hBuf.modb m fun b h1 h2=>?_) (eW.trans_new m (by have:=e01.1;simp;omega))⟩
   simp;rintro rfl;exact hDV (hv _ h1 h2).1
  unfold S156 at hfS
  have hAs:Agree 32 [(6,.ptr B 0)] { a1 with defers:={ target:=.collected D,args:=#[] } ::a1.defers }:=agree_cons (agree_nil hA1.size) (hA1.at_ _ _ d6)
  refine execL_sound (ro:=none) (n:=32) (ann:=nn) (w0:=w) (Z:=Zk [{ target:=.collected D,args:=#[] }] []) [F156 7,F156 8] [] _ _ _ W _ (goods mixed (by kernel_rfl)) (zks (by kernel_rfl)) hfS hAs (hS1.trans hsW) ⟨by rw[hz1.1],fun t u hu=>by simp[dl,look] at hu⟩ ?_
  intro e fr a5 w5 hk hA5 hS5 hz5
  cases e with
  | exit id=>exact hk.elim
  | goto l=>exact hk.elim
  | normal=>exact⟨.inl rfl,hS5,.inr ⟨D,hz5.1,by rw[hk.1];exact hDd,fr,hA5.at_,by rw[hk.1];exact hk.2⟩⟩
  | ret=>exact⟨.inr rfl,hS5,.inr ⟨D,hz5.1,by rw[hk.1];exact hDd,fr,hA5.at_,by rw[hk.1];exact hk.2⟩⟩
end Go.VC
namespace Go.VC
open Go Go.Proofs
variable {H:Heap}{R:Value->Heap->Prop}
def bls (l:List Bool):List Value:=l.map .bool
@[simp] theorem bls_length (l:List Bool):(bls l).length=l.length:=by simp[bls]
theorem bls_get {l:List Bool}{i:Nat}(h:i<l.length):(bls l)[i]?=some (.bool l[i]):=by simp[bls,h]
theorem bls_set (l:List Bool)(i:Nat)(x:Bool):(bls l).set i (.bool x)=bls (l.set i x):=by simp[bls,List.map_set]
theorem bit_at {a:Option Addr}{l:Nat}{nd:List Bool}(h:Row 1 H a l (bls nd)){i:Int}(h0:0<=i)(h1:i<l){K:Bool->Prop}(hk:K (nd.getD i.toNat false)):∃b o,At a b o/\(0<=i/\i<l)/\∃c,rd H b (o+i.toNat)=some (.bool c)/\K c:=by
 have hl:nd.length=l:=by have:=h.1;simpa using this
 obtain⟨b,o,e,hr⟩:=h.at (by omega)
 refine⟨b,o,e,⟨h0,h1⟩,_,rdL_get' hr (bls_get (i:=i.toNat) (by omega)),?_⟩
 have:nd.getD i.toNat false=nd[i.toNat]'(by omega):=by rw[List.getD_eq_getElem?_getD,List.getElem?_eq_getElem (by omega)];rfl
 rwa [this] at hk
theorem c128 (o:Op)(k:∀H',Ext H H'->R (.bool (Tree.brk o)) H'):Ru 128 [.agg (opC o).toArray] H R:=by
 refine v128 (opC o) fun H1 p n1=>⟨_,n1.rd 0,fun h7=>?_,fun h7=>⟨_,n1.rd 0,?_⟩⟩
 ·have:=k H1 n1.mod
  unfold Tree.brk at this
  rw[h7] at this
  simpa using this
 ·have:=k H1 n1.mod
  unfold Tree.brk at this
  rw[decide_eq_false h7,Bool.false_or] at this
  exact this
theorem c127 {i p2 p:Nat}{an ao:Option Addr}{nd:List Bool}{ln cn co:Nat}{ops:List Op}(h1:rd H p2 0=some (.slice an ln cn))(hn:Row 1 H an ln (bls nd))(h2:rd H p 1=some (.slice ao ops.length co))(ho:RowO H ao ops.length ops)(hi:i<ops.length)(hl:i<ln)
  (k:∀H',Ext H H'->R (.bool (nd.getD i false || Tree.brk (ops[i]'hi))) H'):Ru 127 [.int .i64 (i:Int),.pointer (some ⟨p2,0,none⟩),.pointer (some ⟨p,0,none⟩)] H R:=by
 refine v127 _ _ _ _ _ ⟨_,_,_,h1,bit_at hn (i:=(i:Int)) (by omega) (by omega) ⟨fun hc=>?_,fun hc=>⟨_,_,_,by rw[Nat.zero_add];exact h2,?_⟩⟩⟩
 ·have:=k H Mod.refl
  rw[Int.toNat_natCast] at hc
  rw[hc] at this;exact this
 ·obtain⟨b,o,e,hr⟩:=RowO.rdL ho (i:=(i:Int)) (by omega) (by omega)
  simp only[Int.toNat_natCast] at hr hc ⊢
  refine⟨b,o,e,⟨by omega,by omega⟩,_,rfl,hr,c128 _ fun H1 e1=>⟨_,rfl,?_⟩⟩
  have:=k H1 e1
  rw[hc,Bool.false_or] at this;exact this
theorem c132 {i p2:Nat}{an:Option Addr}{nd:List Bool}{ln cn:Nat}(h1:rd H p2 0=some (.slice an ln cn))(hn:Row 1 H an ln (bls nd))(hl:i<ln)(k:R (.bool !(nd.getD i false)) H):Ru 132 [.int .i64 (i:Int),.pointer (some ⟨p2,0,none⟩)] H R:=
 v132 _ _ _ ⟨_,_,_,h1,bit_at hn (i:=(i:Int)) (by omega) (by omega) k⟩
theorem c126 {a:Option Addr}{l c:Nat}{ops:List Op}(h:RowO H a l ops)(hl:l<=4096)(g:FuncId)(u v:Array Value)(hg:callable Tryz.prog g=true)(f:Nat->Op->Bool)
  (hf:∀(i:Nat) (hi:i<ops.length) H' (K:Value->Heap->Prop),Ext H H'->(∀H'',Ext H' H''->K (.bool (f i ops[i])) H'')->Ru g (u.toList++[.int .i64 (i:Int)]++v.toList) H' K)
  (k:∀a' c' H',Buf 5 H' H.size a' (Tree.sieve f ops 0).length c' (opsC (Tree.sieve f ops 0))->Ext H H'->R (.slice a' (Tree.sieve f ops 0).length c') H'):Ru 126 [.slice a l c,.func (.func g) u v] H R:=by
 have hlen:=h.len
 refine v126 _ _ _ _ ⟨fun a' l' c' n H'=>∃i:Nat,n=i/\i<=l/\l'=(Tree.sieve f (ops.take i) 0).length/\Buf 5 H' H.size a' l' c' (opsC (Tree.sieve f (ops.take i) 0))/\Ext H H',fun _ _ _ n _=>(l-n).toNat,⟨0,rfl,by omega,rfl,Buf.nil,Mod.refl⟩,?_⟩
 rintro H1 a1 _ c1 _ ⟨i,rfl,hil,rfl,hB,e1⟩
 refine⟨fun hlt=>?_,fun hge=>?_⟩
 ·have hi:i<ops.length:=by omega
  obtain⟨b,o,e,hr⟩:=RowO.rdL (e1.row h) (i:=i) (by omega) hlt
  simp only[Int.toNat_natCast] at hr
  have hstep:Tree.sieve f (ops.take (i+1)) 0=Tree.sieve f (ops.take i) 0++(if f i ops[i] then [ops[i]] else []):=by
   have e:(ops.take i).length=i:=by simp;omega
   rw[List.take_succ_eq_append_getElem hi,Tree.sieve_append,e,Nat.zero_add]
   rfl
  have hfew:=Tree.sieve_len f (ops.take i) 0
  rw[List.length_take] at hfew
  refine⟨b,o,e,⟨by omega,hlt⟩,_,rfl,hr,fun H2 p n2=>⟨rfl,opC_one,n2.own.w 0 5 rfl,fun H3 h3=>?_⟩⟩
  obtain⟨e3,o3⟩:=tmpE (cs:=opC ops[i]) n2 rfl h3
  have e13:=e1.thenExt e3
  refine⟨g,u,v,rfl,hg,hf i hi H3 _ e13 fun H4 e4=>⟨_,rfl,fun ht=>?_,fun ht=>?_⟩⟩
  ·refine⟨_,rfl,e4.rdL (by simp) o3.1,rfl,fun H5 q n5=>⟨opC ops[i],rfl,.inr ⟨q,0,rfl,by have:=n5.rdL;rwa [List.append_nil] at this⟩,?_⟩⟩
   have e15:=(e3.thenExt e4).new n5
   refine (hB.ext e15).app (e1.thenExt e15).1 rfl rfl (opC_one) (by omega) (by omega) fun a6 c6 H6 S6 b6 m6 hS6=>⟨⟨by omega,by omega⟩,⟨i+1,by push_cast;rfl,by omega,?_,?_,(e1.thenExt e15).trans_new m6 fun x hx=>.inr (hS6 x hx)⟩,by dsimp only;omega⟩
   ·rw[hstep,ht];simp
   ·rw[hstep,ht]
    simp only[if_true]
    have:opsC (Tree.sieve f (ops.take i) 0++[ops[i]])=opsC (Tree.sieve f (ops.take i) 0)++opC ops[i]:=by simp[opsC]
    rw[this];exact b6
  ·refine⟨⟨by omega,by omega⟩,⟨i+1,by push_cast;rfl,by omega,?_,?_,e13.thenExt e4⟩,by dsimp only;omega⟩
   ·rw[hstep,ht];simp
   ·rw[hstep,ht]
    simp only[Bool.false_eq_true,if_false,List.append_nil]
    exact hB.ext (e3.thenExt e4)
 ·have:i=ops.length:=by omega
  subst this
  rw[List.take_length] at hB ⊢
  exact k _ _ _ hB e1
end Go.VC
namespace Go.VC
open Go Go.Proofs
structure Seg (ops:List Op)(m:List Int)(i:Nat)(t:Tree):Prop where
 o:∃p s,ops=p++(t.flat++s)/\p.length=i
 m:∃p s,m=p++(matchT t i++s)/\p.length=i
theorem Seg.top (t:Tree):Seg t.flat (matchT t 0) 0 t:=⟨⟨[],[],by simp,rfl⟩,⟨[],[],by simp,rfl⟩⟩
theorem at_mid {α:Type}{l p s:List α}{x:α}{i:Nat}(h:l=p++x ::s)(hi:p.length=i):l[i]?=some x:=by subst h;subst hi;simp
theorem Seg.lt {ops:List Op}{m:List Int}{i:Nat}{t:Tree}(h:Seg ops m i t):i+t.flat.length<=ops.length/\i+t.flat.length<=m.length:=by
 obtain⟨⟨p,s,e,hp⟩,⟨p',s',e',hp'⟩⟩:=h
 rw[e,e'];simp[matchT_length];omega
theorem Seg.op {ops:List Op}{m:List Int}{i:Nat}{o:Op}{r:Tree}(h:Seg ops m i (.op o r)):ops[i]?=some o/\m[i]?=some (-1)/\Seg ops m (i+1) r:=by
 obtain⟨⟨p,s,e,hp⟩,⟨p',s',e',hp'⟩⟩:=h
 simp only[Tree.flat,matchT,List.cons_append] at e e'
 exact⟨at_mid e hp,at_mid e' hp',⟨p++[o],s,by rw[e];simp,by simp[hp]⟩,⟨p'++[-1],s',by rw[e'];simp,by simp[hp']⟩⟩
theorem Seg.rep {ops:List Op}{m:List Int}{i:Nat}{o e:Op}{b r:Tree}(h:Seg ops m i (.rep o b e r)) :
  ops[i]?=some o/\m[i]?=some ((i+1+b.flat.length:Nat):Int)/\Seg ops m (i+1) b/\ops[i+1+b.flat.length]?=some e/\m[i+1+b.flat.length]?=some (i:Int)/\Seg ops m (i+2+b.flat.length) r:=by
 obtain⟨⟨p,s,eo,hp⟩,⟨p',s',em,hp'⟩⟩:=h
 simp only[Tree.flat,matchT,List.cons_append,List.append_assoc] at eo em
 refine⟨at_mid eo hp,at_mid em hp',⟨⟨p++[o],e :: (r.flat++s),by rw[eo];simp,by simp[hp]⟩,⟨p'++[((i+1+b.flat.length:Nat):Int)],(i:Int) :: (matchT r (i+2+b.flat.length)++s'),by rw[em];simp,by simp[hp']⟩⟩,?_,?_,?_⟩
 ·refine at_mid (p:=p++o ::b.flat) (s:=r.flat++s) ?_ ?_
  ·rw[eo];simp
  ·simp;omega
 ·refine at_mid (p:=p'++((i+1+b.flat.length:Nat):Int) ::matchT b (i+1)) (s:=matchT r (i+2+b.flat.length)++s') ?_ ?_
  ·rw[em];simp
  ·simp[matchT_length];omega
 ·refine⟨⟨p++o ::b.flat++[e],s,by rw[eo];simp,by simp;omega⟩,⟨p'++((i+1+b.flat.length:Nat):Int) ::matchT b (i+1)++[(i:Int)],s',by rw[em];simp,by simp[matchT_length];omega⟩⟩
theorem Seg.at7 {ops:List Op}{m:List Int}:∀{t:Tree} {i:Nat},Seg ops m i t->t.Ok->∀{j:Nat} {o:Op},i<=j->j<i+t.flat.length->ops[j]?=some o->o.kind=7->
  ∃b e r,Seg ops m j (.rep o b e r)/\(Tree.rep o b e r).Ok/\(t.SizeOk->(Tree.rep o b e r).SizeOk)/\(Tree.rep o b e r).depth<=t.depth
 | .nil,i,_,_,j,o,h1,h2,_,_=>by simp[Tree.flat] at h2;omega
 | .op x r,i,h,ok,j,o,h1,h2,hj,h7=>by
  obtain⟨a,_,c⟩:=h.op
  simp only[Tree.flat,List.length_cons] at h2
  rcases Nat.eq_or_lt_of_le h1 with e|hlt
  ·subst e;rw[a] at hj;cases hj;have:=ok.2.1;omega
  ·obtain⟨b,e,r',q1,q2,q3,q4⟩:=c.at7 ok.2.2 (by omega) (by omega) hj h7
   exact⟨b,e,r',q1,q2,q3,q4⟩
 | .rep x b e r,i,h,ok,j,o,h1,h2,hj,h7=>by
  have hh:=h
  obtain⟨a,_,hb,he,_,hr⟩:=h.rep
  simp only[Tree.flat,List.length_cons,List.length_append] at h2
  rcases Nat.eq_or_lt_of_le h1 with e'|hlt
  ·subst e';rw[a] at hj;cases hj;exact⟨b,e,r,hh,ok,id,Nat.le_refl _⟩
  ·rcases Nat.lt_or_ge j (i+1+b.flat.length) with h3|h3
   ·obtain⟨b',e',r',q1,q2,q3,q4⟩:=hb.at7 ok.2.1 (by omega) h3 hj h7
    exact⟨b',e',r',q1,q2,fun s=>q3 s.1,by simp only[Tree.depth] at q4 ⊢;omega⟩
   ·rcases Nat.eq_or_lt_of_le h3 with h4|h4
    ·rw[<-h4,he] at hj;cases hj;have:=ok.2.2.1;omega
    ·obtain⟨b',e',r',q1,q2,q3,q4⟩:=hr.at7 ok.2.2.2 (by omega) (by omega) hj h7
     exact⟨b',e',r',q1,q2,fun s=>q3 s.2.2,by simp only[Tree.depth] at q4 ⊢;omega⟩
end Go.VC
namespace Go.VC
open Go Go.Proofs
variable {H:Heap}{R:Value->Heap->Prop}
theorem c255 {p bw n:Nat}{w:List Bool}{a:Option Addr}{l c:Nat}{xs:List Int}(h1:rd H p 0=some (.slice (some ⟨bw,0,none⟩) n n))(hp:p≠bw)(hw:Own H bw (bls w))(hn:w.length=n)(hx:RowI H a l xs)(ha:0<l->Off [bw] a)(hl:l<=1099511627776)(hin:∀x∈xs,0<=x/\x<n)
  (k:∀H',Own H' bw (bls (markL w xs))->Mod [bw] H H'->R (.tuple #[]) H'):Ru 255 [.slice a l c,.pointer (some ⟨p,0,none⟩)] H R:=by
 have hxl:=hx.len
 refine v255 _ _ _ _ _ ⟨fun i H'=>∃j:Nat,i=j/\j<=l/\Own H' bw (bls (markL w (xs.take j)))/\Mod [bw] H H',fun i _=>(l-i).toNat,⟨0,rfl,by omega,hw,Mod.refl⟩,?_⟩
 rintro H1 _ ⟨j,rfl,hj,o1,m1⟩
 have hml:=markL_len (xs.take j) w
 refine⟨fun hlt=>?_,fun hge=>?_⟩
 ·have hx1:RowI H1 a l xs:=Mod.row m1 (ha (by omega)) hx
  have hji:j<xs.length:=by omega
  obtain⟨x0,x1⟩:=hin xs[j] (List.getElem_mem hji)
  refine RowI.idx hx1 (i:=(j:Int)) (by omega) (by omega) ?_
  simp only[Int.toNat_natCast]
  refine⟨_,_,_,m1.rd (by simpa using hp) h1,bw,0,rfl,⟨x0,x1⟩,wok_sub o1.2 (by omega) (by rw[bls_length,hml];omega),fun H2 h2=>⟨by unfold I64;omega,⟨j+1,by omega,by omega,?_,m1.trans (wrM h2)⟩,by omega⟩⟩
  rw[Nat.zero_add] at h2
  have o2:=o1.wr (xs[j].toNat) (.bool true)
  rw[<-h2,bls_set] at o2
  have e:markL w (xs.take (j+1))=(markL w (xs.take j)).set xs[j].toNat true:=by
   rw[List.take_succ_eq_append_getElem hji];unfold markL;rw[List.foldl_append];rfl
  rw[e];exact o2
 ·have:j=xs.length:=by omega
  subst this
  rw[List.take_length] at o1
  exact k H1 o1 m1
theorem c256 {p:Nat}{n x:Int}(h:rd H p 0=some (.int .i64 n))(k:R (.bool (decide (x<0\/n<=x))) H):Ru 256 [.int .i64 x,.pointer (some ⟨p,0,none⟩)] H R:=by
 refine v256 _ _ _ ⟨fun h0=>?_,fun h0=>⟨_,h,?_⟩⟩
 ·rwa [decide_eq_true (Or.inl h0)] at k
 ·have:decide (x<0\/n<=x)=decide (n<=x):=by simp;omega
  rwa [this] at k
def plcs (W:List (Nat × Op)):List Int:=W.map fun q=>(q.1:Int)
theorem plcs_length (t:Tree)(i:Nat):(plcs (t.unrollT i)).length=t.size:=by
 have:=congrArg List.length (Tree.unrollT_snd t i)
 simp only[List.length_map] at this
 rw[Tree.size_eq];simp[plcs,this]
theorem c329 {ao am:Option Addr}{lo_ co lm cm pO pL pM:Nat}{ops:List Op}{m:List Int}(few:ops.length<=4096):∀(N:Nat) (t:Tree) (i:Nat) (H:Heap) (R:Value->Heap->Prop),t.flat.length<=N->Seg ops m i t->t.Ok->t.SizeOk->t.size<=65536->
  rd H pO 0=some (.slice ao lo_ co)->RowO H ao lo_ ops->rd H pL 0=some (.func (.func 329) #[] #[.pointer (some ⟨pO,0,none⟩),.pointer (some ⟨pL,0,none⟩),.pointer (some ⟨pM,0,none⟩)])->rd H pM 0=some (.slice am lm cm)->RowI H am lm m->
  (∀a c H',Buf 1 H' H.size a t.size c (i64s (plcs (t.unrollT i)))->Ext H H'->R (.slice a t.size c) H')->
  Ru 329 [.int .i64 (i:Int),.int .i64 ((i+t.flat.length:Nat):Int),.pointer (some ⟨pO,0,none⟩),.pointer (some ⟨pL,0,none⟩),.pointer (some ⟨pM,0,none⟩)] H R:=by
 intro N
 induction N using Nat.strongRecOn with
 | _ N ih=>
 intro t i H R hN sg ok sok hsz hO rO hL hM rM k
 have hol:=rO.len
 have hml:=rM.len
 refine v329 _ _ _ _ _ _ _ _ ⟨fun a l c n H'=>∃(j:Nat) (t':Tree) (pre:List Int),n=j/\l=pre.length/\Seg ops m j t'/\t'.Ok/\t'.SizeOk/\j+t'.flat.length=i+t.flat.length/\i<=j/\pre++plcs (t'.unrollT j)=plcs (t.unrollT i)/\Buf 1 H' H.size a l c (i64s pre)/\Ext H H',fun _ _ _ n _=>(i+t.flat.length-n).toNat,⟨i,t,[],rfl,rfl,sg,ok,sok,rfl,Nat.le_refl _,rfl,Buf.nil,Mod.refl⟩,?_⟩
 rintro H1 a1 _ c1 _ ⟨j,t',pre,rfl,rfl,sg',ok',sok',hj,hij,hpl,hB,e1⟩
 have hplen:=congrArg List.length hpl
 rw[List.length_append,plcs_length,plcs_length] at hplen
 have hsl:=sg'.lt
 cases t' with
 | nil=>
  refine⟨fun hlt=>by simp[Tree.flat] at hj;omega,fun _=>?_⟩
  simp only[Tree.unrollT,plcs,List.map_nil,List.append_nil] at hpl
  have e:pre.length=t.size:=by simpa [Tree.size] using hplen
  rw[e,hpl] at hB
  rw[e]
  exact k a1 c1 H1 hB e1
 | op o r=>
  obtain⟨s1,s2,s3⟩:=sg'.op
  obtain⟨hjl,hjo⟩:=List.getElem?_eq_some_iff.1 s1
  refine⟨fun hlt=>?_,fun hge=>by simp[Tree.flat] at hj;omega⟩
  obtain⟨b,of,e,hr⟩:=RowO.rdL (e1.row rO) (i:=(j:Int)) (by omega) (by omega)
  simp only[Int.toNat_natCast,hjo] at hr
  have hk:=ok'.1;have hk2:=ok'.2.1
  simp only[Tree.size] at hplen
  refine⟨_,_,_,e1.rd (by simp) hO,b,of,e,⟨by omega,by omega⟩,o.kind,hr.1,fun _=>?_,fun h7=>by omega⟩
  intro H2 q n2
  refine⟨i64s [(j:Int)],rfl,.inr ⟨q,0,rfl,n2.rdL⟩,(hB.ext n2.mod).app (e1.new n2).1 rfl rfl i64s_one (by omega) (by omega) fun a3 c3 H3 S3 b3 m3 hS3=>⟨by unfold I64;omega,⟨j+1,r,pre++[(j:Int)],by omega,by simp,s3,ok'.2.2,sok',by simp[Tree.flat] at hj;omega,by omega,?_,?_,(e1.new n2).trans_new m3 fun x hx=>.inr (hS3 x hx)⟩,by dsimp only;omega⟩⟩
  ·rw[<-hpl];simp[Tree.unrollT,plcs]
  ·rw[i64s_append];exact b3
 | rep o b e r=>
  obtain⟨s1,s2,s3,s4,s5,s6⟩:=sg'.rep
  obtain⟨hjl,hjo⟩:=List.getElem?_eq_some_iff.1 s1
  refine⟨fun hlt=>?_,fun hge=>by simp[Tree.flat] at hj;omega⟩
  have hfl:(Tree.rep o b e r).flat.length=b.flat.length+r.flat.length+2:=by simp[Tree.flat];omega
  rw[hfl] at hj hsl
  have hbN:b.flat.length<N:=by omega
  have hbs:b.size<=65536:=by rcases sok'.2.1 with h0|⟨h0,_⟩<;>omega
  simp only[Tree.size] at hplen
  obtain⟨bo,of,eo,hr⟩:=RowO.rdL (e1.row rO) (i:=(j:Int)) (by omega) (by omega)
  simp only[Int.toNat_natCast,hjo] at hr
  refine⟨_,_,_,e1.rd (by simp) hO,bo,of,eo,⟨by omega,by omega⟩,o.kind,hr.1,fun h7=>(h7 ok'.1).elim,fun _=>⟨_,e1.rd (by simp) hL,by unfold I64;omega,_,_,_,e1.rd (by simp) hM,RowI.idxn (e1.row rM) s2 ⟨329,_,_,rfl,by kernel_rfl,?_⟩⟩⟩
  show Ru 329 [.int .i64 ((j:Int)+1),.int .i64 ((j+1+b.flat.length:Nat):Int),_,_,_] H1 _
  rw[show (j:Int)+1=((j+1:Nat):Int) from by push_cast;rfl]
  refine ih b.flat.length hbN b (j+1) H1 _ (Nat.le_refl _) s3 ok'.2.1 sok'.1 hbs (e1.rd (by simp) hO) (e1.row rO) (e1.rd (by simp) hL) (e1.rd (by simp) hM) (e1.row rM) fun a2 c2 H2 hB2 e2=>⟨_,_,_,rfl,fun hpos=>?_,fun hzero=>?_⟩
  ·have e02:=e1.thenExt e2
   obtain⟨bo2,of2,eo2,hr2⟩:=RowO.rdL (Ext.row e02 rO) (i:=(j:Int)) (by omega) (by omega)
   simp only[Int.toNat_natCast] at hr2
   have hP:(plcs (b.unrollT (j+1))).length=b.size:=plcs_length b (j+1)
   refine⟨_,_,_,e02.rd (by simp) hO,bo2,of2,eo2,⟨by omega,by omega⟩,o.v,by simp only[Int.toNat_natCast];exact rdL_get' hr2 (j:=4) (by rw[hjo];rfl),fun a l c x H'=>∃q:Nat,x.toNat=q/\q<=o.v.toNat/\l=pre.length+q*b.size/\Buf 1 H' H.size a l c (i64s (pre++(List.replicate q (plcs (b.unrollT (j+1)))).flatten))/\Buf 1 H' H.size a2 b.size c2 (i64s (plcs (b.unrollT (j+1))))/\Apart a c a2 c2/\Ext H H',fun _ _ _ x _=>o.v.toNat-x.toNat,⟨0,rfl,by omega,by omega,by simpa using hB.ext e2,hB2.down e1.1,?_,e02⟩,?_⟩
   ·intro bb q1 q2 e1' e2'
    subst e1'
    have:=hB.lt q1 (by omega)
    rcases hB2.ok with h0|⟨b',e',hn',_⟩
    ·omega
    ·rw[e2'] at e';cases e';omega
   rintro H3 a3 _ c3 x ⟨q,hx,hq,rfl,hB3,hC3,hap,e03⟩
   refine⟨fun hlt3=>?_,fun hge3=>?_⟩
   ·rw[UInt64.lt_iff_toNat_lt,hx] at hlt3
    have hm:=Nat.mul_le_mul_right b.size (show q+1<=o.v.toNat by omega)
    rw[Nat.add_mul,Nat.one_mul] at hm
    refine⟨i64s (plcs (b.unrollT (j+1))),by simp[hP],hC3.row.2,hB3.app2 hC3 hap (by omega) (by omega) e03.1 (by simp[hP]) rfl i64s_one (by omega) (by omega) fun a4 c4 H4 S4 b4 d4 ap4 m4 hS4=>⟨⟨q+1,?_,by omega,?_,?_,d4,ap4,e03.trans_new m4 fun y hy=>.inr (hS4 y hy).1⟩,?_⟩⟩
    ·rw[UInt64.toNat_add,hx]
     have h1:(UInt64.ofNat (nat_lit 1)).toNat=1:=rfl
     have:=o.v.toNat_lt
     omega
    ·rw[Nat.add_mul,Nat.one_mul];omega
    ·rw[<-i64s_append] at b4
     have e:pre++(List.replicate (q+1) (plcs (b.unrollT (j+1)))).flatten=pre++(List.replicate q (plcs (b.unrollT (j+1)))).flatten++plcs (b.unrollT (j+1)):=by
      rw[List.replicate_succ',List.flatten_append];simp
     rw[e];exact b4
    ·have h1:(UInt64.ofNat (nat_lit 1)).toNat=1:=rfl
     have:=o.v.toNat_lt
     show o.v.toNat-(x+UInt64.ofNat (nat_lit 1)).toNat<o.v.toNat-x.toNat
     rw[UInt64.toNat_add,hx];omega
   ·rw[UInt64.lt_iff_toNat_lt,hx] at hge3
    have hqv:q=o.v.toNat:=by omega
    subst hqv
    refine⟨_,_,_,e03.rd (by simp) hM,RowI.idxn (Ext.row e03 rM) s2 ⟨by unfold I64;omega,⟨j+2+b.flat.length,r,_,by push_cast;omega,?_,s6,ok'.2.2.2,sok'.2.2,by omega,by omega,?_,hB3,e03⟩,by dsimp only;push_cast;omega⟩⟩
    ·simp[List.length_flatten,hP]
    ·rw[<-hpl]
     simp[Tree.unrollT,plcs,List.map_flatten,List.map_replicate]
  ·have hb0:b.size=0:=by omega
   have e02:=e1.thenExt e2
   refine⟨_,_,_,e02.rd (by simp) hM,RowI.idxn (Ext.row e02 rM) s2 ⟨by unfold I64;omega,⟨j+2+b.flat.length,r,pre,by push_cast;omega,rfl,s6,ok'.2.2.2,sok'.2.2,by omega,by omega,?_,hB.ext e2,e02⟩,by dsimp only;push_cast;omega⟩⟩
   rw[<-hpl]
   have hnil:b.unrollT (j+1)=[]:=by
    have:=plcs_length b (j+1)
    rw[hb0] at this
    simpa [plcs] using this
   simp[Tree.unrollT,plcs,hnil]
theorem c258 {a:Option Addr}{l c:Nat}{ops:List Op}(h:RowO H a l ops)(few:ops.length<=4096){t:Tree}(ok:t.Ok)(hf:t.flat=ops)(sok:t.SizeOk)(hsz:t.size<=65536)
  (k:∀a' c' H',Buf 1 H' H.size a' t.size c' (i64s (plcs (t.unrollT 0)))->Ext H H'->R (.slice a' t.size c') H'):Ru 258 [.slice a l c] H R:=by
 have hl:=h.len
 refine v258 _ _ _ fun H1 p n1=>⟨_,_,_,n1.rd 0,c130 (Ext.row n1.mod h) (by omega) (fun H2 t' am ok' hf' e2 hB=>?_) (fun H2 hs e2=>(hs ((scan_iff _).2 ⟨t,ok,hf⟩)).elim)⟩
 obtain rfl:t'=t:=flat_inj ok' ok (hf'.trans hf.symm)
 refine⟨_,_,_,_,rfl,fun H3 q n3=>⟨n3.own.w 0 1 rfl,fun H4 h4=>?_⟩⟩
 have o4:=n3.own.wr 0 (.slice am l l)
 rw[<-h4] at o4
 have e24:Ext H2 H4:=n3.mod.trans_new (wrM h4) (by simpa using n3.ge)
 clear h4
 intro H5 s n5
 refine⟨n5.own.w 0 1 rfl,fun H6 h6=>?_⟩
 have o6:=n5.own.wr 0 (.func (.func 329) #[] #[.pointer (some ⟨p,0,none⟩),.pointer (some ⟨s,0,none⟩),.pointer (some ⟨q,0,none⟩)])
 rw[<-h6] at o6
 have e46:Ext H4 H6:=n5.mod.trans_new (wrM h6) (by simpa using n5.ge)
 clear h6
 have e16:=e2.thenExt (e24.thenExt e46)
 have e06:=n1.mod.thenExt e16
 have rp:rd H6 p 0=some (.slice a l c):=e16.rd (by simp) (n1.rd 0)
 refine⟨_,o6.rd 0 rfl,_,_,_,rp,329,_,_,rfl,by kernel_rfl,?_⟩
 have sg:Seg ops (matchT t' 0) 0 t':=by have:=Seg.top t';rwa [hf] at this
 have key:=c329 (ao:=a) (am:=am) (lo_:=l) (co:=c) (lm:=l) (cm:=l) (pO:=p) (pL:=s) (pM:=q) few t'.flat.length t' 0 H6 (fun r H'=>∃a l c,r=.slice a l c/\R (.slice a l c) H') (Nat.le_refl _) sg ok sok hsz rp (Ext.row e06 h) (o6.rd 0 rfl) (e46.rd (by simp) (o4.rd 0 rfl)) (Ext.row (e24.thenExt e46) hB.row) fun a' c' H' hB' e'=>⟨_,_,_,rfl,k a' c' H' (hB'.down e06.1) (e06.thenExt e')⟩
 rw[Nat.zero_add,hf,hl] at key
 exact key
end Go.VC
namespace Go.VC
open Go Go.Proofs
def ZAt (Z:List Int)(i:Nat)(t:Tree):Prop:=∃p s,Z=p++(sizesT t++s)/\p.length=i
theorem ZAt.top (t:Tree):ZAt (sizesT t) 0 t:=⟨[],[],by simp,rfl⟩
theorem ZAt.op {Z:List Int}{i:Nat}{o:Op}{r:Tree}(h:ZAt Z i (.op o r)):ZAt Z (i+1) r:=by
 obtain⟨p,s,e,hp⟩:=h
 simp only[sizesT,List.cons_append] at e
 exact⟨p++[1],s,by rw[e];simp,by simp[hp]⟩
theorem ZAt.rep {Z:List Int}{i:Nat}{o e:Op}{b r:Tree}(h:ZAt Z i (.rep o b e r)):Z[i]?=some ((o.v.toNat*b.size:Nat):Int)/\ZAt Z (i+1) b/\ZAt Z (i+2+b.flat.length) r:=by
 obtain⟨p,s,ez,hp⟩:=h
 simp only[sizesT,List.cons_append,List.append_assoc] at ez
 refine⟨at_mid ez hp,⟨p++[_],0 :: (sizesT r++s),by rw[ez,List.append_assoc];rfl,by simp[hp]⟩,⟨p++((o.v.toNat*b.size:Nat):Int) ::sizesT b++[0],s,by rw[ez];simp,by simp[sizesT_length];omega⟩⟩
def condO (ops:List Op)(Z m:List Int)(i j:Nat):Prop:=∃o,ops[i]?=some o/\o.kind=7/\∃z y:Nat,Z[i]?=some (z:Int)/\m[i]?=some (y:Int)/\((z=0/\i<=j/\j<=y)\/(z≠0/\o.v=1/\(j=i\/j=y)))
def own1 (o:Op)(z i y j:Nat):Prop:=(z=0/\i<=j/\j<=y)\/(z≠0/\o.v=1/\(j=i\/j=y))
def GT:Tree->Nat->Nat->Prop
 | .nil,_,_=>False
 | .op _ r,i,j=>GT r (i+1) j
 | .rep o b _ r,i,j=>own1 o (o.v.toNat*b.size) i (i+1+b.flat.length) j\/GT b (i+1) j\/GT r (i+2+b.flat.length) j
theorem GT.lt:∀{t:Tree} {i j:Nat},GT t i j->i<=j/\j<i+t.flat.length
 | .nil,_,_,h=>h.elim
 | .op _ r,i,j,h=>by have:=GT.lt (t:=r) h;simp[Tree.flat];omega
 | .rep o b e r,i,j,h=>by
  simp only[Tree.flat,List.length_cons,List.length_append]
  rcases h with (⟨_,h1,h2⟩|⟨_,_,h1⟩)|h|h
  ·omega
  ·omega
  ·have:=GT.lt (t:=b) h;omega
  ·have:=GT.lt (t:=r) h;omega
theorem cond_iff {ops:List Op}{Z m:List Int}:∀{t:Tree} {i:Nat},Seg ops m i t->ZAt Z i t->t.Ok->∀j,(∃x,i<=x/\x<i+t.flat.length/\condO ops Z m x j)<->GT t i j
 | .nil,i,_,_,_,j=>by simp[Tree.flat,GT];intro x h1 h2;omega
 | .op o r,i,h,hz,ok,j=>by
  obtain⟨a,_,c⟩:=h.op
  have ih:=cond_iff c hz.op ok.2.2 j
  simp only[GT]
  rw[<-ih]
  simp only[Tree.flat,List.length_cons]
  constructor
  ·rintro⟨x,h1,h2,h3⟩
   rcases Nat.eq_or_lt_of_le h1 with e|hlt
   ·subst e
    obtain⟨o',e1,e2,_⟩:=h3
    rw[a] at e1;cases e1
    have:=ok.2.1;omega
   ·exact⟨x,by omega,by omega,h3⟩
  ·rintro⟨x,h1,h2,h3⟩;exact⟨x,by omega,by omega,h3⟩
 | .rep o b e r,i,h,hz,ok,j=>by
  obtain⟨a,ma,hb,he,mb,hr⟩:=h.rep
  obtain⟨za,zb,zr⟩:=hz.rep
  have ihb:=cond_iff hb zb ok.2.1 j
  have ihr:=cond_iff hr zr ok.2.2.2 j
  have hown:condO ops Z m i j<->own1 o (o.v.toNat*b.size) i (i+1+b.flat.length) j:=by
   constructor
   ·rintro⟨o',e1,e2,z,y,e3,e4,h5⟩
    rw[a] at e1;cases e1
    rw[za] at e3;rw[ma] at e4
    have e3':z=o.v.toNat*b.size:=by have:=Option.some.inj e3;omega
    have e4':y=i+1+b.flat.length:=by have:=Option.some.inj e4;omega
    subst e3';subst e4';exact h5
   ·intro h5;exact⟨o,a,ok.1,_,_,za,ma,h5⟩
  simp only[GT]
  rw[<-ihb,<-ihr,<-hown]
  simp only[Tree.flat,List.length_cons,List.length_append]
  constructor
  ·rintro⟨x,h1,h2,h3⟩
   rcases Nat.eq_or_lt_of_le h1 with e'|hlt
   ·subst e';exact .inl h3
   ·rcases Nat.lt_or_ge x (i+1+b.flat.length) with h4|h4
    ·exact .inr (.inl ⟨x,by omega,by omega,h3⟩)
    ·rcases Nat.eq_or_lt_of_le h4 with h5|h5
     ·obtain⟨o',e1,e2,_⟩:=h3
      rw[<-h5,he] at e1;cases e1
      have:=ok.2.2.1;omega
     ·exact .inr (.inr ⟨x,by omega,by omega,h3⟩)
  ·rintro (h3|⟨x,h1,h2,h3⟩|⟨x,h1,h2,h3⟩)
   ·exact⟨i,by omega,by omega,h3⟩
   ·exact⟨x,by omega,by omega,h3⟩
   ·exact⟨x,by omega,by omega,h3⟩
theorem sieve_none {f:Nat->Op->Bool}:∀(l:List Op) (i:Nat),(∀j o,i<=j->j<i+l.length->f j o=false)->Tree.sieve f l i=[]
 | [],_,_=>rfl
 | x ::l,i,h=>by
  simp only[Tree.sieve,h i x (Nat.le_refl _) (by simp)]
  exact sieve_none l (i+1) fun j o h1 h2=>h j o (by omega) (by simp;omega)
theorem open_sieve (g:Nat->Bool):∀{t:Tree} {i:Nat},(∀j,i<=j->j<i+t.flat.length->(g j=true<->GT t i j))->Tree.sieve (fun j _=>!g j) t.flat i=(Tree.openT t).flat
 | .nil,_,_=>rfl
 | .op o r,i,h=>by
  have h0:g i=false:=by
   cases hg:g i with
   | false=>rfl
   | true=>have:=GT.lt (t:=r) ((h i (Nat.le_refl _) (by simp[Tree.flat])).1 hg);omega
  simp only[Tree.flat,Tree.sieve,h0,Tree.openT,Bool.not_false,if_true]
  rw[open_sieve g (t:=r) fun j h1 h2=>h j (by omega) (by simp[Tree.flat];omega)]
 | .rep o b e r,i,h=>by
  have hl:(Tree.rep o b e r).flat.length=b.flat.length+r.flat.length+2:=by simp[Tree.flat];omega
  have hr:Tree.sieve (fun j _=>!g j) r.flat (i+2+b.flat.length)=(Tree.openT r).flat:=open_sieve g fun j h1 h2=>by
   rw[h j (by omega) (by omega)]
   simp only[GT]
   constructor
   ·rintro ((⟨_,_,q⟩|⟨_,_,q⟩)|q|q)
    ·omega
    ·omega
    ·have:=GT.lt q;omega
    ·exact q
   ·exact fun q=>.inr (.inr q)
  have split_:Tree.sieve (fun j _=>!g j) (Tree.rep o b e r).flat i=(if g i then [] else [o])++Tree.sieve (fun j _=>!g j) b.flat (i+1)++((if g (i+1+b.flat.length) then [] else [e])++Tree.sieve (fun j _=>!g j) r.flat (i+2+b.flat.length)):=by
   have e2:i+1+b.flat.length+1=i+2+b.flat.length:=by omega
   simp only[Tree.flat,List.cons_append,Tree.sieve]
   rw[Tree.sieve_append]
   simp only[Tree.sieve,e2]
   cases g i<;>cases g (i+1+b.flat.length)<;>simp
  rw[split_,hr]
  have gi:=h i (Nat.le_refl _) (by omega)
  have ge:=h (i+1+b.flat.length) (by omega) (by omega)
  simp only[Tree.openT]
  by_cases hz:o.v.toNat*b.size=0
  ·rw[if_pos hz]
   have all:∀j,i<=j->j<=i+1+b.flat.length->g j=true:=fun j h1 h2=>(h j h1 (by omega)).2 (.inl (.inl ⟨hz,h1,h2⟩))
   rw[all i (by omega) (by omega),all _ (by omega) (Nat.le_refl _),sieve_none b.flat (i+1) fun j o h1 h2=>by rw[all j (by omega) (by omega)];rfl]
   rfl
  ·rw[if_neg hz]
   have hb:Tree.sieve (fun j _=>!g j) b.flat (i+1)=(Tree.openT b).flat:=open_sieve g fun j h1 h2=>by
    rw[h j (by omega) (by omega)]
    simp only[GT]
    constructor
    ·rintro ((⟨q,_⟩|⟨_,_,q⟩)|q|q)
     ·exact (hz q).elim
     ·omega
     ·exact q
     ·have:=GT.lt q;omega
    ·exact fun q=>.inr (.inl q)
   rw[hb]
   by_cases hv:o.v=1
   ·rw[if_pos hv]
    rw[gi.2 (.inl (.inr ⟨hz,hv,.inl rfl⟩)),ge.2 (.inl (.inr ⟨hz,hv,.inr rfl⟩)),Tree.flat_app]
    simp
   ·rw[if_neg hv]
    have g1:g i=false:=by
     cases hg:g i with
     | false=>rfl
     | true=>
      rcases gi.1 hg with (⟨q,_⟩|⟨_,q,_⟩)|q|q
      ·exact (hz q).elim
      ·exact (hv q).elim
      ·have:=GT.lt q;omega
      ·have:=GT.lt q;omega
    have g2:g (i+1+b.flat.length)=false:=by
     cases hg:g (i+1+b.flat.length) with
     | false=>rfl
     | true=>
      rcases ge.1 hg with (⟨q,_⟩|⟨_,q,_⟩)|q|q
      ·exact (hz q).elim
      ·exact (hv q).elim
      ·have:=GT.lt q;omega
      ·have:=GT.lt q;omega
    rw[g1,g2]
    simp[Tree.flat]
end Go.VC
namespace Go.VC
open Go Go.Proofs
variable {H:Heap}{R:Value->Heap->Prop}
theorem rep_bool (n:Nat):rep n [.bool false]=bls (List.replicate n false):=by
 unfold rep bls
 induction n with
 | zero=>rfl
 | succ n ih=>rw[List.replicate_succ,List.replicate_succ,List.flatten_cons,ih];rfl
theorem setD {G:List Bool}{i u:Nat}(hi:i<G.length):(G.set i true).getD u false=true<->u=i\/G.getD u false=true:=by
 rw[set_getD]
 by_cases e:i=u
 ·subst e;simp[hi]
 ·rw[if_neg (fun h=>e h.1)]
  constructor
  ·exact .inr
  ·rintro (h|h)
   ·exact (e h.symm).elim
   ·exact h
theorem sizesT_nat:∀(t:Tree) (x:Int),x∈sizesT t->0<=x
 | .nil,_,h=>by simp[sizesT] at h
 | .op _ r,x,h=>by
  simp only[sizesT,List.mem_cons] at h
  rcases h with rfl|h
  ·omega
  ·exact sizesT_nat r x h
 | .rep _ b _ r,x,h=>by
  simp only[sizesT,List.mem_append,List.mem_cons] at h
  rcases h with (rfl|h)|rfl|h
  ·omega
  ·exact sizesT_nat b x h
  ·omega
  ·exact sizesT_nat r x h
theorem c64 {p:Prog}{a:Option Addr}{c:Nat}(h:RowO H a p.ops.length p.ops){t:Tree}(g:GoodP p t)
  (k:∀a' c' H',Buf 5 H' H.size a' (Tree.openT t).flat.length c' (opsC (Tree.openT t).flat)->Ext H H'->R (.tuple #[.agg (progC ⟨p.regs,(Tree.openT t).flat⟩ a' (Tree.openT t).flat.length c').toArray,.int .i64 0]) H'):Ru 64 [.agg (progC p a p.ops.length c).toArray] H R:=by
 have few:=g.form.1
 refine v64 (progC p a p.ops.length c) fun H1 q n1 H2 q2 n2=>⟨_,rfl,n2.mod.rdL (by simp) n1.rdL,c129 (Ext.row (n1.mod.new n2) h) (by omega) g fun H3 e3=>⟨_,rfl,fun h'=>(h' rfl).elim,fun _=>?_⟩⟩
 have e03:=(n1.mod.new n2).thenExt e3
 have rq:∀{H'},Ext H3 H'->rd H' q 1=some (.slice a p.ops.length c):=fun e=>(n2.mod.thenExt (e3.thenExt e)).rd (by simp) (n1.rd 1)
 refine⟨_,_,_,rq Mod.refl,c130 (Ext.row e03 h) (by omega) (fun H4 t' am ok' hf' e4 hM=>⟨_,_,_,_,rfl,_,_,_,rq e4,c131 (Ext.row (e03.thenExt e4) h) (by omega) g.ok g.flat g.size g.few fun H5 t2 az ok2 hf2 e5 hZ=>⟨_,_,_,_,rfl,_,_,_,rq (e4.thenExt e5),⟨by omega,by omega,by omega,by unfold I64;omega⟩,fun H6 qg n6 H7 pg n7=>⟨n7.own.w 0 1 rfl,fun H8 h8=>?_⟩⟩⟩) (fun H4 hs _=>(hs ((scan_iff _).2 ⟨t,g.ok,g.flat⟩)).elim)⟩
 obtain rfl:t'=t:=flat_inj ok' g.ok (hf'.trans g.flat.symm)
 obtain rfl:t2=t':=flat_inj ok2 ok' (hf2.trans hf'.symm)
 rw[Int.toNat_natCast,rep_bool] at n6
 rw[Int.toNat_natCast] at h8
 have o8:=n7.own.wr 0 (.slice (some ⟨qg,0,none⟩) p.ops.length p.ops.length)
 rw[<-h8] at o8
 have x78:Ext H7 H8\/True:=.inr trivial
 have m78:Mod [pg] H7 H8:=wrM h8
 have hqg:=n6.ge;have hqgl:=n6.lt;have hpg:=n7.ge;have hpgl:=n7.lt
 have og:=(n6.own.mod n7.mod (by simp)).mod m78 (by simp;omega)
 have e58:Ext H5 H8:=(n6.mod.new n7).trans_new m78 (by simp;have:=n6.mod.1;omega)
 clear h8
 have e08:=e03.thenExt (e4.thenExt (e5.thenExt e58))
 have e38:=e4.thenExt (e5.thenExt e58)
 have z58:=e58.1
 have hM8:=Ext.row (e5.thenExt e58) hM.row
 have hZ8:=Ext.row e58 hZ.row
 have hz4:=e4.1;have hz5:=e5.1;have hz8:=m78.1;have hz7:=n7.mod.1;have hz05:=(e03.thenExt (e4.thenExt e5)).1
 have hSeg:Seg p.ops (matchT t2 0) 0 t2:=by have:=Seg.top t2;rwa [hf2] at this
 have hZA:=ZAt.top t2
 have hZl:(sizesT t2).length=p.ops.length:=by rw[sizesT_length,hf2]
 have hMl:(matchT t2 0).length=p.ops.length:=by rw[matchT_length,hf2]
 have offg:∀{sz l:Nat} {a:Option Addr} {cells:List Value},Row sz H5 a l cells->0<sz->0<l->Off [qg] a:=fun hr hz hl=>hr.fresh hz hl (by simpa using hqg)
 have rowsO:∀{H'},Mod [qg] H8 H'->RowO H' a p.ops.length p.ops:=fun m=>Mod.rowz m (offg (Ext.row (e03.thenExt (e4.thenExt e5)) h) (by omega)) (Ext.row e08 h)
 have rowsM:∀{H'},Mod [qg] H8 H'->RowI H' am p.ops.length (matchT t2 0):=fun m=>Mod.rowz m (offg (Ext.row e5 hM.row) (by omega)) hM8
 have rowsZ:∀{H'},Mod [qg] H8 H'->RowI H' az p.ops.length (sizesT t2):=fun m=>Mod.rowz m (offg hZ.row (by omega)) hZ8
 have rgo:∀{H'},Mod [qg] H8 H'->rd H' pg 0=some (.slice (some ⟨qg,0,none⟩) p.ops.length p.ops.length):=fun m=>m.rd (by simp;omega) (o8.rd 0 rfl)
 refine⟨_,_,_,rq e38,fun n H'=>∃j:Nat,n=j/\j<=p.ops.length/\∃G:List Bool,G.length=p.ops.length/\Own H' qg (bls G)/\(∀y,y<p.ops.length->(G.getD y false=true<->∃x,x<j/\condO p.ops (sizesT t2) (matchT t2 0) x y))/\Mod [qg] H8 H',fun n _=>(p.ops.length-n).toNat,⟨0,rfl,by omega,_,by simp,og,fun y hy=>by simp[List.getD_eq_getElem?_getD,hy],Mod.refl⟩,?_⟩
 rintro H9 _ ⟨j,rfl,hj,G,hG,oG,hGi,m9⟩
 refine⟨fun hlt=>?_,fun hge=>?_⟩
 ·have hjl:j<p.ops.length:=by omega
  obtain⟨bo,of,eo,hr⟩:=RowO.rdL (rowsO m9) (i:=(j:Int)) (by omega) hlt
  simp only[Int.toNat_natCast] at hr
  refine⟨bo,of,eo,⟨by omega,hlt⟩,_,rfl,hr,fun H10 pp n10=>⟨rfl,opC_one,n10.own.w 0 5 rfl,fun H11 h11=>?_⟩⟩
  obtain⟨e11,o11⟩:=tmpE (cs:=opC p.ops[j]) n10 rfl h11
  clear h11
  have m11:=m9.thenExt e11
  have oG11:=oG.mod e11 (by simp)
  have noC:(∀y,¬condO p.ops (sizesT t2) (matchT t2 0) j y)->∀y,y<p.ops.length->(G.getD y false=true<->∃x,x<j+1/\condO p.ops (sizesT t2) (matchT t2 0) x y):=by
   intro hn y hy
   rw[hGi y hy]
   constructor
   ·rintro⟨x,h1,h2⟩;exact⟨x,by omega,h2⟩
   ·rintro⟨x,h1,h2⟩
    rcases Nat.lt_or_ge x j with h3|h3
    ·exact⟨x,h3,h2⟩
    ·have:x=j:=by omega
     subst this;exact (hn y h2).elim
  have hop:p.ops[j]?=some p.ops[j]:=List.getElem?_eq_getElem hjl
  refine⟨_,o11.rd 0 rfl,fun h7=>⟨by unfold I64;omega,⟨j+1,by omega,by omega,G,hG,oG11,noC fun y ⟨o',e1,e2,_⟩=>?_,m11⟩,by dsimp only;omega⟩,fun h7=>?_⟩
  ·rw[hop] at e1;cases e1;exact h7 e2
  have h7':p.ops[j].kind=7:=Classical.not_not.1 h7
  obtain⟨b,e,r,sg,okr,sokr,_⟩:=hSeg.at7 g.ok (Nat.zero_le j) (by rw[Nat.zero_add,hf2];exact hjl) hop h7'
  obtain⟨_,sm,_⟩:=sg.rep
  have hsl:=sg.lt
  have hfl:(Tree.rep p.ops[j] b e r).flat.length=b.flat.length+r.flat.length+2:=by simp[Tree.flat];omega
  rw[hfl] at hsl
  obtain⟨z,hz⟩:∃z:Nat,(sizesT t2)[j]?=some (z:Int):=by
   have hjz:j<(sizesT t2).length:=by omega
   have h0:=sizesT_nat t2 _ (List.getElem_mem hjz)
   exact⟨((sizesT t2)[j]).toNat,by rw[List.getElem?_eq_getElem hjz,Int.toNat_of_nonneg h0]⟩
  generalize hy:j+1+b.flat.length=y at *
  have hyl:y<p.ops.length:=by omega
  have hcond:∀u,condO p.ops (sizesT t2) (matchT t2 0) j u<->own1 p.ops[j] z j y u:=by
   intro u
   constructor
   ·rintro⟨o',e1,e2,z',y',e3,e4,h5⟩
    rw[hop] at e1;cases e1
    rw[hz] at e3;rw[sm] at e4
    have e3':z'=z:=by have:=Option.some.inj e3;omega
    have e4':y'=y:=by have:=Option.some.inj e4;omega
    subst e3';subst e4';exact h5
   ·intro h5;exact⟨_,hop,h7',z,y,hz,sm,h5⟩
  have next:∀(G':List Bool),(∀u,u<p.ops.length->(G'.getD u false=true<->own1 p.ops[j] z j y u\/G.getD u false=true))->∀u,u<p.ops.length->(G'.getD u false=true<->∃x,x<j+1/\condO p.ops (sizesT t2) (matchT t2 0) x u):=by
   intro G' hG' u hu
   rw[hG' u hu,hGi u hu,<-hcond]
   constructor
   ·rintro (h1|⟨x,h1,h2⟩)
    ·exact⟨j,by omega,h1⟩
    ·exact⟨x,by omega,h2⟩
   ·rintro⟨x,h1,h2⟩
    rcases Nat.lt_or_ge x j with h3|h3
    ·exact .inr ⟨x,h3,h2⟩
    ·have:x=j:=by omega
     subst this;exact .inl h2
  refine RowI.idxn (rowsZ m11) hz ⟨fun hz0=>?_,fun hz0=>⟨_,o11.rd 4 rfl,fun hv=>?_,fun hv=>?_⟩⟩
  ·refine⟨fun n H'=>∃w:Nat,n=w/\j<=w/\w<=y+1/\∃G':List Bool,G'.length=p.ops.length/\Own H' qg (bls G')/\(∀u,u<p.ops.length->(G'.getD u false=true<->(j<=u/\u<w)\/G.getD u false=true))/\Mod [qg] H8 H',fun n _=>((y:Int)+1-n).toNat,⟨j,rfl,by omega,by omega,G,hG,oG11,fun u hu=>⟨.inr,by rintro (h'|h');omega;exact h'⟩,m11⟩,?_⟩
   rintro H12 _ ⟨w,rfl,hw1,hw2,G',hG',oG',hGi',m12⟩
   refine RowI.idxn (rowsM m12) sm ⟨fun hle=>⟨_,_,_,rgo m12,qg,0,rfl,⟨by omega,by omega⟩,wok_sub oG'.2 (by omega) (by rw[bls_length,hG'];omega),fun H13 h13=>?_⟩,fun hgt=>?_⟩
   ·have o13:=oG'.wr w (.bool true)
    rw[Nat.zero_add,Int.toNat_natCast] at h13
    rw[<-h13,bls_set] at o13
    refine⟨by unfold I64;omega,⟨w+1,by omega,by omega,by omega,_,by simpa using hG',o13,fun u hu=>?_,m12.trans (wrM h13)⟩,by dsimp only;omega⟩
    rw[setD (by omega),hGi' u hu]
    constructor
    ·rintro (h'|h'|h')
     ·left;omega
     ·left;omega
     ·exact .inr h'
    ·rintro (h'|h')
     ·by_cases e:u=w
      ·exact .inl e
      ·right;left;omega
     ·exact .inr (.inr h')
   ·have hwy:w=y+1:=by omega
    subst hwy
    refine⟨by unfold I64;omega,⟨j+1,by omega,by omega,G',hG',oG',next G' fun u hu=>?_,m12⟩,by dsimp only;omega⟩
    rw[hGi' u hu]
    constructor
    ·rintro (h'|h')
     ·exact .inl (.inl ⟨by omega,h'.1,by omega⟩)
     ·exact .inr h'
    ·rintro ((⟨_,h1,h2⟩|⟨h0,_⟩)|h')
     ·exact .inl ⟨h1,by omega⟩
     ·omega
     ·exact .inr h'
  ·have hG2:(G.set j true).length=p.ops.length:=by simpa using hG
   refine⟨_,_,_,rgo m11,_,_,_,rgo m11,RowI.idxn (rowsM m11) sm ⟨qg,0,rfl,⟨by omega,by omega⟩,wok_sub oG11.2 (by omega) (by rw[bls_length,hG];omega),fun H12 h12=>?_⟩⟩
   have o12:=oG11.wr j (.bool true)
   rw[Nat.zero_add,Int.toNat_natCast] at h12
   rw[<-h12,bls_set] at o12
   have m12:=m11.trans (wrM h12)
   refine⟨rgo m12,qg,0,rfl,⟨by omega,by omega⟩,wok_sub o12.2 (by omega) (by rw[bls_length,hG2];omega),fun H13 h13=>?_⟩
   have o13:=o12.wr y (.bool true)
   rw[Nat.zero_add,Int.toNat_natCast] at h13
   rw[<-h13,bls_set] at o13
   refine⟨by unfold I64;omega,⟨j+1,by omega,by omega,_,by simpa using hG,o13,next _ fun u hu=>?_,m12.trans (wrM h13)⟩,by dsimp only;omega⟩
   rw[setD (by omega),setD (by omega)]
   constructor
   ·rintro (h'|h'|h')
    ·exact .inl (.inr ⟨by omega,hv,.inr h'⟩)
    ·exact .inl (.inr ⟨by omega,hv,.inl h'⟩)
    ·exact .inr h'
   ·rintro ((⟨h0,_⟩|⟨_,_,h'|h'⟩)|h')
    ·omega
    ·exact .inr (.inl h')
    ·exact .inl h'
    ·exact .inr (.inr h')
  ·refine⟨by unfold I64;omega,⟨j+1,by omega,by omega,G,hG,oG11,noC fun u hc=>?_,m11⟩,by dsimp only;omega⟩
   rcases (hcond u).1 hc with ⟨h0,_⟩|⟨_,h1,_⟩
   ·omega
   ·exact hv h1
 ·have hjl:j=p.ops.length:=by omega
  subst hjl
  have rq9:∀(o:Nat) (v:Value),(progC p a p.ops.length c)[o]?=some v->rd H9 q o=some v:=fun o v hv=>m9.rd (by simp;have:=n1.lt;have:=n2.mod.1;have:=e3.1;omega) (e38.rd (by simp) ((n2.mod.thenExt e3).rd (by simp) ((n1.rd o).trans hv)))
  have hsv:Tree.sieve (fun j _=>!G.getD j false) p.ops 0=(Tree.openT t2).flat:=by
   rw[<-hf2]
   refine open_sieve (fun j=>G.getD j false) fun j h1 h2=>?_
   rw[Nat.zero_add,hf2] at h2
   rw[hGi j h2,<-cond_iff hSeg hZA g.ok j]
   rw[Nat.zero_add,hf2]
   constructor
   ·rintro⟨x,h3,h4⟩;exact⟨x,by omega,h3,h4⟩
   ·rintro⟨x,_,h3,h4⟩;exact⟨x,h3,h4⟩
  refine⟨_,rq9 0 _ rfl,_,_,_,rq9 1 _ rfl,c126 (rowsO m9) few 132 _ _ (by kernel_rfl) (fun j _=>!G.getD j false) (fun i hi H' K e hK=>?_) fun a4 c4 H10 hB e10=>⟨_,_,_,rfl,e10.rd (by simp) (rq9 0 _ rfl),rfl,?_,?_,fun H11 h11=>⟨[.int .i64 p.regs,.slice a4 (Tree.sieve (fun j _=>!G.getD j false) p.ops 0).length c4],rfl,?_,?_⟩⟩⟩
  ·have oG':=oG.mod e (by simp)
   exact c132 (nd:=G) (e.rd (by simp) (rgo m9)) ⟨by simp[hG],.inr ⟨qg,0,rfl,oG'.1⟩⟩ hi (hK H' Mod.refl)
  ·intro x hx;simp only[List.mem_cons,List.not_mem_nil,or_false] at hx;rcases hx with rfl|rfl<;>trivial
  ·have o2:=(((n2.own.mod e3 (by simp)).mod e38 (by simp)).mod m9 (by simp;have:=n2.lt;have:=e3.1;omega)).mod e10 (by simp)
   exact o2.w 0 2 rfl
  ·have o2:=(((n2.own.mod e3 (by simp)).mod e38 (by simp)).mod m9 (by simp;have:=n2.lt;have:=e3.1;omega)).mod e10 (by simp)
   rw[h11];exact rdL_wrL o2.2
  ·have hq2:=n2.lt
   have hq2g:=n2.ge
   have hz3:=e3.1
   have m11:Mod [q2] H10 H11:=wrLM h11
   have x09:Ext H H9:=e08.trans_new m9 (by simp;omega)
   have x010:=x09.thenExt e10
   rw[hsv] at hB ⊢
   have hz9:=m9.1
   refine k a4 c4 H11 ((hB.mod m11 (by simp;omega)).down x09.1) (x010.trans_new m11 (by simp;have:=n1.mod.1;omega))
end Go.VC
namespace Go.VC
open Go Go.Proofs
theorem c20 {H:Heap}{R:Value->Heap->Prop}{w:UInt64}{a1 a2 a3 a4:Option Addr}{l1 l2 c1 c2 c3 c4:Nat}{x y:List UInt64}(h1:RowU H a1 l1 x)(h2:RowU H a2 l2 y)(h3:RowU H a3 l1 x)(h4:RowU H a4 l2 y)(b1:l1<=262144)(b2:l2<=262144)(k:∀H',Ext H H'->R (.bool true) H') :
  Ru 20 [.agg [.int .u64 (w.toNat:Int),.slice a1 l1 c1,.slice a2 l2 c2].toArray,.agg [.int .u64 (w.toNat:Int),.slice a3 l1 c3,.slice a4 l2 c4].toArray] H R:=by
 refine v20 _ _ fun H1 p n1 H2 q n2=>⟨fun H'=>H'=H2,⟨w,n2.mod.rd (by simp) (n1.rd 0),w,n2.rd 0,fun h=>(h rfl).elim,fun _=>⟨_,_,_,n2.mod.rd (by simp) (n1.rd 1),_,_,_,n2.rd 1,fun h=>(h rfl).elim,fun _=>⟨_,_,_,n2.mod.rd (by simp) (n1.rd 2),_,_,_,n2.rd 2,fun h=>(h rfl).elim,fun _=>rfl⟩⟩⟩,?_⟩
 intro H3 e3;subst e3
 have e:=n1.mod.new n2
 have rp:∀i v,[Value.int .u64 (w.toNat:Int),.slice a1 l1 c1,.slice a2 l2 c2][i]?=some v->rd H3 p i=some v:=fun i v hv=>n2.mod.rd (by simp) (by rw[n1.rd];exact hv)
 have rq:∀i v,[Value.int .u64 (w.toNat:Int),.slice a3 l1 c3,.slice a4 l2 c4][i]?=some v->rd H3 q i=some v:=fun i v hv=>by rw[n2.rd];exact hv
 refine⟨fun n H'=>H'=H3/\∃i:Nat,n=i/\i<=l1,fun n _=>(l1-n).toNat,⟨rfl,0,rfl,by omega⟩,?_⟩
 rintro H4 n ⟨e4,i,rfl,hi⟩
 subst e4
 refine⟨_,_,_,rp 1 _ rfl,fun hlt=>⟨_,_,_,rp 1 _ rfl,RowU.idx (Ext.row e h1) (by omega) hlt ⟨_,_,_,rq 1 _ rfl,RowU.idx (Ext.row e h3) (by omega) hlt ⟨fun h=>(h rfl).elim,fun _=>⟨by unfold I64;omega,⟨rfl,i+1,by omega,by omega⟩,by dsimp only;omega⟩⟩⟩⟩,fun hge=>?_⟩
 refine⟨fun n H'=>H'=H4/\∃i:Nat,n=i/\i<=l2,fun n _=>(l2-n).toNat,⟨rfl,0,rfl,by omega⟩,?_⟩
 rintro H5 n ⟨e5,j,rfl,hj⟩
 subst e5
 exact⟨_,_,_,rp 2 _ rfl,fun hlt=>⟨_,_,_,rp 2 _ rfl,RowU.idx (Ext.row e h2) (by omega) hlt ⟨_,_,_,rq 2 _ rfl,RowU.idx (Ext.row e h4) (by omega) hlt ⟨fun h=>(h rfl).elim,fun _=>⟨by unfold I64;omega,⟨rfl,j+1,by omega,by omega⟩,by dsimp only;omega⟩⟩⟩⟩,fun hge=>k _ e⟩
end Go.VC
namespace Go.VC
open Go Go.Proofs
def nN (h:Hdr):Nat:=nX h+nT h
def dth0 (h:Hdr)(i:Nat):List UInt64:=(unit (nN h) i).drop (nX h)
noncomputable def dst (h:Hdr)(i:Nat):Nat->List UInt64
 | 0=>(unit (nN h) i).take (nX h)
 | t+1=>tanStep h t (st h t) (dst h i t) (dth0 h i)
@[simp] theorem unit_length (n i:Nat):(unit n i).length=n:=by simp[unit]
theorem dth0_length (h:Hdr)(i:Nat):(dth0 h i).length=nT h:=by simp[dth0,nN]
theorem tanStep_length {h:Hdr}(d:dimsOk h){t:Nat}{x dx dth:List UInt64}(hx:dx.length=nX h)(ht:dth.length=nT h):(tanStep h t x dx dth).length=nX h:=by
 obtain⟨d1,d2,d3,d4,d5⟩:=d
 rw[tanStep,List.length_take,dfwd_length,padTo_length (by simp[hx,ht,nX,nT,nS];omega)]
 simp only[nX,nS];omega
theorem dst_length {h:Hdr}(d:dimsOk h)(i:Nat):∀t,(dst h i t).length=nX h
 | 0=>by simp[dst,nN]
 | t+1=>tanStep_length d (dst_length d i t) (dth0_length h i)
theorem tan_dst (h:Hdr)(L i:Nat):∀k,k<=L->tan h L (dth0 h i) k (dst h i (L-k))=tanLoss h (st h L) (dst h i L) (dth0 h i)
 | 0,_=>by simp[tan]
 | k+1,hk=>by
  have ih:=tan_dst h L i k (by omega)
  rw[show L-k=(L-(k+1))+1 from by omega,dst] at ih
  rw[tan];exact ih
theorem unit_take {n m i:Nat}(h:m<=n):(unit n i).take m=if i<m then unit m i else zeros m:=by
 unfold unit
 rw[List.take_set]
 have:(zeros n).take m=zeros m:=by simp[zeros,Nat.min_eq_left h]
 rw[this]
 split
 ·rfl
 ·rw[List.set_eq_of_length_le (by simp;omega)]
theorem unit_drop {n m i:Nat}:(unit (m+n) i).drop m=if i<m then zeros n else unit n (i-m):=by
 unfold unit
 rw[List.drop_set]
 have:(zeros (m+n)).drop m=zeros n:=by simp[zeros]
 rw[this]
noncomputable def along (h:Hdr)(L i:Nat):UInt64:=if i<nX h then (grad h L L).1.getD i 0 else (grad h L L).2.getD (i-nX h) 0
theorem along_eq {h:Hdr}(d:dimsOk h)(gs:∃t,GoodP h.step t)(gl:∃t,GoodP h.loss t)(L i:Nat)(hi:i<nN h):tanLoss h (st h L) (dst h i L) (dth0 h i)=along h L i:=by
 have h1:=tan_dst h L i L (Nat.le_refl _)
 rw[Nat.sub_self] at h1
 have h2:=grad_dual d gs gl L (dth0_length h i) L (dst h i 0) (dst_length d i 0)
 rw[<-h1,<-h2]
 simp only[dst,dth0]
 unfold nN at hi ⊢
 rw[unit_take (by omega),unit_drop]
 unfold along
 split
 ·rename_i h3
  rw[dot_unit _ _ _ h3,zeros,dot_zero_right,UInt64.add_zero]
 ·rename_i h3
  rw[zeros,dot_zero_right,UInt64.zero_add,dot_unit _ _ _ (by omega)]
end Go.VC
namespace Go.VC
open Go Go.Proofs
theorem openT_mem:∀{t:Tree} {o:Op},o∈(Tree.openT t).flat->o∈t.flat
 | .nil,_,h=>h
 | .op x r,o,h=>by
  simp only[Tree.openT,Tree.flat,List.mem_cons] at h ⊢
  exact h.imp id openT_mem
 | .rep x b e r,o,h=>by
  simp only[Tree.openT] at h
  simp only[Tree.flat,List.cons_append,List.mem_cons,List.mem_append]
  split at h
  ·exact .inr (.inr (.inr (openT_mem h)))
  ·split at h
   ·rw[Tree.flat_app,List.mem_append] at h
    rcases h with h|h
    ·exact .inr (.inl (openT_mem h))
    ·exact .inr (.inr (.inr (openT_mem h)))
   ·simp only[Tree.flat,List.cons_append,List.mem_cons,List.mem_append] at h
    rcases h with h|h|h|h
    ·exact .inl h
    ·exact .inr (.inl (openT_mem h))
    ·exact .inr (.inr (.inl h))
    ·exact .inr (.inr (.inr (openT_mem h)))
theorem openT_len:∀t:Tree,(Tree.openT t).flat.length<=t.flat.length
 | .nil=>Nat.le_refl _
 | .op x r=>by have:=openT_len r;simp[Tree.openT,Tree.flat];omega
 | .rep x b e r=>by
  have h1:=openT_len b
  have h2:=openT_len r
  simp only[Tree.openT]
  split
  ·simp[Tree.flat];omega
  ·split
   ·rw[Tree.flat_app];simp[Tree.flat];omega
   ·simp[Tree.flat];omega
def needL (t:Tree)(regs:Nat)(outs:List Int):List Bool:=(lookL (t.unrollT 0) (markL (List.replicate regs false) outs,List.replicate t.flat.length false)).2
def siftT (t:Tree)(regs:Nat)(outs:List Int):Tree:=Tree.keepT (fun i=>(needL t regs outs).getD i false) t 0
def tidyT (t:Tree)(regs:Nat)(outs:List Int):Tree:=Tree.openT (siftT t regs outs)
theorem sift_good {p:Prog}{t:Tree}(g:GoodP p t)(outs:List Int):GoodP ⟨p.regs,(siftT t p.regs.toNat outs).flat⟩ (siftT t p.regs.toNat outs):=by
 have hf:(siftT t p.regs.toNat outs).flat=Tree.sieve (fun j o=>(needL t p.regs.toNat outs).getD j false || Tree.brk o) t.flat 0:=Tree.keepT_flat _ g.ok 0
 have hm:∀o∈(siftT t p.regs.toNat outs).flat,o∈p.ops:=fun o ho=>by rw[hf] at ho;rw[<-g.flat];exact Tree.sieve_mem ho
 have hok:=Tree.keepT_ok (fun i=>(needL t p.regs.toNat outs).getD i false) g.ok 0
 refine⟨⟨?_,(scan_iff _).2 ⟨_,hok,rfl⟩,fun o ho=>g.form.2.2 o (hm o ho)⟩,⟨g.regs.1,g.regs.2.1,fun o ho=>g.regs.2.2 o (hm o ho)⟩,hok,rfl,Nat.le_trans (Tree.keepT_depth _ _ _) g.depth,Tree.keepT_sizeOk _ g.size _,Nat.le_trans (Tree.keepT_size _ _ _) g.few⟩
 have:=Tree.sieve_len (fun j o=>(needL t p.regs.toNat outs).getD j false || Tree.brk o) t.flat 0
 have h1:=g.form.1
 rw[<-g.flat] at h1
 rw[hf];dsimp only;omega
theorem open_good {p:Prog}{t:Tree}(g:GoodP p t):GoodP ⟨p.regs,(Tree.openT t).flat⟩ (Tree.openT t):=by
 have hm:∀o∈(Tree.openT t).flat,o∈p.ops:=fun o ho=>by rw[<-g.flat];exact openT_mem ho
 have hok:=Tree.openT_ok g.ok
 refine⟨⟨?_,(scan_iff _).2 ⟨_,hok,rfl⟩,fun o ho=>g.form.2.2 o (hm o ho)⟩,⟨g.regs.1,g.regs.2.1,fun o ho=>g.regs.2.2 o (hm o ho)⟩,hok,rfl,Nat.le_trans (Tree.openT_depth _) g.depth,Tree.openT_sizeOk g.size,by rw[Tree.openT_size];exact g.few⟩
 have:=openT_len t
 have h1:=g.form.1
 rw[<-g.flat] at h1
 dsimp only;omega
def tidyP (p:Prog)(t:Tree)(outs:List Int):Prog:=⟨p.regs,(tidyT t p.regs.toNat outs).flat⟩
theorem tidy_good {p:Prog}{t:Tree}(g:GoodP p t)(outs:List Int):GoodP (tidyP p t outs) (tidyT t p.regs.toNat outs):=open_good (p:=⟨p.regs,(siftT t p.regs.toNat outs).flat⟩) (sift_good g outs)
theorem tidy_wr {p:Prog}{t:Tree}(g:GoodP p t)(outs:List Int):wr_ (tidyP p t outs)<=wr_ p:=by
 rw[wr_eq g,wr_eq (tidy_good g outs)]
 unfold tidyT siftT
 rw[Tree.openT_size];exact Tree.keepT_size _ _ _
theorem tidy_run {p:Prog}{t:Tree}(g:GoodP p t){outs:List Int}(ho:∀x∈outs,0<=x/\x<p.regs){r d:List UInt64}(hr:r.length=p.regs.toNat)(hd:d.length=p.regs.toNat):∀x∈outs,
  (fwd (unr p) r).getD x.toNat 0=(fwd (unr (tidyP p t outs)) r).getD x.toNat 0/\(dfwd (unr p) r d).getD x.toNat 0=(dfwd (unr (tidyP p t outs)) r d).getD x.toNat 0:=by
 intro x hx
 have h1:unr p=(t.unrollT 0).map Prod.snd:=by rw[unr_eq g,Tree.unrollT_snd]
 have h2:unr (tidyP p t outs)=((t.unrollT 0).filter fun q=>(needL t p.regs.toNat outs).getD q.1 false).map Prod.snd:=by
  rw[unr_eq (tidy_good g outs)]
  unfold tidyT siftT
  rw[Tree.openT_unroll,Tree.keepT_unroll]
 rw[h1,h2]
 have:=live_agree (n:=p.regs.toNat) (m:=t.flat.length) (fun i=>(needL t p.regs.toNat outs).getD i false) (t.unrollT 0) (markL (List.replicate p.regs.toNat false) outs) (List.replicate t.flat.length false) (by rw[markL_len];simp) (by simp) (fun q hq=>?_) (fun i hi=>hi) r r d d hr hr hd hd (fun k _=>⟨rfl,rfl⟩)
 ·refine this x.toNat ((markL_get _ _ _).2 (.inr ⟨?_,x,hx,rfl⟩))
  have:=ho x hx
  simp;omega
 ·obtain⟨q1,q2,q3⟩:=Tree.unrollT_lt t 0 q hq
  have hmem:q.2∈unr p:=by rw[h1];exact List.mem_map.2 ⟨q,hq,rfl⟩
  exact⟨unr_reg ⟨t,g⟩ hmem,unr_kind ⟨t,g⟩ hmem,by omega⟩
structure AlikeH (h g:Hdr):Prop where
 x:g.x=h.x
 th:g.th=h.th
 s:nS g=nS h
 l:nL g=nL h
 fs:∀r,r.length=nS h->(fwd (unr g.step) r).take (nX h)=(fwd (unr h.step) r).take (nX h)
 ds:∀r d,r.length=nS h->d.length=nS h->(dfwd (unr g.step) r d).take (nX h)=(dfwd (unr h.step) r d).take (nX h)
 fl:∀r,r.length=nL h->rg (fwd (unr g.loss) r) 0=rg (fwd (unr h.loss) r) 0
 dl:∀r d,r.length=nL h->d.length=nL h->rg (dfwd (unr g.loss) r d) 0=rg (dfwd (unr h.loss) r d) 0
section
variable {h g:Hdr}(w:AlikeH h g)(dm:dimsOk h)
include w dm
theorem alike_st:∀t,st g t=st h t
 | 0=>w.x
 | t+1=>by
  have ih:=alike_st t
  have hx:nX g=nX h:=by simp only[nX,w.x]
  simp only[st,stepOut,ih,hx]
  have e:stepIn g t (st h t)=stepIn h t (st h t):=by simp only[stepIn,w.s,w.th]
  rw[e]
  exact w.fs _ (stepIn_length dm (st_length dm t))
theorem alike_loss (L:Nat):lossOf g L=lossOf h L:=by
 unfold lossOf lossOut
 rw[alike_st w dm]
 have e:lossIn g (st h L)=lossIn h (st h L):=by simp only[lossIn,w.l,w.th]
 rw[e]
 exact w.fl _ (lossIn_length dm (st_length dm L))
theorem alike_dst (i:Nat):∀t,dst g i t=dst h i t/\dth0 g i=dth0 h i:=by
 have hx:nX g=nX h:=by simp only[nX,w.x]
 have ht:nT g=nT h:=by simp only[nT,w.th]
 have hd0:dth0 g i=dth0 h i:=by simp only[dth0,nN,hx,ht]
 intro t
 refine⟨?_,hd0⟩
 induction t with
 | zero=>simp only[dst,nN,hx,ht]
 | succ t ih=>
  simp only[dst,ih,hd0,alike_st w dm,tanStep,hx]
  have e:stepIn g t (st h t)=stepIn h t (st h t):=by simp only[stepIn,w.s,w.th]
  rw[e,w.s]
  refine w.ds _ _ (stepIn_length dm (st_length dm t)) ?_
  obtain⟨d1,d2,d3,d4,d5⟩:=dm
  have h1:=dst_length ⟨d1,d2,d3,d4,d5⟩ i t
  have h2:=dth0_length h i
  rw[padTo_length]
  simp only[List.length_append,List.length_singleton,h1,h2,nX,nT,nS];omega
theorem alike_tan (L i:Nat):tanLoss g (st g L) (dst g i L) (dth0 g i)=tanLoss h (st h L) (dst h i L) (dth0 h i):=by
 rw[alike_st w dm,(alike_dst w dm i L).1,(alike_dst w dm i L).2]
 unfold tanLoss
 have e:lossIn g (st h L)=lossIn h (st h L):=by simp only[lossIn,w.l,w.th]
 rw[e,w.l]
 refine w.dl _ _ (lossIn_length dm (st_length dm L)) ?_
 have h1:=dst_length dm i L
 have h2:=dth0_length h i
 obtain⟨d1,d2,d3,d4,d5⟩:=dm
 rw[padTo_length]
 simp only[List.length_append,h1,h2,nX,nT,nL];omega
end
theorem list_getD_ext {a b:List UInt64}(hl:a.length=b.length)(h:∀i,i<a.length->a.getD i 0=b.getD i 0):a=b:=by
 refine List.ext_getElem hl fun i h1 h2=>?_
 have:=h i h1
 simp only[List.getD_eq_getElem?_getD,List.getElem?_eq_getElem h1,List.getElem?_eq_getElem h2,Option.getD_some] at this
 exact this
theorem alike_grad {h g:Hdr}(w:AlikeH h g)(dm:dimsOk h)(dg:dimsOk g)(s1:∃t,GoodP h.step t)(l1:∃t,GoodP h.loss t)(s2:∃t,GoodP g.step t)(l2:∃t,GoodP g.loss t)(L:Nat):grad g L L=grad h L L:=by
 have hx:nX g=nX h:=by simp only[nX,w.x]
 have ht:nT g=nT h:=by simp only[nT,w.th]
 have key:∀i,i<nN h->along g L i=along h L i:=fun i hi=>by
  rw[<-along_eq dm s1 l1 L i hi,<-along_eq dg s2 l2 L i (by simp only[nN,hx,ht];exact hi),alike_tan w dm]
 obtain⟨a1,a2⟩:=grad_length dm L L
 obtain⟨b1,b2⟩:=grad_length dg L L
 refine Prod.ext (list_getD_ext (by omega) fun i hi=>?_) (list_getD_ext (by omega) fun i hi=>?_)
 ·have:=key i (by unfold nN;omega)
  unfold along at this
  rw[if_pos (by omega),if_pos (by omega)] at this
  exact this
 ·have:=key (nX h+i) (by unfold nN;omega)
  unfold along at this
  rw[if_neg (by omega),if_neg (by omega),hx,Nat.add_sub_cancel_left] at this
  exact this
end Go.VC
namespace Go.VC
open Go Go.Proofs Go.RowKit
structure Lk (p:Prog)(a:Option Addr)(c p2 p8 p9 p10 q8 q10:Nat)(s:List Bool × List Bool)(cnt:Int)(H:Heap):Prop where
 o2:Own H p2 (progC p a p.ops.length c)
 ro:RowO H a p.ops.length p.ops
 o8:Own H p8 [.slice (some ⟨q8,0,none⟩) p.regs.toNat p.regs.toNat]
 o9:Own H p9 [.func (.func 255) #[] #[.pointer (some ⟨p8,0,none⟩)]]
 o10:Own H p10 [.slice (some ⟨q10,0,none⟩) p.ops.length p.ops.length,.slice none 0 0,.int .i64 cnt]
 w:Own H q8 (bls s.1)
 f:Own H q10 (bls s.2)
 l1:s.1.length=p.regs.toNat
 l2:s.2.length=p.ops.length
def six (p2 p8 p9 p10 q8 q10:Nat):List Nat:=[p2,p8,p9,p10,q8,q10]
theorem Lk.mod {p:Prog}{a:Option Addr}{c p2 p8 p9 p10 q8 q10:Nat}{s:List Bool × List Bool}{cnt:Int}{H H':Heap}{U:List Nat}(h:Lk p a c p2 p8 p9 p10 q8 q10 s cnt H)(m:Mod U H H')
  (hU:∀x∈six p2 p8 p9 p10 q8 q10++blkL a p.ops.length,x∉U):Lk p a c p2 p8 p9 p10 q8 q10 s cnt H':=
 ⟨h.o2.mod m (hU _ (by simp[six])),m.rowz (off_of fun v hv hb=>hU v (List.mem_append.2 (.inr hb)) hv) h.ro,h.o8.mod m (hU _ (by simp[six])),h.o9.mod m (hU _ (by simp[six])),h.o10.mod m (hU _ (by simp[six])),h.w.mod m (hU _ (by simp[six])),h.f.mod m (hU _ (by simp[six])),h.l1,h.l2⟩
structure ApartL (a:Option Addr)(l p2 p8 p9 p10 q8 q10:Nat):Prop where
 nd:(six p2 p8 p9 p10 q8 q10).Nodup
 na:∀x∈six p2 p8 p9 p10 q8 q10,x∉blkL a l
def J200 (p:Prog)(a:Option Addr)(c p2 p8 p9 p10 q8 q10:Nat)(W:List (Nat × Op))(s0:List Bool × List Bool):List Nat->Nat->Heap->Prop:=fun V k H=>
 V=six p2 p8 p9 p10 q8 q10/\∃cnt:Nat,cnt<=k/\Lk p a c p2 p8 p9 p10 q8 q10 (lookL (W.drop (W.length-k)) s0) cnt H
theorem J200_frame {p:Prog}{a:Option Addr}{c p2 p8 p9 p10 q8 q10:Nat}{W:List (Nat × Op)}{s0:List Bool × List Bool}{N:Nat}(hN:∀x∈blkL a p.ops.length,x<N):FrameJ N (J200 p a c p2 p8 p9 p10 q8 q10 W s0):=by
 rintro V k H U H' ⟨rfl,cnt,h1,h2⟩ m hu hU
 refine⟨rfl,cnt,h1,h2.mod m fun x hx hxu=>?_⟩
 rcases List.mem_append.1 hx with h|h
 ·exact (hu x h).2 hxu
 ·have:=hN x h;have:=hU x hxu;omega
theorem reads_in {n:Nat}{o:Op}(h:RegOk n o):∀x∈readsOp o,0<=x/\x<n:=by
 obtain⟨a0,a1,b0,b1,c0,c1⟩:=h
 intro x hx
 unfold readsOp at hx
 split at hx
 ·simp at hx;rcases hx with rfl|rfl<;>omega
 ·split at hx
  ·simp at hx;subst hx;omega
  ·simp at hx
set_option maxRecDepth 100000 in
theorem round200 {p:Prog}{a:Option Addr}{c p2 p8 p9 p10 q8 q10:Nat}(ap:ApartL a p.ops.length p2 p8 p9 p10 q8 q10){W:List (Nat × Op)}{s0:List Bool × List Bool}{V:List Nat}{k:Nat}{H:Heap}{q:Nat × Op}{lp:Nat}{y:Int}(hk:k<W.length)
  (hq:W[W.length-1-k]?=some q) (hop:p.ops[q.1]?=some q.2) (hreg:RegOk p.regs.toNat q.2) (hr64:p.regs.toNat<=64) (hol:p.ops.length<=4096) (hW:W.length<=65536) (hj:J200 p a c p2 p8 p9 p10 q8 q10 W s0 V k H) (hV:∀v∈V,v<H.size) (hl:lp<H.size) (hlV:lp∉V) (hla:∀x∈blkL a p.ops.length,x<lp) :
  R200 Tryz.prog [(46,.int .i64 (q.1:Int)),(45,.int .i64 y),(2,.ptr p2 0),(8,.ptr p8 0),(9,.ptr p9 0),(10,.ptr p10 0)] H (fun H1=>Mod V H H1) (fun H1 H2=>Mod [lp] H1 H2)
   (fun H2 H3=>Mod V H2 H3/\∃V',J200 p a c p2 p8 p9 p10 q8 q10 W s0 V' (k+1) H3/\∀v∈V',v<H3.size/\(v∈V\/H.size<=v)):=by
 obtain⟨rfl,cnt,hcnt,lk⟩:=hj
 refine r200 _ _ _ _ _ _ _ _ _ _ ⟨Mod.refl,fun H2 m2=>?_⟩
 have lk2:=lk.mod m2 fun x hx=>by
  simp;rintro rfl
  rcases List.mem_append.1 hx with h|h
  ·exact hlV h
  ·have:=hla _ h;omega
 have hz2:=m2.1
 have hstep:lookL (W.drop (W.length-(k+1))) s0=VC.lk q (lookL (W.drop (W.length-k)) s0):=by
  have hlt:W.length-(k+1)<W.length:=by omega
  have e:W.drop (W.length-(k+1))=q ::W.drop (W.length-k):=by
   rw[List.drop_eq_getElem_cons hlt,show W.length-(k+1)+1=W.length-k from by omega]
   have hq':W[W.length-(k+1)]?=some q:=by rw[<-hq];congr 1;omega
   obtain⟨h1,h2⟩:=List.getElem?_eq_some_iff.1 hq'
   rw[h2]
  rw[e];rfl
 generalize hs:lookL (W.drop (W.length-k)) s0=s at lk2 hstep
 have hl1:=lk2.l1
 have hl2:=lk2.l2
 have hqi:q.1<p.ops.length:=(List.getElem?_eq_some_iff.1 hop).1
 obtain⟨bo,oo,eo,hrow⟩:=RowO.rdL lk2.ro (i:=(q.1:Int)) (by omega) (by omega)
 have hopv:p.ops[(q.1:Int).toNat]'(by simpa using hqi)=q.2:=by
  have:=(List.getElem?_eq_some_iff.1 hop).2
  simpa using this
 rw[hopv] at hrow
 refine⟨_,_,_,lk2.o2.rd 1 rfl,bo,oo,eo,⟨by omega,by omega⟩,opC q.2,rfl,hrow,fun H3 b n3=>⟨rfl,opC_one,n3.own.w 0 5 rfl,fun H4 h4=>?_⟩⟩
 obtain⟨e4,o4⟩:=tmpE (cs:=opC q.2) n3 rfl h4
 have hb:=n3.ge
 have hbl:b<H4.size:=o4.lt (by simp[opC])
 have lk4:=lk2.mod e4 (by simp)
 have hz4:=e4.1
 have hbV:∀x∈six p2 p8 p9 p10 q8 q10,x≠b:=fun x hx=>by have:=hV x hx;omega
 obtain⟨r1,r2,r3,r4,r5,r6⟩:=hreg
 have hnd:=ap.nd
 simp only[six,List.nodup_cons,List.mem_cons,List.not_mem_nil,or_false,not_or,List.nodup_nil,and_true,not_false_eq_true] at hnd
 obtain⟨⟨n1,n2,n3',n4,n5⟩,⟨n6,n7,n8,n9⟩,⟨n10,n11,n12⟩,⟨n13,n14⟩,n15⟩:=hnd
 have bit:∀{H':Heap} {w:List Bool},Own H' q8 (bls w)->w.length=p.regs.toNat->rd H' q8 (0+Int.toNat q.2.d)=some (.bool (w.getD q.2.d.toNat false)):=fun h hw=>by
  rw[Nat.zero_add,List.getD_eq_getElem?_getD,List.getElem?_eq_getElem (by omega)]
  exact h.rd _ (bls_get (by omega))
 refine⟨_,_,_,lk4.o8.rd 0 rfl,_,o4.rd 1 rfl,q8,0,rfl,⟨r1,by omega⟩,_,bit lk4.w hl1,fun hf=>?_,fun ht=>?_⟩
 ·have hf':s.1.getD q.2.d.toNat false=false:=by simpa using hf
  refine⟨e4.mono (by simp),_,⟨rfl,cnt,by omega,?_⟩,fun v hv=>⟨by have:=hV v hv;omega,.inl hv⟩⟩
  rw[hstep]
  unfold VC.lk
  rw[if_neg (by rw[hf'];simp)]
  exact lk4
 have ht':s.1.getD q.2.d.toNat false=true:=by simpa using ht
 refine⟨_,_,_,lk4.o8.rd 0 rfl,_,o4.rd 1 rfl,q8,0,rfl,⟨r1,by omega⟩,wok_sub lk4.w.2 (by omega) (by rw[bls_length];omega),fun H5 h5=>?_⟩
 rw[Nat.zero_add] at h5
 have w5:=lk4.w.wr q.2.d.toNat (.bool false)
 rw[<-h5,bls_set] at w5
 have m5:Mod [q8] H4 H5:=wrM h5
 clear h5
 have hz5:=m5.1
 have o5:Own H5 b (opC q.2):=o4.mod m5 (by have:=hbV q8 (by simp[six]);simpa using fun e=>this e.symm)
 have p8':=lk4.o8.mod m5 (by simpa using n8)
 have p9':=lk4.o9.mod m5 (by simpa using n11)
 have p10':=lk4.o10.mod m5 (by simpa using n13)
 have f5:=lk4.f.mod m5 (by simpa using fun e=>n15 e.symm)
 have p2':=lk4.o2.mod m5 (by simpa using n4)
 have hq8a:∀v∈[q8],v∉blkL a p.ops.length:=fun v hv=>by simp at hv;subst hv;exact ap.na _ (by simp[six])
 have ro5:RowO H5 a p.ops.length p.ops:=m5.rowz (off_of hq8a) lk4.ro
 refine⟨_,p9'.rd 0 rfl,opC q.2,rfl,o5.1,c259 q.2 fun ar lr cr H6 hlr hBr e6=>⟨_,_,_,rfl,e6.rd (by simp) (p9'.rd 0 rfl),255,#[],#[.pointer (some ⟨p8,0,none⟩)],rfl,by kernel_rfl,?_⟩⟩
 have hz6:=e6.1
 have w6:=w5.mod e6 (by simp)
 have hlw:(s.1.set q.2.d.toNat false).length=p.regs.toNat:=by simpa using hl1
 have hq8l:q8<H5.size:=by have:=hV q8 (by simp[six]);omega
 refine c255 (p:=p8) (bw:=q8) (n:=p.regs.toNat) (w:=s.1.set q.2.d.toNat false) ((p8'.mod e6 (by simp)).rd 0 rfl) n8 w6 hlw hBr.row (fun h0=>hBr.off (by have:=hBr.le;omega) (by simpa using hq8l)) (by omega) (reads_in ⟨r1,r2,r3,r4,r5,r6⟩) fun H7 w7 m7=>?_
 have hz7:=m7.1
 have m57:Mod [q8] H5 H7:=(e6.mono (by simp)).trans m7
 have p10'':=p10'.mod m57 (by simpa using n13)
 have f7:=f5.mod m57 (by simpa using fun e=>n15 e.symm)
 refine⟨_,_,_,p10''.rd 0 rfl,q10,0,rfl,⟨by omega,by omega⟩,wok_sub f7.2 (by omega) (by rw[bls_length];omega),fun H8 h8=>?_⟩
 rw[Nat.zero_add,Int.toNat_natCast] at h8
 have f8:=f7.wr q.1 (.bool true)
 rw[<-h8,bls_set] at f8
 have m8:Mod [q10] H7 H8:=wrM h8
 clear h8
 have hz8:=m8.1
 have p10''':=p10''.mod m8 (by simpa using n14)
 refine⟨_,p10'''.rd 2 rfl,by unfold I64;omega,p10'''.w 2 1 rfl,fun H9 h9=>?_⟩
 have o9:=p10'''.wr 2 (.int .i64 ((cnt:Int)+1))
 rw[<-h9] at o9
 have m9:Mod [p10] H8 H9:=wrM h9
 clear h9
 have hz9:=m9.1
 have m59:Mod [q8,q10,p10] H5 H9:=(m57.mono (by simp)).trans ((m8.mono (by simp)).trans (m9.mono (by simp)))
 have m49:Mod [q8,q10,p10] H4 H9:=(m5.mono (by simp)).trans m59
 have h3a:∀v∈[q8,q10,p10],v∉blkL a p.ops.length:=fun v hv=>ap.na v (by simp only[List.mem_cons,List.not_mem_nil,or_false] at hv;rcases hv with rfl|rfl|rfl<;>simp[six])
 refine⟨(e4.mono (by simp)).trans (m49.mono fun x hx=>by simp only[List.mem_cons,List.not_mem_nil,or_false] at hx;rcases hx with rfl|rfl|rfl<;>simp[six]),_,⟨rfl,cnt+1,by omega,?_⟩,fun v hv=>⟨by have:=hV v hv;omega,.inl hv⟩⟩
 rw[hstep]
 unfold VC.lk
 rw[if_pos ht']
 refine⟨lk4.o2.mod m49 (by simp[n4,n5,n3']),m49.rowz (off_of h3a) lk4.ro,lk4.o8.mod m49 (by simp[n8,n9,n7]),lk4.o9.mod m49 (by simp[n11,n12,n10]),?_,?_,?_,?_,?_⟩
 ·have e:((cnt+1:Nat):Int)=(cnt:Int)+1:=by push_cast;rfl
  rw[e];exact o9
 ·exact (w7.mod m8 (by simpa using n15)).mod m9 (by simpa using fun e=>n13 e.symm)
 ·exact f8.mod m9 (by simpa using fun e=>n14 e.symm)
 ·rw[markL_len];exact hlw
 ·simpa using hl2
end Go.VC
