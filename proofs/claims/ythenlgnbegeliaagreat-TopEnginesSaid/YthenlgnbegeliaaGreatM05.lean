/- Texts that the claim rests on: CDrv7, CDrv8, PDrv, CDo, CDo2, CNew, CNew2, CNew3, CEng, CEng2, POff, PStr, CEng3, VRef, CRef1, CRef2, CRef3, CRef4, CRef5, CRef6, CRef7. No condition. -/
import Derived.Test.YthenlgnbegeliaaGreatM04
namespace Go.VC
open Go Go.Proofs
variable {H:Heap}{R:Value->Heap->Prop}
theorem DrvM.shelf {H:Heap}{b:DB}{h:Hdr}{d:DS}{s:PS}{l:List Held}{post:List UInt64}(v:Drv H b h d s (slotsW (nX h) l) post)(hm:h.mode≠3)(hl:l.length=(slotsOf h).toNat)(hok:∀x∈l,HeldOk (nX h) x) :
  Shelf H b.s b.a b.w s.l.flatten l post (nX h) (s.l.flatten.length+(slotsW (nX h) l).length):=by
 have h1:=v.sl hm
 obtain⟨d1,d2,d3,d4,d5⟩:=v.ok.1.dims
 rw[<-hl] at h1
 exact⟨h1,v.ar,by rw[slotsW_length hok];exact Nat.le_refl _,by simp only[nX];omega,by simp only[nX];omega,hok,v.so.2.1,v.so.2.2.1⟩
theorem slot_eq {h:Hdr}(hm:h.mode≠3):slotOf h=(nX h:Int)+1:=by
 have:slotOf h=if h.mode=3 then (wr_ h.step:Int)+h.step.regs else (h.x.length:Int)+1:=rfl
 rw[this,if_neg hm];rfl
theorem c242' {bs ba bw:Nat}{pre post:List UInt64}{l:List Held}{x given lx:Nat}{tt:Int}(e:lx=x)(h:Shelf H bs ba bw pre l post x given)(k:Nat)(hk:k<l.length)(hn:l[k]=none)(t:Nat)(et:tt=t)(ht:t<65536)
  {a:Option Addr} {c:Nat} {xs:List UInt64} (hx:RowU H a x xs)
  (K:∀(r:Int) (H':Heap),Shelf H' bs ba bw pre (l.set k (some (t,xs))) post x given->Mod [bw] H H'->R (.int .i64 r) H'):Ru 242 [.pointer (some ⟨bs,0,none⟩),.int .i64 (k:Int),.int .i64 tt,.slice a lx c] H R:=by
 subst e;subst et;exact c242 h k hk hn t ht hx K
theorem DrvM.reshelf {H H':Heap}{b:DB}{h:Hdr}{d:DS}{s:PS}{l l':List Held}{post:List UInt64}(v:Drv H b h d s (slotsW (nX h) l) post)(hok:∀x∈l,HeldOk (nX h) x)(hl:l'.length=l.length){g:Nat}
  (hS:Shelf H' b.s b.a b.w s.l.flatten l' post (nX h) g) (m:Mod [b.w] H H') (hg:g=s.l.flatten.length+(slotsW (nX h) l).length:=by rfl):Drv H' b h d s (slotsW (nX h) l') post:=by
 subst hg
 exact v.setW hS.ar m rfl (by rw[slotsW_length hS.ok,slotsW_length hok,hl])
theorem c189 {b:DB}{h:Hdr}{d:DS}{s:PS}{l:List Held}{post:List UInt64}(v:Drv H b h d s (slotsW (nX h) l) post)(hm:h.mode≠3)(hl:l.length=(slotsOf h).toNat)(hok:∀x∈l,HeldOk (nX h) x)
  (k:Nat) (hk:k<l.length) (hn:l[k]=none) (t:Nat) (ha:d.at_=t) (ht:t<65536) (h0:0<=d.live) (hw:d.live+slotOf h<=h.words)
  (K:∀H',Drv H' b h { d with live:=d.live+slotOf h,peak:=max d.peak (d.live+slotOf h) } s (slotsW (nX h) (l.set k (some (t,s.st)))) post->Mod [b.m,b.w] H H'->R (.tuple #[]) H'):Ru 189 [.pointer (some ⟨b.d,0,none⟩),.int .i64 (k:Int)] H R:=by
 have ok:=v.ok.1
 have hwd:=ok.words
 have hse:=slot_eq hm
 refine v189 _ _ _ ⟨_,by rw[Nat.zero_add];exact v.rd 16 rfl,_,by rw[Nat.zero_add];exact v.rd 2 rfl,?_⟩
 refine c108 (slotOf h) v.met (by omega) hw h0 (by omega) fun H1 o1 m1=>⟨_,rfl,?_⟩
 have v1:=v.setM _ _ o1 m1
 have hsp:slotsPtr h b=.pointer (some ⟨b.s,0,none⟩):=by unfold slotsPtr;rw[if_neg hm]
 refine⟨_,by rw[Nat.zero_add];exact v1.rd 15 rfl,_,by rw[Nat.zero_add];exact v1.rd 18 rfl,c121 v1 1 (by omega) fun a c H2 hB e2=>⟨_,_,_,rfl,by rw[Nat.zero_add];exact (v1.ext e2).rd 18 rfl,by rw[Nat.zero_add];exact (v1.ext e2).rd 15 rfl,?_⟩⟩
 have v2:=v1.ext e2
 have hsh:=v2.shelf hm hl hok
 rw[hsp]
 have hrow:RowU H2 a (nX h) s.st:=by have:=hB.row;have hs:=v.lens.st;rw[<-hs];exact this
 refine c242' (lx:=s.st.length) v.lens.st hsh k hk hn t ha ht hrow fun r H3 hS m3=>⟨_,rfl,?_⟩
 have v3:=v2.reshelf hok (by rw[List.length_set]) hS m3
 refine K H3 v3 ((m1.mono (by simp)).trans ((Mod.ext e2).trans (m3.mono (by simp))))
theorem c190 {b:DB}{h:Hdr}{d:DS}{s:PS}{l:List Held}{post:List UInt64}(v:Drv H b h d s (slotsW (nX h) l) post)(hm:h.mode≠3)(hl:l.length=(slotsOf h).toNat)(hok:∀x∈l,HeldOk (nX h) x)
  (k:Nat) (hk:k<l.length) {t:Nat} {xs:List UInt64} (hn:l[k]=some (t,xs))
  (K:∀H',Drv H' b h d { s with st:=xs } (slotsW (nX h) l) post->Mod [b.w] H H'->R (.tuple #[]) H'):Ru 190 [.pointer (some ⟨b.d,0,none⟩),.int .i64 (k:Int)] H R:=by
 have hsp:slotsPtr h b=.pointer (some ⟨b.s,0,none⟩):=by unfold slotsPtr;rw[if_neg hm]
 have hxl:xs.length=nX h:=by have:=hok _ (List.getElem_mem hk);rw[hn] at this;exact this.2
 have hlen:=v.lens
 refine v190 _ _ _ ⟨_,by rw[Nat.zero_add];exact v.rd 15 rfl,?_⟩
 rw[hsp]
 refine c243 (v.shelf hm hl hok) k hk hn fun a c H1 hB e1=>⟨_,_,_,_,_,rfl,?_⟩
 have v1:=v.ext e1
 refine c112 v1 1 (by omega) hB.row (by show _<=s.st.length;rw[hlen.st];exact Nat.le_refl _) fun H2 v2 m2=>?_
 have hP:putP s.l 1 xs=({ s with st:=xs }:PS).l:=by
  have e1:s.st.drop xs.length=[]:=List.drop_of_length_le (by rw[hlen.st,hxl];exact Nat.le_refl _)
  have e3:putP s.l 1 xs=[s.th,xs++s.st.drop xs.length,s.sr,s.lr,s.ad,s.ax,s.ag,s.tp]:=rfl
  rw[e3,e1,List.append_nil];rfl
 rw[hP] at v2
 exact K H2 v2 ((Mod.ext e1).trans m2)
theorem c191 {b:DB}{h:Hdr}{d:DS}{s:PS}{l:List Held}{post:List UInt64}(v:Drv H b h d s (slotsW (nX h) l) post)(hm:h.mode≠3)(hl:l.length=(slotsOf h).toNat)(hok:∀x∈l,HeldOk (nX h) x)
  (k:Nat) (hk:k<l.length) (hn:l[k]≠none) (h0:slotOf h<=d.live) (hp:d.live<=d.peak) (hw:d.live<=h.words)
  (K:∀H',Drv H' b h { d with live:=d.live-slotOf h } s (slotsW (nX h) (l.set k none)) post->Mod [b.m,b.w] H H'->R (.tuple #[]) H'):Ru 191 [.pointer (some ⟨b.d,0,none⟩),.int .i64 (k:Int)] H R:=by
 have ok:=v.ok.1
 have hwd:=ok.words
 have hse:=slot_eq hm
 have hsp:slotsPtr h b=.pointer (some ⟨b.s,0,none⟩):=by unfold slotsPtr;rw[if_neg hm]
 refine v191 _ _ _ ⟨_,by rw[Nat.zero_add];exact v.rd 15 rfl,?_⟩
 rw[hsp]
 refine c244 (v.shelf hm hl hok) k hk hn fun H1 hS m1=>⟨_,rfl,?_⟩
 have v1:=v.reshelf hok (by rw[List.length_set]) hS m1
 refine⟨_,by rw[Nat.zero_add];exact v1.rd 16 rfl,_,by rw[Nat.zero_add];exact v1.rd 2 rfl,?_⟩
 refine c185 (slotOf h) v1.met (by omega) h0 hp (by omega) fun H2 o2 m2=>⟨_,rfl,?_⟩
 have v2:=v1.setM _ _ o2 m2
 exact K H2 v2 ((m1.mono (by simp)).trans (m2.mono (by simp)))
theorem c235 {b:DB}{h:Hdr}{d:DS}{s:PS}{K post:List UInt64}(v:Drv H b h d s K post)(n:Nat)(h0:0<=d.live)(hw:d.live+n<=h.words)(g:FuncId)(u w:Array Value)(hg:callable Tryz.prog g=true)
  (k:∀H1,Drv H1 b h { d with live:=d.live+n,peak:=max d.peak (d.live+n) } s K post->Mod [b.m] H H1->Ru g (u.toList++[]++w.toList) H1 fun _ H2=>∃d' s',Drv H2 b h d' s' K post/\d'.live=d.live+n/\d'.peak=max d.peak (d.live+n)/\
   ∀H3,Drv H3 b h { d' with live:=d.live } s' K post->Mod [b.m] H2 H3->R (.tuple #[]) H3) :
  Ru 235 [.pointer (some ⟨b.d,0,none⟩),.int .i64 (n:Int),.func (.func g) u w] H R:=by
 have hwd:=v.ok.1.words
 refine v235 _ _ _ _ ⟨_,by rw[Nat.zero_add];exact v.rd 16 rfl,?_⟩
 refine c108 (n:Int) v.met (by omega) hw h0 (by omega) fun H1 o1 m1=>⟨_,rfl,g,u,w,rfl,hg,?_⟩
 refine (k H1 (v.setM _ _ o1 m1) m1).mono ?_
 rintro r H2 ⟨d',s',v2,e1,e2,k2⟩
 refine⟨_,by rw[Nat.zero_add];exact v2.rd 16 rfl,?_⟩
 have hmet:=v2.met
 refine c185 (n:Int) hmet (by omega) (by omega) (by omega) (by omega) fun H3 o3 m3=>⟨_,rfl,?_⟩
 have v3:=v2.setM _ _ o3 m3
 have:d'.live-(n:Int)=d.live:=by omega
 rw[this] at v3
 exact k2 H3 v3 m3
end Go.VC
namespace Go.VC
open Go Go.Proofs
variable {H:Heap}{R:Value->Heap->Prop}
theorem c237' {b:DB}{h:Hdr}{d:DS}{s:PS}{K post:List UInt64}{lx:Nat}(e:lx=nX h)(v:Drv H b h d s K post)(hth:s.th=h.th){a0:Option Addr}{c0:Nat}{x:List UInt64}(hx:RowU H a0 (nX h) x)
  (hlo:0<=d.losses/\d.losses<=4611686018427387904) (hsw:0<=d.sweeps/\d.sweeps<=4611686018427387904)
  (k:∀H' ad,Drv H' b h { d with losses:=d.losses+1,sweeps:=d.sweeps+1,loss:=rg (lossOut h x) 0 } { s with lr:=lossOut h x,ad:=ad,ax:=headA h (pullLoss h x),ag:=addL s.ag (restA h (pullLoss h x)) } K post->Mod [b.d,b.w] H H'->R (.tuple #[]) H') :
  Ru 237 [.pointer (some ⟨b.d,0,none⟩),.slice a0 lx c0] H R:=by
 subst e;exact c237 v hth hx hlo hsw k
theorem c182 {b:DB}{h:Hdr}{d:DS}{s:PS}{K post:List UInt64}(v:Drv H b h d s K post)(hth:s.th=h.th)(x:Int)(h0:0<=d.live)(hw:d.live+wr_ h.loss<=h.words)
  (hlo:0<=d.losses/\d.losses<=4611686018427387904) (hsw:0<=d.sweeps/\d.sweeps<=4611686018427387904)
  (k:∀H' lr ad,Drv H' b h { d with losses:=d.losses+1,sweeps:=d.sweeps+1,loss:=rg (lossOut h s.st) 0,peak:=max d.peak (d.live+wr_ h.loss) } { s with lr:=lr,ad:=ad,ax:=headA h (pullLoss h s.st),ag:=addL s.ag (restA h (pullLoss h s.st)) } K post->Mod [b.d,b.m,b.w] H H'->R (.tuple #[]) H') :
  Ru 182 [.pointer (some ⟨b.d,0,none⟩),.int .i64 x] H R:=by
 have ok:=v.ok.1
 refine v182 _ _ _ fun H1 p n1=>⟨_,n1.rd 0,b.d,0,rfl,_,rfl,(v.ext n1.mod).hdr,c103 h b.hp (v.ext n1.mod).rows ok fun H2 e2=>⟨_,_,rfl,_,e2.rd (by simp) (n1.rd 0),?_⟩⟩
 have e02:=n1.mod.thenExt e2
 have v2:=v.ext e02
 have hfp:DOff h b [p]:=v.fresh (by simpa using n1.ge)
 refine c235 v2 (wr_ h.loss) h0 hw 236 _ _ (by kernel_rfl) fun H3 v3 m3=>?_
 have rp:rd H3 p 0=some (.pointer (some ⟨b.d,0,none⟩)):=m3.rd (by simp;exact fun e=>hfp.m (by simp[e])) (e2.rd (by simp) (n1.rd 0))
 refine v236 _ _ ⟨_,rp,_,rp,c121 v3 1 (by omega) fun a c H4 hB e4=>⟨_,_,_,rfl,e4.rd (by simp) rp,?_⟩⟩
 have v4:=v3.ext e4
 have hst:=v.lens.st
 have hrow:RowU H4 a (nX h) s.st:=by have:=hB.row;rw[<-hst];exact this
 refine c237' (lx:=s.st.length) hst v4 hth hrow hlo hsw fun H5 ad v5 m5=>⟨_,_,v5,rfl,rfl,fun H6 v6 m6=>?_⟩
 exact k H6 _ _ v6 (((Mod.ext e02).trans (m3.mono (by simp))).trans ((Mod.ext e4).trans ((m5.mono (by simp)).trans (m6.mono (by simp)))))
theorem c193 {b:DB}{h:Hdr}{d:DS}{s:PS}{K post:List UInt64}(v:Drv H b h d s K post)(hth:s.th=h.th)(t:Nat)(ha:d.at_=t)(hx:s.st.length=nX h)(x:Int)(h0:0<=d.live)(hw:d.live+wr_ h.step<=h.words)
  (hta:0<=d.tapd/\d.tapd<=4611686018427387904) (hsw:0<=d.sweeps/\d.sweeps<=4611686018427387904)
  (k:∀H' sr ad,Drv H' b h { d with tapd:=d.tapd+1,sweeps:=d.sweeps+1,peak:=max d.peak (d.live+wr_ h.step) } { s with sr:=sr,ad:=ad,ax:=headA h (pullStep h t s.st s.ax),ag:=addL s.ag (restA h (pullStep h t s.st s.ax)) } K post->Mod [b.d,b.m,b.w] H H'->R (.tuple #[]) H') :
  Ru 193 [.pointer (some ⟨b.d,0,none⟩),.int .i64 x] H R:=by
 have ok:=v.ok.1
 refine v193 _ _ _ fun H1 p n1=>⟨_,n1.rd 0,b.d,0,rfl,_,rfl,(v.ext n1.mod).hdr,c103 h b.hp (v.ext n1.mod).rows ok fun H2 e2=>⟨_,_,rfl,_,e2.rd (by simp) (n1.rd 0),?_⟩⟩
 have e02:=n1.mod.thenExt e2
 have v2:=v.ext e02
 have hfp:DOff h b [p]:=v.fresh (by simpa using n1.ge)
 refine c235 v2 (wr_ h.step) h0 hw 246 _ _ (by kernel_rfl) fun H3 v3 m3=>?_
 have rp:rd H3 p 0=some (.pointer (some ⟨b.d,0,none⟩)):=m3.rd (by simp;exact fun e=>hfp.m (by simp[e])) (e2.rd (by simp) (n1.rd 0))
 refine v246 _ _ ⟨_,rp,_,rp,c180 v3 hth t ha hta fun H4 br c1 bt v4 o4 t4 hne g1 g2 l1 l2 hc m4=>⟨_,_,_,_,_,_,rfl,m4.rd ?_ rp,?_⟩⟩
 ·simp;exact⟨fun e=>hfp.d (by simp[e]),fun e=>hfp.w (by simp[e])⟩
 have hdo:DOff h b [br,bt]:=v3.fresh (by simp;omega)
 refine c184 v4 t s.st hx o4 t4 hne hdo l1 l2 hsw fun H5 ad v5 m5=>⟨_,_,v5,rfl,rfl,fun H6 v6 m6=>?_⟩
 have hz:=e02.1;have hz3:=m3.1
 have m35:Mod [b.d,b.w] H3 H5:=m4.trans_new m5 (by simp;omega)
 exact k H6 _ _ v6 (((Mod.ext e02).trans (m3.mono (by simp))).trans ((m35.mono (by simp)).trans (m6.mono (by simp))))
theorem c192 {b:DB}{h:Hdr}{d:DS}{s:PS}{K post:List UInt64}(v:Drv H b h d s K post)(hth:s.th=h.th)(t:Nat)(ha:d.at_=t)(hx:s.st=st h t)(x:Int)(h0:0<=d.live)(hw:d.live+(wr_ h.step+wr_ h.loss:Nat)<=h.words)
  (hta:0<=d.tapd/\d.tapd<=4611686018427387904) (hlo:0<=d.losses/\d.losses<=4611686018427387904) (hsw:0<=d.sweeps/\d.sweeps<4611686018427387904)
  (k:∀H' sr lr ad,Drv H' b h { d with tapd:=d.tapd+1,losses:=d.losses+1,sweeps:=d.sweeps+1+1,loss:=rg (lossOut h (st h (t+1))) 0,peak:=max d.peak (d.live+(wr_ h.step+wr_ h.loss:Nat)) }
   { s with sr:=sr,lr:=lr,ad:=ad,ax:=headA h (pullStep h t (st h t) (headA h (pullLoss h (st h (t+1))))),ag:=addL (addL s.ag (restA h (pullLoss h (st h (t+1))))) (restA h (pullStep h t (st h t) (headA h (pullLoss h (st h (t+1)))))) } K post->Mod [b.d,b.m,b.w] H H'->R (.tuple #[]) H') :
  Ru 192 [.pointer (some ⟨b.d,0,none⟩),.int .i64 x] H R:=by
 have ok:=v.ok.1
 have hw1:=wr_le ok.step;have hw2:=wr_le ok.loss
 refine v192 _ _ _ fun H1 p n1=>⟨_,n1.rd 0,b.d,0,rfl,_,rfl,(v.ext n1.mod).hdr,c103 h b.hp (v.ext n1.mod).rows ok fun H2 e2=>⟨_,_,rfl,_,e2.rd (by simp) (n1.rd 0),⟨by omega,by omega⟩,?_⟩⟩
 have e02:=n1.mod.thenExt e2
 have v2:=v.ext e02
 have hfp:DOff h b [p]:=v.fresh (by simpa using n1.ge)
 rw[<-Int.natCast_add]
 refine c235 v2 (wr_ h.step+wr_ h.loss) h0 hw 245 _ _ (by kernel_rfl) fun H3 v3 m3=>?_
 have rp:rd H3 p 0=some (.pointer (some ⟨b.d,0,none⟩)):=m3.rd (by simp;exact fun e=>hfp.m (by simp[e])) (e2.rd (by simp) (n1.rd 0))
 have hpS:p∉[b.d,b.w]:=by simp;exact⟨fun e=>hfp.d (by simp[e]),fun e=>hfp.w (by simp[e])⟩
 refine v245 _ _ ⟨_,rp,c180 v3 hth t ha hta fun H4 br c1 bt v4 o4 t4 hne g1 g2 l1 l2 hc m4=>⟨_,_,_,_,_,_,rfl,_,m4.rd hpS rp,_,m4.rd hpS rp,b.d,0,rfl,_,_,_,by rw[Nat.zero_add];exact v4.rd 5 rfl,?_⟩⟩
 have hnx:h.x.length=nX h:=rfl
 have hstl:s.st.length=nX h:=by rw[hx];exact st_length ok.dims t
 have hol:(stepOut h t s.st).length=nS h:=stepOut_length ok.dims hstl
 obtain⟨d1,d2,d3,d4,d5⟩:=ok.dims
 have hnS:nS h=h.step.regs.toNat:=rfl
 rw[hnx,Int.toNat_natCast]
 have hrow:RowU H4 (some ⟨br,0,none⟩) (nX h) (st h (t+1)):=by
  have:=o4.rowT (l:=nX h) (by rw[hol];simp only[nX] at *;omega)
  rw[hx] at this;exact this
 have hdo:DOff h b [br,bt]:=v3.fresh (by simp;omega)
 have hqS:br∉[b.d,b.w]:=by simp;exact⟨fun e=>hdo.d (by simp[e]),fun e=>hdo.w (by simp[e])⟩
 have hqS2:bt∉[b.d,b.w]:=by simp;exact⟨fun e=>hdo.d (by simp[e]),fun e=>hdo.w (by simp[e])⟩
 refine⟨⟨by omega,by simp only[nX] at *;omega⟩,c237 v4 hth hrow hlo ⟨by dsimp only;omega,by dsimp only;omega⟩ fun H5 ad v5 m5=>⟨_,m5.rd hpS (m4.rd hpS rp),?_⟩⟩
 have hz5:=m5.1
 refine c184 v5 t s.st hstl (o4.mod m5 hqS) (t4.mod m5 hqS2) hne hdo (by omega) (by omega) ⟨by dsimp only;omega,by dsimp only;omega⟩ fun H6 ad2 v6 m6=>⟨_,_,v6,rfl,rfl,fun H7 v7 m7=>?_⟩
 have hz:=e02.1;have hz3:=m3.1
 have m36:Mod [b.d,b.w] H3 H6:=(m4.trans m5).trans_new m6 (by simp;omega)
 dsimp only at v7
 rw[hx] at v7
 exact k H7 _ _ _ (by rw[hx];exact v7) (((Mod.ext e02).trans (m3.mono (by simp))).trans ((m36.mono (by simp)).trans (m7.mono (by simp))))
end Go.VC
namespace Go.VC
open Go Go.Proofs
theorem mstep_inv {s m:MS1}{k n:Int}(e:mstep s k n=some m) :
  (k=1/\1<=n/\n<65536/\n<=s.l-s.at_/\m={ s with at_:=s.at_+n,total:=s.total+n })\/
  (k=2/\0<=n/\n<s.tags.length/\tagAt s n<0/\m={ s with tags:=s.tags.set n.toNat s.at_ })\/
  (k=3/\0<=n/\n<s.tags.length/\0<=tagAt s n/\m={ s with at_:=tagAt s n })\/
  (k=4/\0<=n/\n<s.tags.length/\0<=tagAt s n/\m={ s with tags:=s.tags.set n.toNat (-1) })\/
  (k=5/\n=0/\s.pend = -1/\s.at_=s.l/\m={ s with pend:=s.at_ })\/
  (k=6/\n=0/\s.pend = -1/\s.at_=s.l-1/\m={ s with pend:=s.at_ })\/
  (k=7/\n=0/\0<s.pend/\s.at_=s.pend-1/\m={ s with pend:=s.at_ }):=by
 unfold mstep mstepR at e
 split at e
 ·cases e
 rename_i hr
 have hr':rightA k n:=Classical.byContradiction fun h=>hr (.inl h)
 obtain⟨r1,r2,r3,r4,r5⟩:=hr'
 split at e
 ·rename_i hk
  split at e
  ·cases e
  ·cases e;have:=r3 hk;exact .inl ⟨hk,this.1,this.2,by omega,rfl⟩
 split at e
 ·rename_i hk
  split at e
  ·cases e
  ·cases e;have:=r4 (by omega) (by omega);exact .inr (.inl ⟨hk,this.1,by omega,by omega,rfl⟩)
 split at e
 ·rename_i hk
  split at e
  ·cases e
  ·cases e;have:=r4 (by omega) (by omega);exact .inr (.inr (.inl ⟨hk,this.1,by omega,by omega,rfl⟩))
 split at e
 ·rename_i hk
  split at e
  ·cases e
  ·cases e;have:=r4 (by omega) (by omega);exact .inr (.inr (.inr (.inl ⟨hk,this.1,by omega,by omega,rfl⟩)))
 split at e
 ·rename_i hk
  split at e
  ·rename_i hc;cases e;have:=r5 (by omega);exact .inr (.inr (.inr (.inr (.inl ⟨hk,this,hc.1,hc.2,rfl⟩))))
  ·cases e
 split at e
 ·rename_i hk
  split at e
  ·rename_i hc;cases e;have:=r5 (by omega);exact .inr (.inr (.inr (.inr (.inr (.inl ⟨hk,this,hc.1,hc.2,rfl⟩)))))
  ·cases e
 split at e
 ·rename_i hc;cases e;have:=r5 (by omega);exact .inr (.inr (.inr (.inr (.inr (.inr ⟨by omega,this,hc.1,hc.2,rfl⟩)))))
 ·cases e
noncomputable def heldOf (h:Hdr)(tags:List Int):List (Option (Nat × List UInt64)):=tags.map fun t=>if t<0 then none else some (t.toNat,st h t.toNat)
theorem heldOf_length (h:Hdr)(tags:List Int):(heldOf h tags).length=tags.length:=by simp[heldOf]
theorem heldOf_set (h:Hdr)(tags:List Int)(i:Nat)(t:Int):heldOf h (tags.set i t)=(heldOf h tags).set i (if t<0 then none else some (t.toNat,st h t.toNat)):=by simp[heldOf,List.map_set]
theorem tagAt_get {s:MS1}{n:Int}(h0:0<=n)(h1:n<s.tags.length):s.tags[n.toNat]'(by omega)=tagAt s n:=by
 unfold tagAt;rw[List.getD_eq_getElem?_getD,List.getElem?_eq_getElem (by omega)];rfl
theorem heldOf_get {h:Hdr}{s:MS1}{n:Int}(h0:0<=n)(h1:n<s.tags.length):(heldOf h s.tags)[n.toNat]'(by rw[heldOf_length];omega)=if tagAt s n<0 then none else some ((tagAt s n).toNat,st h (tagAt s n).toNat):=by
 simp only[heldOf,List.getElem_map,tagAt_get h0 h1]
def heldN (tags:List Int):Nat:=tags.countP fun t=>decide (0<=t)
theorem heldN_le (tags:List Int):heldN tags<=tags.length:=List.countP_le_length
theorem heldN_lt {s:MS1}{n:Int}(h0:0<=n)(h1:n<s.tags.length)(h:tagAt s n<0):heldN s.tags<s.tags.length:=by
 apply Nat.lt_of_le_of_ne (heldN_le _)
 intro e
 have:=List.countP_eq_length.1 e _ (tagAt_mem h0 h1)
 simp at this;omega
theorem heldN_set {s:MS1}{n:Int}(h0:0<=n)(h1:n<s.tags.length)(t:Int):(heldN (s.tags.set n.toNat t):Int)=(heldN s.tags:Int)-(if 0<=tagAt s n then 1 else 0)+(if 0<=t then 1 else 0):=by
 unfold heldN
 rw[List.countP_set (by omega),tagAt_get h0 h1]
 have hpos:0<=tagAt s n->0<s.tags.countP fun t=>decide (0<=t):=fun h=>List.countP_pos_iff.2 ⟨_,tagAt_mem h0 h1,by simpa using h⟩
 by_cases hc:0<=tagAt s n
 ·have:=hpos hc
  by_cases ht:0<=t<;>simp[hc,ht]<;>omega
 ·by_cases ht:0<=t<;>simp[hc,ht]
end Go.VC
namespace Go.VC
open Go Go.Proofs
variable {H:Heap}{R:Value->Heap->Prop}
def dMS (d:DS)(tags:List Int):MS1:=⟨d.at_,d.pend,d.l,0,tags⟩
noncomputable def moreOf (h:Hdr)(k:Int):Int:=
 if k=2 then slotOf h else if k=5 then (wr_ h.loss:Int) else if k=6 then ((wr_ h.step+wr_ h.loss:Nat):Int) else if k=7 then (wr_ h.step:Int) else 0
noncomputable def dact (h:Hdr)(d:DS)(k n:Int)(m:MS1):DS:=
 { l:=d.l,at_:=m.at_,pend:=m.pend,plain:=if k=1 then d.plain+n else d.plain,tapd:=if k=6\/k=7 then d.tapd+1 else d.tapd,losses:=if k=5\/k=6 then d.losses+1 else d.losses,sweeps:=if k=6 then d.sweeps+1+1 else if k=5\/k=7 then d.sweeps+1 else d.sweeps,live:=if k=2 then d.live+slotOf h else if k=4 then d.live-slotOf h else d.live,peak:=max d.peak (d.live+moreOf h k),loss:=if k=5\/k=6 then lossOf h d.l.toNat else d.loss }
structure DSem (h:Hdr)(d:DS)(tags:List Int)(s:PS):Prop where
 th:s.th=h.th
 st:s.st=st h d.at_.toNat
 mok:MOk (dMS d tags)
 len:tags.length=(slotsOf h).toNat
 z:d.pend<0->s.ag=zeros (nT h)
 gr:0<=d.pend->s.ax=(grad h d.l.toNat (d.l-d.pend).toNat).1/\s.ag=(grad h d.l.toNat (d.l-d.pend).toNat).2/\d.loss=lossOf h d.l.toNat
 live:d.live=fixedOf h+slotOf h*(heldN tags:Int)
 pk:d.live<=d.peak
 pk2:d.peak<=h.words
structure DCnt (d:DS)(B:Int):Prop where
 p:0<=d.plain/\d.plain<=B
 t:0<=d.tapd/\d.tapd<=B
 l:0<=d.losses/\d.losses<=B
 s:0<=d.sweeps/\d.sweeps<=B
theorem tape_eq {h:Hdr}(hm:h.mode≠3):tapeOf h=(wr_ h.step:Int)+wr_ h.loss:=by
 have:tapeOf h=if h.mode=3 then (wr_ h.loss:Int) else (wr_ h.step:Int)+wr_ h.loss:=rfl
 rw[this,if_neg hm]
theorem live_bound {h:Hdr}(hp:PlanOk h)(hm:h.mode≠3){n:Nat}(hn:(n:Int)<=slotsOf h):0<=fixedOf h/\0<=slotOf h*(n:Int)/\fixedOf h+slotOf h*(n:Int)+tapeOf h<=h.words:=by
 obtain⟨a,b,c,d⟩:=slots_small hp
 have hs:=slot_eq hm
 have h7:=small_sum hp.1 7
 have hfx:((partsOf h).take 7).sum=fixedOf h:=rfl
 rw[hfx] at h7
 refine⟨h7.1,Int.mul_nonneg (by omega) (by omega),?_⟩
 have:=Int.mul_le_mul_of_nonneg_left hn (show 0<=slotOf h by omega)
 omega
theorem heldOf_ok {h:Hdr}(hd:dimsOk h){d:DS}{tags:List Int}(m:MOk (dMS d tags)):∀x∈heldOf h tags,HeldOk (nX h) x:=by
 intro x hx
 simp only[heldOf,List.mem_map] at hx
 obtain⟨t,ht,rfl⟩:=hx
 have h1:=m.tg t ht
 have h2:=m.l1
 split
 ·trivial
 ·exact⟨by simp only[dMS] at h1 h2;omega,st_length hd _⟩
theorem held_tags {h:Hdr}{d:DS}{tags:List Int}(m:MOk (dMS d tags)):(heldOf h tags).map tagOf=tags:=by
 unfold heldOf
 rw[List.map_map]
 conv=>rhs;rw[<-List.map_id tags]
 apply List.map_congr_left
 intro t ht
 have h1:=m.tg t ht
 simp only[Function.comp_apply,id_eq]
 split
 ·simp only[tagOf];omega
 ·simp only[tagOf];omega
theorem c57 {b:DB}{h:Hdr}{d:DS}{s:PS}{tags:List Int}{post:List UInt64}(v:Drv H b h d s (slotsW (nX h) (heldOf h tags)) post)(hm:h.mode≠3)(m:MOk (dMS d tags))(hl:tags.length=(slotsOf h).toNat)
  (k:∀a c H',Buf 1 H' H.size a tags.length c (i64s tags)->Ext H H'->R (.agg (spotC d.at_ d.pend a tags.length c).toArray) H'):Ru 57 [.pointer (some ⟨b.d,0,none⟩)] H R:=by
 have hsp:slotsPtr h b=.pointer (some ⟨b.s,0,none⟩):=by unfold slotsPtr;rw[if_neg hm]
 refine v57 _ _ fun H1 p n1=>?_
 have v1:=v.ext n1.mod
 refine⟨_,by rw[Nat.zero_add];exact v1.rd 18 rfl,_,by rw[Nat.zero_add];exact v1.rd 19 rfl,_,by rw[Nat.zero_add];exact v1.rd 15 rfl,?_⟩
 rw[hsp]
 refine c120 (v1.shelf hm (by rw[heldOf_length,hl]) (heldOf_ok v.ok.1.dims m)) fun a c H2 hB e2=>⟨_,_,_,rfl,by rw[Nat.zero_add];exact (v1.ext e2).rd 19 rfl,by rw[Nat.zero_add];exact (v1.ext e2).rd 18 rfl,rfl,?_,(n1.own.mod e2 (by simp)).w 0 3 rfl,fun H3 h3=>?_⟩
 ·intro x hx;simp only[List.mem_cons,List.not_mem_nil,or_false] at hx;rcases hx with rfl|rfl|rfl<;>trivial
 rw[held_tags m,heldOf_length] at hB
 have o2:=n1.own.mod e2 (by simp)
 have m3:Mod [p] H2 H3:=by rw[h3];exact Mod.refl.wrL (.inl (by simp))
 rw[heldOf_length] at h3
 refine⟨spotC d.at_ d.pend a tags.length c,rfl,by rw[h3];exact rdL_wrL o2.2,?_⟩
 have hp:=n1.ge;have hpl:=n1.lt
 exact k a c H3 ((hB.mod m3 (by simpa using hpl)).down n1.mod.1) ((n1.mod.thenExt e2).trans_new m3 (by simpa using hp))
def mvsD (d:Nat):List Value:=[Value.nilFunc,mvF 188 d,mvF 189 d,mvF 190 d,mvF 191 d,mvF 182 d,mvF 192 d,mvF 193 d]
theorem c118 (d:Nat)(k:∀H',Ext H H'->R (.agg (mvsD d).toArray) H'):Ru 118 [.pointer (some ⟨d,0,none⟩)] H R:=by
 refine v118 _ _ fun H1 p n1=>⟨trivial,rfl,?_,n1.own.w 0 8 rfl,fun H2 h2=>⟨mvsD d,rfl,by rw[h2];exact rdL_wrL n1.own.2,k H2 ?_⟩⟩
 ·intro v hv;simp only[List.mem_cons,List.not_mem_nil,or_false] at hv;rcases hv with rfl|rfl|rfl|rfl|rfl|rfl|rfl|rfl<;>trivial
 ·rw[h2];exact n1.mod.trans_new (Mod.refl.wrL (S:=[p]) (.inl (by simp))) (by simpa using n1.ge)
noncomputable def dmid (h:Hdr)(d:DS)(k n:Int)(m:MS1):DS:={ dact h d k n m with at_:=d.at_,pend:=d.pend }
theorem dsem_act {h:Hdr}{d:DS}{tags:List Int}{s:PS}(hp:PlanOk h)(hm:h.mode≠3)(sem:DSem h d tags s){k n:Int}{m:MS1}(hs:mstep (dMS d tags) k n=some m)(s':PS)(h1:s'.th=h.th)(h2:s'.st=st h m.at_.toNat)(h3:m.pend<0->s'.ag=zeros (nT h))
  (h4:0<=m.pend->s'.ax=(grad h d.l.toNat (d.l-m.pend).toNat).1/\s'.ag=(grad h d.l.toNat (d.l-m.pend).toNat).2/\(dact h d k n m).loss=lossOf h d.l.toNat):DSem h (dact h d k n m) m.tags s':=by
 obtain⟨sth,sst,mok,slen,sz,sgr,slive,spk,spk2⟩:=sem
 have hmok2:=mstep_ok mok hs
 have hlen2:=(mstep_l hs).2
 have hl2:=(mstep_l hs).1
 simp only[dMS] at hlen2 hl2
 obtain⟨a1,a2,a3,a4⟩:=slots_small hp
 have hhn:(heldN tags:Int)<=slotsOf h:=by have:=heldN_le tags;omega
 obtain⟨b1,b2,b3⟩:=live_bound hp hm hhn
 have hte:=tape_eq hm
 have hse:=slot_eq hm
 have hlw:d.live+tapeOf h<=h.words:=by omega
 have mok':MOk (dMS (dact h d k n m) m.tags):=⟨by have:=hmok2.l0;rw[hl2] at this;exact this,by have:=hmok2.l1;rw[hl2] at this;exact this,hmok2.at0,by have:=hmok2.at1;rw[hl2] at this;exact this,hmok2.p0,by have:=hmok2.p1;rw[hl2] at this;exact this,by have:=hmok2.tg;rw[hl2] at this;exact this,hmok2.few⟩
 refine⟨h1,h2,mok',by rw[hlen2,slen],h3,h4,?_,?_,?_⟩
 ·have hv:∀(x:Int),0<=x->slotOf h*((heldN tags:Int)+1)=slotOf h*(heldN tags:Int)+slotOf h:=fun x _=>by rw[Int.mul_add,Int.mul_one]
  rcases mstep_inv hs with ⟨rfl,n1,n2,n3,rfl⟩|⟨rfl,n1,n2,n3,rfl⟩|⟨rfl,n1,n2,n3,rfl⟩|⟨rfl,n1,n2,n3,rfl⟩|⟨rfl,rfl,n1,n2,rfl⟩|⟨rfl,rfl,n1,n2,rfl⟩|⟨rfl,rfl,n1,n2,rfl⟩
  ·exact slive
  ·have:=heldN_set n1 n2 (dMS d tags).at_
   rw[if_neg (by omega),if_pos mok.at0] at this
   show d.live+slotOf h=fixedOf h+slotOf h*_
   rw[this,slive,Int.sub_zero,Int.mul_add,Int.mul_one,Int.add_assoc];rfl
  ·exact slive
  ·have:=heldN_set n1 n2 (-1)
   rw[if_pos n3,if_neg (by omega)] at this
   show d.live-slotOf h=fixedOf h+slotOf h*_
   rw[this,slive,Int.add_zero,Int.mul_sub,Int.mul_one]
   show _=fixedOf h+(slotOf h*(heldN tags:Int)-slotOf h)
   omega
  ·exact slive
  ·exact slive
  ·exact slive
 ·show (dact h d k n m).live<=max d.peak (d.live+moreOf h k)
  unfold dact moreOf
  dsimp only
  by_cases e2:k=2
  ·rw[if_pos e2,if_pos e2];omega
  ·rw[if_neg e2,if_neg e2]
   by_cases e4:k=4
   ·rw[if_pos e4];omega
   ·rw[if_neg e4];omega
 ·show max d.peak (d.live+moreOf h k)<=h.words
  have hmore:d.live+moreOf h k<=h.words:=by
   unfold moreOf
   split
   ·rename_i e2
    rcases mstep_inv hs with ⟨rfl,_⟩|⟨rfl,n1,n2,n3,rfl⟩|⟨rfl,_⟩|⟨rfl,_⟩|⟨rfl,_⟩|⟨rfl,_⟩|⟨rfl,_⟩<;>try omega
    have hlt:=heldN_lt n1 n2 n3
    have hlt':((heldN tags+1:Nat):Int)<=slotsOf h:=by simp only[dMS] at hlt;omega
    obtain⟨_,_,b3'⟩:=live_bound hp hm hlt'
    have:slotOf h*((heldN tags+1:Nat):Int)=slotOf h*(heldN tags:Int)+slotOf h:=by push_cast;rw[Int.mul_add,Int.mul_one]
    omega
   ·split
    ·omega
    ·split
     ·omega
     ·split<;>omega
  omega
theorem doMove {H:Heap}{b:DB}{h:Hdr}{d:DS}{s:PS}{tags:List Int}{post:List UInt64}(v:Drv H b h d s (slotsW (nX h) (heldOf h tags)) post)(hm:h.mode≠3)(sem:DSem h d tags s)(cnt:DCnt d 2305843009213693952)
  {k n:Int} {m:MS1} (hs:mstep (dMS d tags) k n=some m) :
  ∃g u w,(mvsD b.d)[k.toNat*1]?=some (.func (.func g) u w)/\callable Tryz.prog g=true/\∀R:Value->Heap->Prop,(∀H' s',Drv H' b h (dmid h d k n m) s' (slotsW (nX h) (heldOf h m.tags)) post->DSem h (dact h d k n m) m.tags s'->Mod [b.d,b.m,b.w] H H'->R (.tuple #[]) H')->Ru g (u.toList++[.int .i64 n]++w.toList) H R:=by
 have act:=fun s' h1 h2 h3 h4=>dsem_act v.ok hm sem hs s' h1 h2 h3 h4
 obtain⟨sth,sst,mok,slen,sz,sgr,slive,spk,spk2⟩:=sem
 have ok:=v.ok.1
 have ⟨l0,l1,at0,at1,p0,p1,tg,few⟩:=mok
 simp only[dMS] at l0 l1 at0 at1 p0 p1 tg few
 obtain⟨a1,a2,a3,a4⟩:=slots_small v.ok
 have hhn:(heldN tags:Int)<=slotsOf h:=by have:=heldN_le tags;omega
 obtain⟨b1,b2,b3⟩:=live_bound v.ok hm hhn
 have hte:=tape_eq hm
 have hse:=slot_eq hm
 have hw1:=wr_le ok.step;have hw2:=wr_le ok.loss
 have hat:d.at_=(d.at_.toNat:Int):=by omega
 have hlen:(heldOf h tags).length=(slotsOf h).toNat:=by rw[heldOf_length,slen]
 have hok:=heldOf_ok ok.dims mok
 have c1:=cnt.p;have c2:=cnt.t;have c3:=cnt.l;have c4:=cnt.s
 have hstl:s.st.length=nX h:=v.lens.st
 rcases mstep_inv hs with ⟨rfl,n1,n2,n3,rfl⟩|⟨rfl,n1,n2,n3,rfl⟩|⟨rfl,n1,n2,n3,rfl⟩|⟨rfl,n1,n2,n3,rfl⟩|⟨rfl,rfl,n1,n2,rfl⟩|⟨rfl,rfl,n1,n2,rfl⟩|⟨rfl,rfl,n1,n2,rfl⟩
 ·simp only[dMS] at n3
  have hn:n=(n.toNat:Int):=by omega
  refine⟨188,_,_,rfl,by kernel_rfl,fun R K=>?_⟩
  have key:=c188 (R:=R) v sth d.at_.toNat hat sst n.toNat (by omega) ⟨by omega,by omega⟩ fun H' sr v' m'=>?_
  ·rw[<-hn] at key;exact key
  ·have hd:dmid h d 1 n { dMS d tags with at_:=(dMS d tags).at_+n,total:=(dMS d tags).total+n }={ d with plain:=d.plain+(n.toNat:Int) }:=by
    rw[<-hn]
    have:max d.peak d.live=d.peak:=by omega
    simp[dmid,dact,moreOf,this]
   rw[<-hd] at v'
   refine K H' _ v' (act _ sth ?_ sz fun hp=>?_) (m'.mono (by simp))
   ·show st h (d.at_.toNat+n.toNat)=st h (d.at_+n).toNat
    congr 1;omega
   ·have:=sgr hp
    exact this
 ·have hn:n=(n.toNat:Int):=by omega
  have hg:=heldOf_get (h:=h) n1 n2
  rw[if_pos n3] at hg
  have hlt:=heldN_lt n1 n2 n3
  have hlt':((heldN tags+1:Nat):Int)<=slotsOf h:=by simp only[dMS] at hlt;omega
  obtain⟨_,_,b3'⟩:=live_bound v.ok hm hlt'
  have hmul:slotOf h*((heldN tags+1:Nat):Int)=slotOf h*(heldN tags:Int)+slotOf h:=by push_cast;rw[Int.mul_add,Int.mul_one]
  refine⟨189,_,_,rfl,by kernel_rfl,fun R K=>?_⟩
  have key:=c189 (R:=R) v hm hlen hok n.toNat (by rw[heldOf_length];simp only[dMS] at n2;omega) hg d.at_.toNat hat (by omega) (by omega) (by omega) fun H' v' m'=>?_
  ·rw[<-hn] at key;exact key
  ·have hd:dmid h d 2 n { dMS d tags with tags:=(dMS d tags).tags.set n.toNat (dMS d tags).at_ }={ d with live:=d.live+slotOf h,peak:=max d.peak (d.live+slotOf h) }:=by
    simp[dmid,dact,moreOf]
   have hh:heldOf h (tags.set n.toNat d.at_)=(heldOf h tags).set n.toNat (some (d.at_.toNat,s.st)):=by
    rw[heldOf_set,if_neg (by omega),sst]
   refine K H' s (by rw[hd];show DrvM _ _ _ _ _ (slotsW (nX h) (heldOf h (tags.set n.toNat d.at_))) _;rw[hh];exact v') (act _ sth sst sz fun hp=>sgr hp) (m'.mono (by simp))
 ·have hn:n=(n.toNat:Int):=by omega
  have hg:=heldOf_get (h:=h) n1 n2
  rw[if_neg (by omega)] at hg
  refine⟨190,_,_,rfl,by kernel_rfl,fun R K=>?_⟩
  have key:=c190 (R:=R) v hm hlen hok n.toNat (by rw[heldOf_length];simp only[dMS] at n2;omega) hg fun H' v' m'=>?_
  ·rw[<-hn] at key;exact key
  ·have hd:dmid h d 3 n { dMS d tags with at_:=tagAt (dMS d tags) n }=d:=by
    have:max d.peak d.live=d.peak:=by omega
    simp[dmid,dact,moreOf,this]
   rw[<-hd] at v'
   exact K H' _ v' (act _ sth rfl sz fun hp=>sgr hp) (m'.mono (by simp))
 ·have hn:n=(n.toNat:Int):=by omega
  have hg:=heldOf_get (h:=h) n1 n2
  rw[if_neg (by omega)] at hg
  have hpos:0<heldN tags:=List.countP_pos_iff.2 ⟨_,tagAt_mem n1 n2,by simpa using n3⟩
  have hmul:slotOf h<=slotOf h*(heldN tags:Int):=by
   have:=Int.mul_le_mul_of_nonneg_left (show (1:Int)<=(heldN tags:Int) by omega) (show 0<=slotOf h by omega)
   omega
  refine⟨191,_,_,rfl,by kernel_rfl,fun R K=>?_⟩
  have key:=c191 (R:=R) v hm hlen hok n.toNat (by rw[heldOf_length];simp only[dMS] at n2;omega) (fun e=>by have:=hg.symm.trans e;cases this) (by omega) spk (by omega) fun H' v' m'=>?_
  ·rw[<-hn] at key;exact key
  ·have hd:dmid h d 4 n { dMS d tags with tags:=(dMS d tags).tags.set n.toNat (-1) }={ d with live:=d.live-slotOf h }:=by
    have:max d.peak d.live=d.peak:=by omega
    simp[dmid,dact,moreOf,this]
   have hh:heldOf h (tags.set n.toNat (-1))=(heldOf h tags).set n.toNat none:=by
    rw[heldOf_set,if_pos (by omega)]
   refine K H' s (by rw[hd];show DrvM _ _ _ _ _ (slotsW (nX h) (heldOf h (tags.set n.toNat (-1)))) _;rw[hh];exact v') (act _ sth sst sz fun hp=>sgr hp) (m'.mono (by simp))
 ·simp only[dMS] at n1 n2
  refine⟨182,_,_,rfl,by kernel_rfl,fun R K=>c182 v sth 0 (by omega) (by omega) ⟨by omega,by omega⟩ ⟨by omega,by omega⟩ fun H' lr ad v' m'=>?_⟩
  have hsl:s.st=st h d.l.toNat:=by rw[sst,n2]
  have hd:dmid h d 5 0 { dMS d tags with pend:=(dMS d tags).at_ }={ d with losses:=d.losses+1,sweeps:=d.sweeps+1,loss:=rg (lossOut h s.st) 0,peak:=max d.peak (d.live+wr_ h.loss) }:=by
   rw[hsl];simp[dmid,dact,moreOf,lossOf]
  rw[<-hd] at v'
  refine K H' _ v' (act _ sth sst (fun hp=>?_) fun hp=>?_) m'
  ·simp only[dMS] at hp;omega
  ·have e0:(d.l-d.at_).toNat=0:=by omega
   simp only[dMS,e0,grad]
   rw[hsl,sz (by omega)]
   exact⟨rfl,rfl,by simp[dact]⟩
 ·simp only[dMS] at n1 n2
  refine⟨192,_,_,rfl,by kernel_rfl,fun R K=>c192 v sth d.at_.toNat hat sst 0 (by omega) (by push_cast;omega) ⟨by omega,by omega⟩ ⟨by omega,by omega⟩ ⟨by omega,by omega⟩ fun H' sr lr ad v' m'=>?_⟩
  have hl:d.at_.toNat+1=d.l.toNat:=by omega
  rw[hl] at v'
  have hd:dmid h d 6 0 { dMS d tags with pend:=(dMS d tags).at_ }={ d with tapd:=d.tapd+1,losses:=d.losses+1,sweeps:=d.sweeps+1+1,loss:=rg (lossOut h (st h d.l.toNat)) 0,peak:=max d.peak (d.live+(wr_ h.step+wr_ h.loss:Nat)) }:=by
   simp[dmid,dact,moreOf,lossOf]
  rw[<-hd] at v'
  refine K H' _ v' (act _ sth sst (fun hp=>?_) fun hp=>?_) m'
  ·simp only[dMS] at hp;omega
  ·have e0:(d.l-d.at_).toNat=1:=by omega
   have e1:d.l.toNat-(0+1)=d.at_.toNat:=by omega
   refine⟨?_,?_,by simp[dact]⟩
   ·show _=(grad h d.l.toNat (d.l-d.at_).toNat).1
    rw[e0];simp only[grad,e1]
   ·show _=(grad h d.l.toNat (d.l-d.at_).toNat).2
    rw[e0];simp only[grad,e1]
    rw[sz (by omega)]
 ·simp only[dMS] at n1 n2
  refine⟨193,_,_,rfl,by kernel_rfl,fun R K=>c193 v sth d.at_.toNat hat hstl 0 (by omega) (by omega) ⟨by omega,by omega⟩ ⟨by omega,by omega⟩ fun H' sr ad v' m'=>?_⟩
  have hd:dmid h d 7 0 { dMS d tags with pend:=(dMS d tags).at_ }={ d with tapd:=d.tapd+1,sweeps:=d.sweeps+1,peak:=max d.peak (d.live+wr_ h.step) }:=by
   simp[dmid,dact,moreOf]
  rw[<-hd] at v'
  refine K H' _ v' (act _ sth sst (fun hp=>?_) fun hp=>?_) m'
  ·simp only[dMS] at hp;omega
  ·have hg:=sgr (by omega)
   obtain⟨j,hj⟩:∃j:Nat,(d.l-d.pend).toNat=j:=⟨_,rfl⟩
   have e0:(d.l-d.at_).toNat=j+1:=by omega
   have e1:d.l.toNat-(j+1)=d.at_.toNat:=by omega
   rw[hj] at hg
   simp only[dMS,e0,grad,e1]
   rw[sst,<-hg.1,<-hg.2.1]
   exact⟨rfl,rfl,by simp[dact];exact hg.2.2⟩
end Go.VC
namespace Go.VC
open Go Go.Proofs
variable {H:Heap}{R:Value->Heap->Prop}
theorem c110 {b:DB}{h:Hdr}{d:DS}{P:List (List UInt64)}{K post:List UInt64}(v:DrvM H b h d P K post)(k:R (.bool (decide (h.mode=3))) H):Ru 110 [.pointer (some ⟨b.d,0,none⟩)] H R:=
 v110 _ _ ⟨_,by rw[Nat.zero_add];exact v.rd 4 rfl,k⟩
theorem DrvM.mach {H H':Heap}{b:DB}{h:Hdr}{d:DS}{P:List (List UInt64)}{K post:List UInt64}(v:DrvM H b h d P K post){H0:Heap}(v0:DrvM H0 b h d P K post){n bm:Nat}{a:Option Addr}{c:Nat}{s:MS1}(m:Mach H n bm a c s)(hn:H0.size<=n)(mm:MMod bm a c H H'):DrvM H' b h d P K post:=by
 obtain⟨S,h1,h2⟩:=mm
 exact v.keep h1 (v0.fresh fun x hx=>Nat.le_trans hn (m.ge (h2 x hx)))
theorem c53 {b:DB}{h:Hdr}{d:DS}{s:PS}{tags:List Int}{post:List UInt64}(v:Drv H b h d s (slotsW (nX h) (heldOf h tags)) post)(hm:h.mode≠3)(sem:DSem h d tags s)(cnt:DCnt d 2305843009213693952)
  {k n:Int} {m:MS1} (hs:mstep (dMS d tags) k n=some m)
  (K:∀H' s',Drv H' b h (dact h d k n m) s' (slotsW (nX h) (heldOf h m.tags)) post->DSem h (dact h d k n m) m.tags s'->Mod [b.d,b.m,b.w] H H'->R (.int .i64 0) H') :
  Ru 53 [.pointer (some ⟨b.d,0,none⟩),.agg (actC k n).toArray] H R:=by
 have hmok2:=mstep_ok sem.mok hs
 refine v53 _ _ (actC k n) fun H1 p n1=>c110 (v.ext n1.mod) ⟨_,rfl,fun h'=>by simp at h';exact (hm h').elim,fun _=>?_⟩
 have v1:=v.ext n1.mod
 refine⟨_,by rw[Nat.zero_add];exact v1.rd 17 rfl,c57 v1 hm sem.mok sem.len fun a c H2 hB e2=>⟨_,rfl,rfl,by rw[Nat.zero_add];exact (v1.ext e2).rd 17 rfl,?_⟩⟩
 refine c117 d.l d.at_ d.pend hB.row sem.mok fun H3 bm a3 c3 hM e3=>⟨_,_,rfl,by simp,fun _=>?_⟩
 have e13:=e2.thenExt e3
 have v3:=v1.ext e13
 have rp3:∀j x,(actC k n)[j]?=some x->rd H3 p j=some x:=fun j x hj=>e13.rd (by simp) ((n1.rd j).trans hj)
 have hp2:p<H2.size:=Nat.lt_of_lt_of_le n1.lt e2.1
 refine⟨actC k n,rfl,e13.rdL (by simp) n1.rdL,c34 hM sem.mok ⟨by simp,by simp⟩ k n ⟨fun m' H4 hm' hM4 mm=>⟨_,rfl,by simp,fun _=>?_⟩,fun e H4 hn _ _ _=>?_⟩⟩
 rotate_left
 ·rw[show mstep ⟨d.at_,d.pend,d.l,0,tags⟩ k n=some m from hs] at hn;cases hn
 have hmm:m'=m:=by rw[show mstep ⟨d.at_,d.pend,d.l,0,tags⟩ k n=some m from hs] at hm';cases hm';rfl
 subst hmm
 have v4:=v3.mach v hM (by have:=n1.mod.1;have:=e2.1;omega) mm
 have rp4:∀j x,(actC k n)[j]?=some x->rd H4 p j=some x:=by
  intro j x hj
  obtain⟨S,h1,h2⟩:=mm
  exact h1.rd (fun hp=>by have:=hM.ge (h2 p hp);omega) (rp3 j x hj)
 have hz4:H3.size<=H4.size:=by obtain⟨S,h1,_⟩:=mm;exact h1.1
 refine⟨_,rp4 0 _ rfl,_,rp4 1 _ rfl,c118 b.d fun H5 e5=>⟨mvsD b.d,rfl,rfl,e5.rd (by simp) (rp4 1 _ rfl),e5.rd (by simp) (rp4 0 _ rfl),?_,?_⟩⟩
 ·rcases mstep_inv hs with ⟨rfl,_⟩|⟨rfl,_⟩|⟨rfl,_⟩|⟨rfl,_⟩|⟨rfl,_⟩|⟨rfl,_⟩|⟨rfl,_⟩<;>exact⟨by omega,by omega⟩
 have v5:=v4.ext e5
 have hM5:=hM4.ext e5
 have hlow:∀x∈[b.d,b.m,b.w],x<H.size:=by
  intro x hx
  simp only[List.mem_cons,List.not_mem_nil,or_false] at hx
  rcases hx with rfl|rfl|rfl
  ·exact v.top.lt (by unfold drvC;simp[i64s,planL])
  ·exact v.met.lt (by simp[meterC])
  ·exact v.ar.row.lt (u64s_ne v.words)
 have hz:H.size<=H2.size:=Nat.le_trans n1.mod.1 e2.1
 obtain⟨g,u,w,h1,h2,h3⟩:=doMove v5 hm sem cnt hs
 refine⟨_,h1,g,u,w,rfl,h2,h3 _ fun H6 s' v6 sem6 m6=>?_⟩
 have hM6:=hM5.low m6 (fun x hx=>Nat.lt_of_lt_of_le (hlow x hx) hz)
 refine c119 hM6 hmok2.few fun H7 a7 c7 hB7 e7=>⟨_,rfl,rfl,fun H8 q n8=>⟨rfl,?_,n8.own.w 0 3 rfl,fun H9 h9=>?_⟩⟩
 ·intro x hx;simp only[spotC,List.mem_cons,List.not_mem_nil,or_false] at hx;rcases hx with rfl|rfl|rfl<;>trivial
 have o9:Own H9 q (spotC m'.at_ m'.pend a7 m'.tags.length c7):=by rw[h9];exact n8.own.swrL rfl
 have e69:Ext H6 H9:=by rw[h9];exact (e7.new n8).trans_new (Mod.refl.wrL (S:=[q]) (.inl (by simp))) (by simp;have:=e7.1;have:=n8.ge;omega)
 clear h9
 have v9:=v6.ext e69
 have hqd:q≠b.d:=by have:=hlow b.d (by simp);have:=n8.ge;have:=e7.1;have:=m6.1;have:=e5.1;have:=e3.1;omega
 refine⟨_,o9.rd 0 rfl,_,o9.rd 1 rfl,by rw[Nat.zero_add];exact v9.top.w 18 1 rfl,fun H10 h10=>?_⟩
 have t10:=v9.top.wr 18 (.int .i64 m'.at_)
 rw[Nat.zero_add] at h10
 rw[<-h10] at t10
 have m10:Mod [b.d] H9 H10:=by rw[h10];exact Mod.refl.wr (.inl (by simp))
 clear h10
 have v10:=v9.setD { dmid h d k n m' with at_:=m'.at_ } t10 m10 rfl rfl
 refine⟨(o9.mod m10 (by simpa using hqd)).rd 1 rfl,by rw[Nat.zero_add];exact v10.top.w 19 1 rfl,fun H11 h11=>?_⟩
 have t11:=v10.top.wr 19 (.int .i64 m'.pend)
 rw[Nat.zero_add] at h11
 rw[<-h11] at t11
 have m11:Mod [b.d] H10 H11:=by rw[h11];exact Mod.refl.wr (.inl (by simp))
 clear h11
 have v11:=v10.setD (dact h d k n m') t11 m11 rfl rfl
 refine K H11 s' v11 sem6 ?_
 have e03:Ext H H3:=n1.mod.thenExt e13
 have m04:Mod [] H H4:=by
  obtain⟨S,h1,h2⟩:=mm
  exact e03.trans_new h1 fun x hx=>.inr (Nat.le_trans hz (hM.ge (h2 x hx)))
 exact (m04.ext.trans ((Mod.ext e5).trans m6)).trans ((Mod.ext e69).trans ((m10.mono (by simp)).trans (m11.mono (by simp))))
end Go.VC
namespace Go.VC
open Go Go.Proofs
variable {H:Heap}{R:Value->Heap->Prop}
theorem c68 {a:Option Addr}{l c:Nat}{xs:List Op}(h:RowO H a l xs)(hl:l<=1099511627776)
  (k:∀a' c' H',Buf 5 H' H.size a' l c' (opsC xs)->Ext H H'->R (.slice a' l c') H'):Ru 68 [.slice a l c] H R:=by
 refine v68 _ _ _ ⟨?_,fun hn H' q n=>⟨opsC xs,by rw[opsC_length,h.len],(Ext.row n.mod h).2,?_⟩⟩
 ·rintro rfl
  have e:=h.none
  have hl:=h.1
  rw[e] at hl k
  have hl0:l=0:=by simp at hl;omega
  subst hl0
  exact k _ _ _ Buf.nil Mod.refl
 ·refine (Buf.nil (sz:=5) (n:=H.size) (a:=some ⟨q,0,none⟩)).app n.mod.1 (by rw[opsC_length,h.len]) rfl opsC_one (by omega) (by omega) fun a' c' H'' S hb hm hs=>?_
  rw[Nat.zero_add,List.nil_append] at hb
  rw[Nat.zero_add]
  exact k _ _ _ hb (n.mod.trans_new hm fun b hb=>.inr (hs b hb))
def Lo (n:Nat)(l:Nat)(a:Option Addr):Prop:=0<l->∀b o,a=some ⟨b,o,none⟩->n<=b
theorem Buf.lo {sz:Nat}{H:Heap}{n:Nat}{a:Option Addr}{l c:Nat}{cells:List Value}(h:Buf sz H n a l c cells)(hz:0<sz):Lo n l a:=by
 intro hl b o e
 rcases h.ok with h0|⟨b',e',hn,_⟩
 ·have:=Nat.mul_pos (Nat.lt_of_lt_of_le hl h.le) hz;omega
 ·rw[e] at e';cases e';exact hn
theorem Lo.down {n m l:Nat}{a:Option Addr}(h:Lo n l a)(hm:m<=n):Lo m l a:=fun hl b o e=>Nat.le_trans hm (h hl b o e)
def drvL (pl hd:List Value)(parts w s m:Value)(d:DS):List Value:=pl++(hd++[parts,w,s,m,.int .i64 d.l,.int .i64 d.at_,.int .i64 d.pend,.int .i64 d.plain,.int .i64 d.tapd,.int .i64 d.losses,.int .i64 d.sweeps,.int .u64 (d.loss.toNat:Int)])
def d0 (h:Hdr)(live:Int):DS:=⟨h.len,0,-1,0,0,0,0,live,live,0⟩
theorem c105 (h:Hdr)(p:HAt)(r:HRows H h p)
  (k1:PlanOk h->∀H' bd hp pa pc,Own H' bd (drvL (i64s (planL h)) (hdrC h hp) (.slice pa 10 pc) (.pointer none) (.pointer none) (.pointer none) (d0 h 0))->HRows H' h hp->RowI H' pa 10 (placesOf h)->Ext H H'->H.size<=bd->
   Lo H.size h.x.length hp.xa->Lo H.size h.th.length hp.ta->Lo H.size h.step.ops.length hp.sa->Lo H.size h.loss.ops.length hp.la->Lo H.size 10 pa->
   (∀b o,0<h.x.length->hp.xa=some ⟨b,o,none⟩->b≠bd)->(∀b o,0<h.th.length->hp.ta=some ⟨b,o,none⟩->b≠bd)->(∀b o,0<h.step.ops.length->hp.sa=some ⟨b,o,none⟩->b≠bd)->(∀b o,0<h.loss.ops.length->hp.la=some ⟨b,o,none⟩->b≠bd)->(∀b o,pa=some ⟨b,o,none⟩->b≠bd)->
   R (.tuple #[.pointer (some ⟨bd,0,none⟩),.int .i64 0]) H')
  (k2:∀n H',n≠0->¬PlanOk h->Ext H H'->R (.tuple #[.pointer none,.int .i64 n]) H'):Ru 105 [.agg (hdrC h p).toArray] H R:=by
 refine v105 (hdrC h p) fun H1 q n1=>⟨_,rfl,n1.rdL,c8 h p (r.ext n1.mod) (fun hp H2 e2=>⟨i64s (planL h),rfl,_,rfl,fun H3 q3 n3=>⟨rfl,i64s_one,n3.own.w 0 4 rfl,fun H4 h4=>⟨by simp,fun _=>?_⟩⟩⟩) (fun n H2 hn hno e2=>⟨i64s [0,0,0,0],rfl,_,rfl,fun H3 q3 n3=>⟨rfl,i64s_one,n3.own.w 0 4 rfl,fun H4 h4=>⟨fun _=>k2 n H4 hn hno ?_,fun h'=>(h' hn).elim⟩⟩⟩)⟩
 rotate_left
 ·rw[h4];exact ((n1.mod.thenExt e2).new n3).trans_new (Mod.refl.wrL (S:=[q3]) (.inl (by simp))) (by simp;have:=n1.mod.1;have:=e2.1;have:=n3.ge;omega)
 have ok:=hp.1
 have o4:Own H4 q3 (i64s (planL h)):=by rw[h4];exact n3.own.swrL rfl
 have e24:Ext H2 H4:=by rw[h4];exact n3.mod.trans_new (Mod.refl.wrL (S:=[q3]) (.inl (by simp))) (by simpa using n3.ge)
 clear h4
 have e14:=e2.thenExt e24
 have e04:=n1.mod.thenExt e14
 have rq4:=e14.rdL (S:=[]) (by simp) n1.rdL
 refine⟨_,rfl,rq4,fun H5 p2 n5=>⟨rfl,?_,n5.own.w 0 9 rfl,fun H6 h6=>?_⟩⟩
 ·intro v hv;simp only[hdrC,List.mem_cons,List.not_mem_nil,or_false] at hv;rcases hv with rfl|rfl|rfl|rfl|rfl|rfl|rfl|rfl|rfl<;>trivial
 have o6:Own H6 p2 (hdrC h p):=by rw[h6];exact n5.own.swrL rfl
 have e46:Ext H4 H6:=by rw[h6];exact n5.mod.trans_new (Mod.refl.wrL (S:=[p2]) (.inl (by simp))) (by simpa using n5.ge)
 clear h6
 have e06:=e04.thenExt e46
 have rq6:∀j v,(hdrC h p)[j]?=some v->rd H6 q j=some v:=fun j v hj=>(e14.thenExt e46).rd (by simp) ((n1.rd j).trans hj)
 have hsl:h.step.ops.length<=4096:=by obtain⟨t,g⟩:=ok.step;exact g.form.1
 have hll:h.loss.ops.length<=4096:=by obtain⟨t,g⟩:=ok.loss;exact g.form.1
 obtain⟨d1,d2,d3,d4,d5⟩:=ok.dims
 refine⟨_,_,_,rq6 4 _ rfl,_,_,_,rq6 6 _ rfl,c68 (r.ext e06).s (by omega) fun sa sc H7 bS e7=>⟨_,_,_,rfl,e7.rd (by simp) (rq6 6 _ rfl),c68 ((r.ext e06).ext e7).l (by omega) fun la lc H8 bL e8=>⟨_,_,_,rfl,?_,fun H9 h9=>?_⟩⟩⟩
 ·exact ((o6.mod e7 (by simp)).mod e8 (by simp)).w 4 1 rfl
 have e68:=e7.thenExt e8
 have o8:=o6.mod e68 (by simp)
 have o9:=o8.wr 4 (.slice sa h.step.ops.length sc)
 rw[<-h9] at o9
 have m9:Mod [p2] H8 H9:=by rw[h9];exact Mod.refl.wr (.inl (by simp))
 clear h9
 refine⟨o9.w 6 1 rfl,fun H10 h10=>?_⟩
 have o10:=o9.wr 6 (.slice la h.loss.ops.length lc)
 rw[<-h10] at o10
 have m10:Mod [p2] H8 H10:=by rw[h10];exact m9.wr (.inl (by simp))
 clear h10
 have hp2g:=n5.ge;have hp2l:=n5.lt;have hz46:=e46.1;have hqlt:=n1.lt;have hz14:=e14.1;have hz01:=n1.mod.1
 have hp2S:∀x∈[p2],x<H6.size:=by simp;exact o6.lt (by simp[hdrC])
 have bS10:=(bS.ext e8).mod m10 hp2S
 have bL10:=bL.mod m10 (fun x hx=>Nat.lt_of_lt_of_le (hp2S x hx) e7.1)
 have e010:Ext H H10:=(e06.thenExt e68).trans_new m10 (by simp;omega)
 have rq10:∀j v,(hdrC h p)[j]?=some v->rd H10 q j=some v:=fun j v hj=>m10.rd (by simp;omega) (e68.rd (by simp) (rq6 j v hj))
 refine⟨_,_,_,rq10 1 _ rfl,_,_,_,rq10 2 _ rfl,c69 (r.ext e010).x (by omega) fun xa xc H11 bX e11=>⟨_,_,_,rfl,e11.rd (by simp) (rq10 2 _ rfl),c69 ((r.ext e010).ext e11).th (by omega) fun ta tc H12 bT e12=>⟨_,_,_,rfl,?_,fun H13 h13=>?_⟩⟩⟩
 ·exact ((o10.mod e11 (by simp)).mod e12 (by simp)).w 1 1 rfl
 have e1012:=e11.thenExt e12
 have o12:=o10.mod e1012 (by simp)
 have o13:=o12.wr 1 (.slice xa h.x.length xc)
 rw[<-h13] at o13
 have m13:Mod [p2] H12 H13:=by rw[h13];exact Mod.refl.wr (.inl (by simp))
 clear h13
 refine⟨o13.w 2 1 rfl,fun H14 h14=>?_⟩
 have o14:=o13.wr 2 (.slice ta h.th.length tc)
 rw[<-h14] at o14
 have m14:Mod [p2] H12 H14:=by rw[h14];exact m13.wr (.inl (by simp))
 clear h14
 have hz68:=e68.1;have hz10:=m10.1;have hz11:=e11.1;have hz12:=e12.1;have hz14':=m14.1
 have bS14:=(bS10.ext e1012).mod m14 hp2S
 have bL14:=(bL10.ext e1012).mod m14 (fun x hx=>Nat.lt_of_lt_of_le (hp2S x hx) e7.1)
 have bX14:=(bX.ext e12).mod m14 (fun x hx=>by have:=hp2S x hx;omega)
 have bT14:=bT.mod m14 (fun x hx=>by have:=hp2S x hx;omega)
 have e014:Ext H H14:=(e010.thenExt e1012).trans_new m14 (by simp;omega)
 have rq14:∀j v,(hdrC h p)[j]?=some v->rd H14 q j=some v:=fun j v hj=>m14.rd (by simp;omega) (e1012.rd (by simp) (rq10 j v hj))
 have o4':RdL H14 q3 0 (i64s (planL h)):=by
  have hq3:q3≠p2:=by have:=o4.lt (by simp[i64s,planL]);omega
  exact m14.rdL (by simpa using hq3) (e1012.rdL (by simp) (m10.rdL (by simpa using hq3) ((e46.thenExt e68).rdL (by simp) o4.1)))
 have hcs:RdL H14 p2 0 (hdrC h ⟨xa,xc,ta,tc,sa,sc,la,lc⟩):=o14.1
 refine⟨_,rfl,o4',_,rfl,hcs,_,rq14 7 _ rfl,⟨rfl,rfl⟩,fun H15 bd n15=>?_⟩
 have hbd:=n15.ge
 have e015:=e014.new n15
 have rq15:=(n15.mod).rdL (S:=[]) (by simp) (rdL_iff.2 fun j v hj=>by rw[Nat.zero_add];exact rq14 j v hj)
 refine⟨_,rfl,rq15,c169 h p (r.ext e015) hp fun pa pc H16 bP e16=>⟨_,_,_,_,rfl,?_,fun H17 h17=>?_⟩⟩
 ·exact (n15.own.mod e16 (by simp)).w 13 1 rfl
 have o17:=(n15.own.mod e16 (by simp)).wr 13 (.slice pa 10 pc)
 rw[<-h17] at o17
 have m17:Mod [bd] H16 H17:=by rw[h17];exact Mod.refl.wr (.inl (by simp))
 clear h17
 have hbdl:=n15.lt;have hz16:=e16.1
 have e1517:=n15.mod.thenExt e16
 have bS17:=(bS14.ext e1517).keep2 m17 (by
  intro hc b e hx;simp at hx;subst hx;subst e
  have:=bS14.lt hc (by omega);omega)
 have bL17:=(bL14.ext e1517).keep2 m17 (by
  intro hc b e hx;simp at hx;subst hx;subst e
  have:=bL14.lt hc (by omega);omega)
 have bX17:=(bX14.ext e1517).keep2 m17 (by
  intro hc b e hx;simp at hx;subst hx;subst e
  have:=bX14.lt hc (by omega);omega)
 have bT17:=(bT14.ext e1517).keep2 m17 (by
  intro hc b e hx;simp at hx;subst hx;subst e
  have:=bT14.lt hc (by omega);omega)
 have bP17:=bP.mod m17 (by simp;omega)
 have ne:∀{sz n l c:Nat} {a:Option Addr} {cells:List Value},Buf sz H14 n a l c cells->0<sz->∀b o,0<l->a=some ⟨b,o,none⟩->b≠bd:=by
  intro sz n l c a cells hB hz b o hl e e2
  subst e2
  rcases hB.ok with h0|⟨b',e',_⟩
  ·have:=Nat.mul_pos (Nat.lt_of_lt_of_le hl hB.le) hz;omega
  ·rw[e] at e';cases e'
   have hB':=hB
   rw[e] at hB'
   have:=hB'.lt (Nat.lt_of_lt_of_le hl hB.le) hz;omega
 have hz7:=e7.1;have hz014:=e014.1;have hz15:=e015.1;have hz010:=e010.1;have hz06:=e06.1;have hz04:=e04.1
 refine k1 hp H17 bd ⟨xa,xc,ta,tc,sa,sc,la,lc⟩ pa pc o17 ⟨bX17.row,bT17.row,bS17.row,bL17.row,r.x1,r.th1,r.s1,r.l1⟩ bP17.row ((e015.thenExt e16).trans_new m17 (by simp;omega)) (by omega)
  (bX17.lo (by omega) |>.down (by omega)) (bT17.lo (by omega) |>.down (by omega)) (bS17.lo (by omega) |>.down (by omega)) (bL17.lo (by omega) |>.down (by omega)) (bP17.lo (by omega) |>.down (by omega)) (ne bX14 (by omega)) (ne bT14 (by omega)) (ne bS14 (by omega)) (ne bL14 (by omega)) ?_
 intro b o e e2
 have:=bP.lo (by omega) (by omega) b o e
 omega
end Go.VC
namespace Go.VC
open Go Go.Proofs
theorem over_same {α:Type}(z:α)(N at_ n:Nat)(h:at_+n<=N):over (List.replicate N z) at_ (List.replicate n z)=List.replicate N z:=by
 unfold over
 simp only[List.take_replicate,List.drop_replicate,List.length_replicate,List.replicate_append_replicate]
 congr 1;omega
theorem c111 {H:Heap}{R:Value->Heap->Prop}{ba bw N given:Nat}(h:Arena H ba bw (List.replicate N 0) given)(n x:Nat)(h0:0<N)(hn:n<=1048576)(h1:1<=x)(h2:x<=64)(hg:given+n*(x+1)<=N)
  (k:∀H' bs,Arena H' ba bw (List.replicate N 0) (given+n*(x+1))->Own H' bs (slotsC given n x ba)->Mod [ba,bw] H H'->H.size<=bs->R (.tuple #[.pointer (some ⟨bs,0,none⟩),.int .i64 0]) H') :
  Ru 111 [.pointer (some ⟨ba,0,none⟩),.int .i64 (n:Int),.int .i64 (x:Int)] H R:=by
 have hf:=h.few
 simp at hf
 have hba:=h.lt
 have hbw:bw<H.size:=h.row.lt (u64s_ne (by simpa using h0))
 refine v111 _ _ _ _ fun H1 p n1=>⟨rfl,?_,n1.own.w 0 3 rfl,fun H2 h2'=>?_⟩
 ·intro v hv;simp only[List.mem_cons,List.not_mem_nil,or_false] at hv;rcases hv with rfl|rfl|rfl<;>trivial
 have o2:Own H2 p [.int .i64 0,.int .i64 (n:Int),.int .i64 (x:Int)]:=by rw[h2'];exact n1.own.swrL rfl
 have e02:Ext H H2:=by rw[h2'];exact n1.mod.trans_new (Mod.refl.wrL (S:=[p]) (.inl (by simp))) (by simpa using n1.ge)
 clear h2'
 have hp:=n1.ge
 have hnx:(n:Int)*((x:Int)+1)=((n*(x+1):Nat):Int):=by push_cast;rfl
 refine⟨_,rfl,o2.1,c175 0 n x (by omega) (by omega) (by omega) (by omega) fun H3 e3=>⟨_,rfl,by simp,fun _=>⟨_,rfl,(o2.mod e3 (by simp)).1,c176 0 n x (by omega) (by omega) fun H4 e4=>⟨_,rfl,?_,?_⟩⟩⟩⟩
 ·rw[hnx];exact⟨by omega,by omega⟩
 rw[hnx]
 have e04:=(e02.thenExt e3).thenExt e4
 have o4:=(o2.mod e3 (by simp)).mod e4 (by simp)
 refine c109 (n*(x+1)) (h.mod e04 (by simp) (by simp)) (by simpa using hg) fun H5 a5 m5=>⟨_,_,rfl,by simp,fun _=>?_⟩
 have o5:=o4.mod m5 (by simp;omega)
 refine⟨o5.w 0 1 rfl,fun H6 h6=>?_⟩
 have o6:=o5.wr 0 (.int .i64 (given:Int))
 rw[<-h6] at o6
 have m6:Mod [p] H5 H6:=by rw[h6];exact Mod.refl.wr (.inl (by simp))
 clear h6
 have a6:=a5.mod m6 (by simp;omega) (by simp;omega)
 refine⟨_,rfl,o6.1,c176 _ _ _ (by omega) (by omega) fun H7 e7=>⟨_,rfl,?_,?_,fun H8 q n8=>?_⟩⟩
 ·rw[hnx];exact⟨by omega,by omega⟩
 ·rw[hnx];exact⟨by omega,by omega,by omega,by omega,by omega⟩
 rw[hnx,Int.toNat_natCast] at n8 ⊢
 rw[rep_u64] at n8
 have e68:=e7.new n8
 refine c177 (xs:=List.replicate (n*(x+1)) 0) (a6.mod e68 (by simp) (by simp)) given (n8.own.rowU (by simp)) (by omega) fun H9 a9 m9=>⟨_,rfl,?_⟩
 rw[over_same _ _ _ _ hg] at a9
 have o9:=(o6.mod e68 (by simp)).mod m9 (by simp;omega)
 refine⟨_,rfl,o9.1,rfl,fun H10 bs n10=>?_⟩
 have m09:Mod [ba,bw] H H9:=by
  have h1:Mod [ba,bw] H H6:=((Mod.ext e04).trans (m5.mono (by simp))).trans_new m6 (by simp;omega)
  exact h1.trans ((Mod.ext e68).trans (m9.mono (by simp)))
 refine k H10 bs (a9.mod n10.mod (by simp) (by simp)) n10.own (m09.thenExt n10.mod) ?_
 have:=m09.1;have:=n10.ge;omega
structure DIn (h:Hdr)(b:DB)(n:Nat):Prop where
 d:n<=b.d
 a:n<=b.a
 w:n<=b.w
 m:n<=b.m
 s:n<=b.s
 x:Lo n h.x.length b.hp.xa
 t:Lo n h.th.length b.hp.ta
 sp:Lo n h.step.ops.length b.hp.sa
 lp:Lo n h.loss.ops.length b.hp.la
 p:Lo n 10 b.pa
theorem DIn.off {h:Hdr}{b:DB}{n:Nat}(i:DIn h b n){S:List Nat}(hS:∀x∈S,x<n):DOff h b S:=
 ⟨fun e=>by have:=hS _ e;have:=i.d;omega,fun e=>by have:=hS _ e;have:=i.a;omega,fun e=>by have:=hS _ e;have:=i.w;omega,fun e=>by have:=hS _ e;have:=i.m;omega,fun _ e=>by have:=hS _ e;have:=i.s;omega,
  ⟨fun h0 b o e hb=>by have:=i.x h0 b o e;have:=hS _ hb;omega,fun h0 b o e hb=>by have:=i.t h0 b o e;have:=hS _ hb;omega,fun h0 b o e hb=>by have:=i.sp h0 b o e;have:=hS _ hb;omega,fun h0 b o e hb=>by have:=i.lp h0 b o e;have:=hS _ hb;omega,fun b o e hb=>by have:=i.p (by omega) b o e;have:=hS _ hb;omega⟩⟩
theorem DIn.down {h:Hdr}{b:DB}{n m:Nat}(i:DIn h b n)(hm:m<=n):DIn h b m:=⟨Nat.le_trans hm i.d,Nat.le_trans hm i.a,Nat.le_trans hm i.w,Nat.le_trans hm i.m,Nat.le_trans hm i.s,i.x.down hm,i.t.down hm,i.sp.down hm,i.lp.down hm,i.p.down hm⟩
noncomputable def z0 (h:Hdr):PS:=⟨zeros (nT h),zeros (nX h),zeros (nS h),zeros (nL h),zeros (max (nS h) (nL h)),zeros (nX h),zeros (nT h),zeros (tapeOf h).toNat⟩
noncomputable def s0 (h:Hdr):PS:={ z0 h with th:=h.th,st:=h.x }
noncomputable def k0 (h:Hdr):List UInt64:=zeros (slotOf h*slotsOf h).toNat
noncomputable def post0 (h:Hdr):List UInt64:=zeros (h.words-(fixedOf h+tapeOf h+slotOf h*slotsOf h)).toNat
theorem parts_eq (h:Hdr)(ok:OkH h):partsOf h=[(nT h:Int),(nX h:Int),(nS h:Int),(nL h:Int),((max (nS h) (nL h):Nat):Int),(nX h:Int),(nT h:Int),tapeOf h,slotOf h]:=by
 obtain⟨a,b⟩:=ok_regs ok
 have e1:(nS h:Int)=h.step.regs:=by simp only[nS];omega
 have e2:(nL h:Int)=h.loss.regs:=by simp only[nL];omega
 have e3:((max (nS h) (nL h):Nat):Int)=max h.step.regs h.loss.regs:=by omega
 rw[e3,e1,e2];rfl
theorem fixed_eq (h:Hdr)(ok:OkH h):fixedOf h=((nT h+nX h+nS h+nL h+max (nS h) (nL h)+nX h+nT h:Nat):Int):=by
 unfold fixedOf
 rw[parts_eq h ok]
 simp only[List.take_succ_cons,List.take_zero,List.sum_cons,List.sum_nil]
 push_cast;omega
theorem z0_flat (h:Hdr)(hp:PlanOk h):(z0 h).l.flatten=zeros (fixedOf h+tapeOf h).toNat:=by
 have ht:=parts_small hp.1 (tapeOf h) (List.getElem_mem _)
 have hf:=fixed_eq h hp.1
 simp only[z0,PS.l,List.flatten_cons,List.flatten_nil,List.append_nil,zeros,List.replicate_append_replicate]
 congr 1;omega
theorem words_eq (h:Hdr)(hp:PlanOk h):List.replicate h.words.toNat (0:UInt64)=(z0 h).l.flatten++k0 h++post0 h:=by
 obtain⟨a,b,c,d⟩:=slots_small hp
 have ht:=parts_small hp.1 (tapeOf h) (List.getElem_mem _)
 have hf:=fixed_eq h hp.1
 rw[z0_flat h hp]
 simp only[zeros,k0,post0,List.replicate_append_replicate]
 congr 1;omega
theorem z0_lens (h:Hdr)(ok:OkH h):∀i (hi:i<(z0 h).l.length) (hi':i<(partsOf h).length),((z0 h).l[i].length:Int)=(partsOf h)[i]:=by
 have ht:=parts_small ok (tapeOf h) (List.getElem_mem _)
 intro i hi hi'
 have he:=parts_eq h ok
 have:(partsOf h)[i]=([(nT h:Int),(nX h:Int),(nS h:Int),(nL h:Int),((max (nS h) (nL h):Nat):Int),(nX h:Int),(nT h:Int),tapeOf h,slotOf h])[i]'(by rw[<-he];exact hi'):=by simp only[he]
 rw[this]
 have hi8:i<8:=hi
 match i,hi8 with
 | 0,_=>simp[z0,PS.l]
 | 1,_=>simp[z0,PS.l]
 | 2,_=>simp[z0,PS.l]
 | 3,_=>simp[z0,PS.l]
 | 4,_=>simp[z0,PS.l]
 | 5,_=>simp[z0,PS.l]
 | 6,_=>simp[z0,PS.l]
 | 7,_=>simp[z0,PS.l];omega
end Go.VC
namespace Go.VC
open Go Go.Proofs
theorem k0_slots (h:Hdr)(hp:PlanOk h)(hm:h.mode≠3):k0 h=slotsW (nX h) (heldOf h (List.replicate (slotsOf h).toNat (-1))):=by
 obtain⟨a,b,c,d⟩:=slots_small hp
 have hs:=slot_eq hm
 have e:heldOf h (List.replicate (slotsOf h).toNat (-1))=List.replicate (slotsOf h).toNat none:=by
  unfold heldOf;rw[List.map_replicate];simp
 rw[e]
 have key:∀n:Nat,slotsW (nX h) (List.replicate n none)=zeros (n*(nX h+1)):=by
  intro n
  induction n with
  | zero=>simp[slotsW,zeros]
  | succ n ih=>
   rw[List.replicate_succ]
   simp only[slotsW,List.flatMap_cons] at ih ⊢
   rw[ih]
   simp only[slotW,zeros,List.replicate_append_replicate,Nat.add_mul,Nat.one_mul]
   congr 1;omega
 rw[key]
 unfold k0
 congr 1
 have h1:slotOf h*slotsOf h=(((slotsOf h).toNat*(nX h+1):Nat):Int):=by
  push_cast
  rw[hs,Int.mul_comm]
  congr 1;omega
 omega
theorem drvL_eq (h:Hdr)(b:DB)(d:DS)(s:Value)(hs:s=slotsPtr h b):drvL (i64s (planL h)) (hdrC h b.hp) (.slice b.pa 10 b.pc) (.pointer (some ⟨b.a,0,none⟩)) s (.pointer (some ⟨b.m,0,none⟩)) d=drvC h b d:=by
 subst hs;rfl
theorem c49 {H:Heap}{R:Value->Heap->Prop}(h:Hdr)(p:HAt)(r:HRows H h p)
  (k1:PlanOk h->∀H' b,Drv H' b h (d0 h (fixedOf h)) (s0 h) (k0 h) (post0 h)->DIn h b H.size->Ext H H'->R (.tuple #[.pointer (some ⟨b.d,0,none⟩),.int .i64 0]) H')
  (k2:∀n H',n≠0->¬PlanOk h->Ext H H'->R (.tuple #[.pointer none,.int .i64 n]) H'):Ru 49 [.agg (hdrC h p).toArray] H R:=by
 refine v49 (hdrC h p) fun H1 q n1=>⟨_,rfl,n1.rdL,c105 h p (r.ext n1.mod) (fun hp H2 bd hq pa pc o2 rr2 rp2 e2 hbd lx lt ls ll lp nx nt ns nl np=>⟨_,_,rfl,by simp,fun _=>?_⟩) (fun n H2 hn hno e2=>⟨_,_,rfl,fun _=>k2 n H2 hn hno (n1.mod.thenExt e2),fun h'=>(h' hn).elim⟩)⟩
 have ok:=hp.1
 obtain⟨sl0,sl1,sl2,sl3⟩:=slots_small hp
 have htp:=parts_small ok (tapeOf h) (List.getElem_mem _)
 have hfx:=fixed_eq h ok
 obtain⟨rg1,rg2⟩:=ok_regs ok
 obtain⟨d1,d2,d3,d4,d5⟩:=ok.dims
 have hwd:=ok.words
 have hnS:nS h=h.step.regs.toNat:=rfl
 have hw1:1<=h.words:=by omega
 have e02:=n1.mod.thenExt e2
 have rq:∀{H'} (e:Ext H2 H') j v,(hdrC h p)[j]?=some v->rd H' q j=some v:=fun e j v hj=>e.rd (by simp) (e2.rd (by simp) ((n1.rd j).trans hj))
 have hqd:q≠bd:=by have:=n1.lt;omega
 refine⟨_,rq Mod.refl 8 _ rfl,?_⟩
 have hww:h.words=(h.words.toNat:Int):=by omega
 have hc106:∀R',(∀H' b bw,Arena H' b bw (List.replicate h.words.toNat 0) 0->Ext H2 H'->H2.size<=b->H2.size<=bw->R' (.tuple #[.pointer (some ⟨b,0,none⟩),.int .i64 0]) H')->Ru 106 [.int .i64 h.words] H2 R':=by
  intro R' hk
  have:=c106 (R:=R') h.words.toNat (by omega) (by omega) hk
  rwa [<-hww] at this
 refine hc106 _ fun H3 ba bw ar3 e3 ha hb=>⟨_,_,rfl,bd,0,rfl,trivial,?_,fun H4 h4=>?_⟩
 ·rw[Nat.zero_add];exact (o2.mod e3 (by simp)).w 14 1 rfl
 rw[Nat.zero_add] at h4
 have hbdl:bd<H2.size:=o2.lt (by simp[drvL,i64s,planL])
 have o4:=(o2.mod e3 (by simp)).wr 14 (.pointer (some ⟨ba,0,none⟩))
 rw[<-h4] at o4
 have m4:Mod [bd] H3 H4:=by rw[h4];exact Mod.refl.wr (.inl (by simp))
 clear h4
 have o4':Own H4 bd (drvL (i64s (planL h)) (hdrC h hq) (.slice pa 10 pc) (.pointer (some ⟨ba,0,none⟩)) (.pointer none) (.pointer none) (d0 h 0)):=o4
 have ar4:=ar3.mod m4 (by simp;omega) (by simp;omega)
 have m24:Mod [bd] H2 H4:=(Mod.ext e3).trans m4
 have rq4:∀j v,(hdrC h p)[j]?=some v->rd H4 q j=some v:=fun j v hj=>m4.rd (by simpa using hqd) (rq e3 j v hj)
 refine⟨_,rq4 8 _ rfl,c107 h.words (by omega) fun H5 bm n5=>⟨_,_,rfl,bd,0,rfl,trivial,?_,fun H6 h6=>?_⟩⟩
 ·rw[Nat.zero_add];exact (o4'.mod n5.mod (by simp)).w 16 1 rfl
 rw[Nat.zero_add] at h6
 have o6:=(o4'.mod n5.mod (by simp)).wr 16 (.pointer (some ⟨bm,0,none⟩))
 rw[<-h6] at o6
 have m6:Mod [bd] H5 H6:=by rw[h6];exact Mod.refl.wr (.inl (by simp))
 clear h6
 have o6':Own H6 bd (drvL (i64s (planL h)) (hdrC h hq) (.slice pa 10 pc) (.pointer (some ⟨ba,0,none⟩)) (.pointer none) (.pointer (some ⟨bm,0,none⟩)) (d0 h 0)):=o6
 have hbm:=n5.ge;have hbml:=n5.lt;have z24:=m24.1;have z3:=e3.1;have z4:=m4.1
 have hal3:ba<H4.size:=ar4.lt
 have hbl3:bw<H4.size:=ar4.row.lt (u64s_ne (by simp;omega))
 have met6:Own H6 bm (meterC 0 0 h.words):=n5.own.mod m6 (by simp;omega)
 have ar6:=(ar4.mod n5.mod (by simp) (by simp)).mod m6 (by simp;omega) (by simp;omega)
 refine⟨bd,0,rfl,_,by rw[Nat.zero_add];exact o6'.rd 16 rfl,bd,0,rfl,fixedOf h,o6'.rd 0 rfl,?_⟩
 refine c108 (fixedOf h) met6 (by omega) (by omega) (by omega) (by omega) fun H7 met7 m7=>⟨_,rfl,?_⟩
 have hf0:max 0 (0+fixedOf h)=fixedOf h:=by omega
 rw[Int.zero_add,show max 0 (fixedOf h)=fixedOf h from by omega] at met7
 have o7:=o6'.mod m7 (by simp;omega)
 have ar7:=ar6.mod m7 (by simp;omega) (by simp;omega)
 have m27:Mod [bd] H2 H7:=(m24.trans ((Mod.ext n5.mod).trans m6)).trans_new m7 (by simp;omega)
 have rp7:=Mod.row m27 (fun b o e hb=>by simp at hb;exact np b o e hb) rp2
 have kept:((partsOf h).take 8).sum=(((z0 h).l.flatten.length:Nat):Int):=by rw[take8,z0_flat h hp];simp;omega
 obtain⟨pb,po,pe,pr⟩:=rp7.at (by omega)
 have r8:rd H7 pb (po+8)=some (.int .i64 (((z0 h).l.flatten.length:Nat):Int)):=by
  refine rdL_get' pr ?_
  simp only[i64s,List.getElem?_map,places_get h (show 8<=8 by omega),Option.map_some,kept]
 have hzl:(z0 h).l.flatten.length=(fixedOf h+tapeOf h).toNat:=by rw[z0_flat h hp];simp
 refine⟨bd,0,rfl,_,by rw[Nat.zero_add];exact o7.rd 14 rfl,bd,0,rfl,pa,10,pc,by rw[Nat.zero_add];exact o7.rd 13 rfl,pb,po,pe,⟨by omega,by omega⟩,_,r8,?_⟩
 refine c109 _ ar7 (by rw[Nat.zero_add,List.length_replicate];omega) fun H8 ar8 m8=>⟨_,_,rfl,?_⟩
 rw[Nat.zero_add] at ar8
 have o8:=o7.mod m8 (by simp;omega)
 have z7:=m27.1;have z8:=m8.1
 refine v110 _ _ ⟨_,by rw[Nat.zero_add];exact o8.rd 4 rfl,?_⟩
 have m28:Mod [bd] H2 H8:=m27.trans_new m8 (by simp;omega)
 have rq8:∀j v,(hdrC h p)[j]?=some v->rd H8 q j=some v:=fun j v hj=>m28.rd (by simpa using hqd) (rq Mod.refl j v hj)
 have met8:=met7.mod m8 (by simp;omega)
 have e08:Ext H H8:=e02.trans_new m28 (by simp;have:=n1.mod.1;omega)
 have hg:=n1.mod.1;have z02:=e02.1;have z08:=e08.1;have z45:=n5.mod.1;have z56:=m6.1;have z67:=m7.1
 have aw:=ar8.ne
 have fin:∀(H9:Heap) (bs:Nat),Own H9 bd (drvL (i64s (planL h)) (hdrC h hq) (.slice pa 10 pc) (.pointer (some ⟨ba,0,none⟩)) (if h.mode=3 then .pointer none else .pointer (some ⟨bs,0,none⟩)) (.pointer (some ⟨bm,0,none⟩)) (d0 h (fixedOf h)))->
   Arena H9 ba bw (List.replicate h.words.toNat 0) ((z0 h).l.flatten.length+(k0 h).length)->(h.mode≠3->RdL H9 bs 0 (slotsC (z0 h).l.flatten.length (slotsOf h).toNat (nX h) ba))->Mod [bd,ba,bw] H8 H9->H8.size<=bs->
   (∃a l c,rd H9 q 2=some (.slice a l c)/\Ru 112 [.pointer (some ⟨bd,0,none⟩),.int .i64 0,.slice a l c] H9 fun r H'=>∃a l c,rd H' q 1=some (.slice a l c)/\Ru 112 [.pointer (some ⟨bd,0,none⟩),.int .i64 1,.slice a l c] H' fun r H'=>R (.tuple #[.pointer (some ⟨bd,0,none⟩),.int .i64 0]) H'):=by
  intro H9 bs o9 ar9 sl9 m9 hbs
  have m29:Mod [bd,ba,bw] H2 H9:=(m28.mono (by simp)).trans m9
  have hqS:q∉[bd,ba,bw]:=by have:=n1.lt;simp;omega
  have rq9:∀j v,(hdrC h p)[j]?=some v->rd H9 q j=some v:=fun j v hj=>m29.rd hqS (rq Mod.refl j v hj)
  have off:∀{a:Option Addr} {l:Nat},(0<l->∀b o,a=some ⟨b,o,none⟩->b≠bd)->(0<l->∀b o,a=some ⟨b,o,none⟩->b<H2.size)->0<l->Off [bd,ba,bw,bm] a:=by
   intro a l h1 h2 hl b o e hb
   have:=h1 hl b o e;have:=h2 hl b o e
   simp at hb;omega
  have rlt:∀{sz l:Nat} {a:Option Addr} {cells:List Value},Row sz H2 a l cells->0<sz->0<l->∀b o,a=some ⟨b,o,none⟩->b<H2.size:=by
   intro sz l a cells hr hz hl b o e
   apply Classical.byContradiction
   intro hn
   exact hr.fresh (S:=[b]) hz hl (by simp;omega) b o e (by simp)
  have of:ROff h ⟨bd,ba,bw,bm,bs,hq,pa,pc⟩ [bd,ba,bw,bm]:=
   ⟨fun h0=>off (fun h1 b o e=>nx b o h1 e) (fun h1=>rlt rr2.x (by omega) h1) h0,fun h0=>off (fun h1 b o e=>nt b o h1 e) (fun h1=>rlt rr2.th (by omega) h1) h0,fun h0=>off (fun h1 b o e=>ns b o h1 e) (fun h1=>rlt rr2.s (by omega) h1) h0,
    fun h0=>off (fun h1 b o e=>nl b o h1 e) (fun h1=>rlt rr2.l (by omega) h1) h0,off (l:=10) (fun h1 b o e=>np b o e) (fun h1=>rlt rp2 (by omega) h1) (by omega)⟩
  have of':=of.mono (T:=[bd,ba,bw]) (by simp)
  have hdb:drvL (i64s (planL h)) (hdrC h hq) (.slice pa 10 pc) (.pointer (some ⟨ba,0,none⟩)) (if h.mode=3 then .pointer none else .pointer (some ⟨bs,0,none⟩)) (.pointer (some ⟨bm,0,none⟩)) (d0 h (fixedOf h))=drvC h ⟨bd,ba,bw,bm,bs,hq,pa,pc⟩ (d0 h (fixedOf h)):=
   drvL_eq h ⟨bd,ba,bw,bm,bs,hq,pa,pc⟩ _ _ rfl
  rw[hdb] at o9
  have v9:Drv H9 ⟨bd,ba,bw,bm,bs,hq,pa,pc⟩ h (d0 h (fixedOf h)) (z0 h) (k0 h) (post0 h):=by
   refine⟨o9,by rw[<-words_eq h hp];exact ar9,met8.mod m9 (by simp;omega),?_,Mod.row m29 of'.p rp2,rfl,z0_lens h ok,?_,?_,sl9,hp,by dsimp only;omega,by dsimp only;omega,by dsimp only;omega,by dsimp only;omega,by dsimp only;omega,⟨by dsimp only;omega,by dsimp only;omega,by dsimp only;omega,by dsimp only;omega⟩,of⟩
   ·exact HRows.mod (b:=⟨bd,ba,bw,bm,bs,hq,pa,pc⟩) rr2 m29 of'
   ·simp[k0];omega
   ·rw[<-words_eq h hp];simp;omega
  have e09:Ext H H9:=e08.trans_new m9 (by simp;omega)
  refine⟨_,_,_,rq9 2 _ rfl,c112 v9 0 (by omega) (Ext.row e09 r.th) (by simp[z0,PS.l,nT]) fun H10 v10 m10=>⟨_,_,_,m10.rd (by have:=n1.lt;simp;omega) (rq9 1 _ rfl),?_⟩⟩
  have e010:Ext H H10:=e09.trans_new m10 (by simp;omega)
  refine c112 v10 1 (by omega) (Ext.row e010 r.x) (by simp[z0,PS.l,putP,nX]) fun H11 v11 m11=>?_
  have hP:putP (putP (z0 h).l 0 h.th) 1 h.x=(s0 h).l:=by
   have e1:(zeros (nT h)).drop h.th.length=[]:=List.drop_of_length_le (by simp[nT])
   have e2:(zeros (nX h)).drop h.x.length=[]:=List.drop_of_length_le (by simp[nX])
   have e3:putP (putP (z0 h).l 0 h.th) 1 h.x=[h.th++(zeros (nT h)).drop h.th.length,h.x++(zeros (nX h)).drop h.x.length,zeros (nS h),zeros (nL h),zeros (max (nS h) (nL h)),zeros (nX h),zeros (nT h),zeros (tapeOf h).toNat]:=rfl
   rw[e3,e1,e2,List.append_nil,List.append_nil];rfl
  rw[hP] at v11
  refine k1 hp H11 _ v11 ⟨by dsimp only;omega,by dsimp only;omega,by dsimp only;omega,by dsimp only;omega,by dsimp only;omega,lx.down hg,lt.down hg,ls.down hg,ll.down hg,lp.down hg⟩ (e010.trans_new m11 (by simp;omega))
 refine⟨_,rfl,fun hb=>?_,fun hb=>?_⟩
 ·simp at hb
  have hsl:slotsOf h*slotOf h=(((k0 h).length:Nat):Int):=by simp[k0];rw[Int.mul_comm];omega
  refine⟨bd,0,rfl,_,by rw[Nat.zero_add];exact o8.rd 14 rfl,bd,0,rfl,slotsOf h,by rw[Nat.zero_add];exact o8.rd 3 rfl,bd,0,rfl,slotOf h,by rw[Nat.zero_add];exact o8.rd 2 rfl,⟨by rw[hsl];simp[k0];omega,by rw[hsl];simp[k0];omega⟩,?_⟩
  rw[hsl]
  have hkl:(k0 h).length=(slotOf h*slotsOf h).toNat:=by simp[k0]
  refine c109 _ ar8 (by rw[List.length_replicate,hkl,hzl];omega) fun H9 ar9 m9=>⟨_,_,rfl,?_⟩
  have o9:=o8.mod m9 (by simp;omega)
  refine fin H9 H9.size ?_ ar9 (fun h'=>(h' hb).elim) (m9.mono (by simp)) m9.1
  rw[if_pos hb];exact o9
 ·simp at hb
  refine⟨bd,0,rfl,_,by rw[Nat.zero_add];exact o8.rd 14 rfl,bd,0,rfl,slotsOf h,by rw[Nat.zero_add];exact o8.rd 3 rfl,_,_,_,rq8 1 _ rfl,?_⟩
  have hse:=slot_eq hb
  have hmul:(slotsOf h).toNat*(nX h+1)=(k0 h).length:=by
   rw[k0_slots h hp hb,slotsW_length (by intro x hx;simp[heldOf] at hx;rw[hx.2];trivial),heldOf_length,List.length_replicate]
  have hkl:(k0 h).length=(slotOf h*slotsOf h).toNat:=by simp[k0]
  have hsn:slotsOf h=((slotsOf h).toNat:Int):=by omega
  have hc111:∀R',(∀H' bs,Arena H' ba bw (List.replicate h.words.toNat 0) ((z0 h).l.flatten.length+(slotsOf h).toNat*(nX h+1))->Own H' bs (slotsC (z0 h).l.flatten.length (slotsOf h).toNat (nX h) ba)->Mod [ba,bw] H8 H'->H8.size<=bs->R' (.tuple #[.pointer (some ⟨bs,0,none⟩),.int .i64 0]) H')->
    Ru 111 [.pointer (some ⟨ba,0,none⟩),.int .i64 (slotsOf h),.int .i64 (h.x.length:Int)] H8 R':=by
   intro R' hk
   have:=c111 (R:=R') ar8 (slotsOf h).toNat (nX h) (by omega) (by omega) (by simp only[nX];omega) (by simp only[nX];omega) (by rw[hmul,hkl];omega) hk
   rw[<-hsn] at this;exact this
  refine hc111 _ fun H9 bs ar9 o9s m9 hbs=>⟨_,_,rfl,bd,0,rfl,trivial,?_,fun H10 h10=>?_⟩
  ·rw[Nat.zero_add];exact (o8.mod m9 (by simp;omega)).w 15 1 rfl
  rw[Nat.zero_add] at h10
  have o10:=(o8.mod m9 (by simp;omega)).wr 15 (.pointer (some ⟨bs,0,none⟩))
  rw[<-h10] at o10
  have m10:Mod [bd] H9 H10:=by rw[h10];exact Mod.refl.wr (.inl (by simp))
  clear h10
  rw[hmul] at ar9
  refine fin H10 bs ?_ (ar9.mod m10 (by simp;omega) (by simp;omega)) (fun _=>(o9s.mod m10 (by simp;omega)).1) ((m9.mono (by simp)).trans (m10.mono (by simp))) hbs
  rw[if_neg hb];exact o10
end Go.VC
namespace Go.VC
open Go Go.Proofs
variable {H:Heap}{R:Value->Heap->Prop}
def nextF (m:Int):Value:=.func (.func (if m=1 then 113 else if m=2 then 114 else 115)) #[] #[]
def engC (h:Hdr)(bd:Nat)(ended failed:Bool):List Value:=[.pointer (some ⟨bd,0,none⟩),.int .i64 h.mode,nextF h.mode,.bool ended,.bool failed]
structure EngS (H:Heap)(be:Nat)(b:DB)(h:Hdr)(d:DS)(tags:List Int)(ended failed:Bool)(s:PS)(post:List UInt64):Prop where
 top:Own H be (engC h b.d ended failed)
 drv:Drv H b h d s (slotsW (nX h) (heldOf h tags)) post
 sem:DSem h d tags s
 off:DOff h b [be]
theorem slots_pos {h:Hdr}(hp:PlanOk h)(hm:h.mode≠3):1<=slotsOf h:=by
 obtain⟨ok,hfit⟩:=hp
 have hs:=slot_eq hm
 have hl1:leastOf h=1:=by unfold leastOf;rw[if_neg hm]
 rw[hl1,Int.mul_one] at hfit
 unfold slotsOf
 rw[if_neg hm]
 exact Int.le_ediv_of_mul_le (by omega) (by omega)
theorem EngS.keep {S:List Nat}{H H':Heap}{be:Nat}{b:DB}{h:Hdr}{d:DS}{tags:List Int}{ended failed:Bool}{s:PS}{post:List UInt64}(e:EngS H be b h d tags ended failed s post)(m:Mod S H H')(h1:be∉S)(h2:DOff h b S):EngS H' be b h d tags ended failed s post:=
 ⟨e.top.mod m h1,e.drv.keep m h2,e.sem,e.off⟩
theorem EngS.ext {H H':Heap}{be:Nat}{b:DB}{h:Hdr}{d:DS}{tags:List Int}{ended failed:Bool}{s:PS}{post:List UInt64}(e:EngS H be b h d tags ended failed s post)(m:Ext H H'):EngS H' be b h d tags ended failed s post:=e.keep m (by simp) (DOff.nil h b)
theorem EngS.ne {H:Heap}{be:Nat}{b:DB}{h:Hdr}{d:DS}{tags:List Int}{ended failed:Bool}{s:PS}{post:List UInt64}(e:EngS H be b h d tags ended failed s post):be∉[b.d,b.m,b.w]:=by
 simp;exact⟨fun h=>e.off.d (by simp[h]),fun h=>e.off.m (by simp[h]),fun h=>e.off.w (by simp[h])⟩
theorem c54 {be:Nat}{h:Hdr}{bd:Nat}{ended failed:Bool}(t:Own H be (engC h bd ended failed))(k:R (.pointer (some ⟨bd,0,none⟩)) H):Ru 54 [.pointer (some ⟨be,0,none⟩)] H R:=
 v54 _ _ ⟨_,t.rd 0 rfl,k⟩
theorem c13 {be:Nat}{b:DB}{h:Hdr}{d:DS}{P:List (List UInt64)}{K post:List UInt64}{ended failed:Bool}(t:Own H be (engC h b.d ended failed))(v:DrvM H b h d P K post)(k:R (.int .i64 d.l) H):Ru 13 [.pointer (some ⟨be,0,none⟩)] H R:=
 v13 _ _ (c54 t (v55 _ _ ⟨_,by rw[Nat.zero_add];exact v.rd 17 rfl,_,rfl,k⟩))
theorem cpy {H:Heap}{p:Nat}{old cs:List Value}{n:Nat}{R:Value->Heap->Prop}{f:List Value->Value}{H0:Heap}(ho:Own H p old)(hn:cs.length=n)(hl:old.length=n)(hone:∀x∈cs,One x)(e:Ext H0 H)(hp:H0.size<=p)(k:∀H',Ext H0 H'->R (f cs) H') :
  cs.length=n/\(∀v:Value,v∈cs->One v)/\WOk H p 0 n/\∀H',H'=wrL H p 0 cs->∃cs:List Value,cs.length=n/\RdL H' p 0 cs/\R (f cs) H':=by
 refine⟨hn,hone,by have:=ho.2;rwa [hl] at this,fun H' h'=>⟨cs,hn,?_,?_⟩⟩
 ·rw[h'];refine rdL_wrL ?_;rw[hn];have:=ho.2;rwa [hl] at this
 ·exact k H' (by rw[h'];exact e.trans_new (Mod.refl.wrL (S:=[p]) (.inl (by simp))) (by simpa using hp))
theorem spot_one {at_ pend:Int}{a:Option Addr}{l c:Nat}:∀x∈spotC at_ pend a l c,One x:=by
 intro x hx;simp only[spotC,List.mem_cons,List.not_mem_nil,or_false] at hx;rcases hx with rfl|rfl|rfl<;>trivial
theorem act_one {k n:Int}:∀x∈actC k n,One x:=by
 intro x hx;simp only[actC,List.mem_cons,List.not_mem_nil,or_false] at hx;rcases hx with rfl|rfl<;>trivial
theorem c16 {be:Nat}{b:DB}{h:Hdr}{d:DS}{tags:List Int}{ended failed:Bool}{s:PS}{post:List UInt64}(e:EngS H be b h d tags ended failed s post)(hm:h.mode≠3)
  (k:∀a c H',Buf 1 H' H.size a tags.length c (i64s tags)->Ext H H'->R (.agg (spotC d.at_ d.pend a tags.length c).toArray) H'):Ru 16 [.pointer (some ⟨be,0,none⟩)] H R:=by
 refine v16 _ _ fun H1 p n1=>c54 (e.ext n1.mod).top (c57 (e.ext n1.mod).drv hm e.sem.mok e.sem.len fun a c H2 hB e2=>⟨_,rfl,rfl,?_⟩)
 have o2:=n1.own.mod e2 (by simp)
 refine⟨rfl,spot_one,o2.w 0 3 rfl,fun H3 h3=>⟨spotC d.at_ d.pend a tags.length c,rfl,by rw[h3];exact rdL_wrL o2.2,?_⟩⟩
 have m3:Mod [p] H2 H3:=by rw[h3];exact Mod.refl.wrL (.inl (by simp))
 exact k a c H3 ((hB.mod m3 (by simpa using n1.lt)).down n1.mod.1) ((n1.mod.thenExt e2).trans_new m3 (by simpa using n1.ge))
noncomputable def enext (h:Hdr)(d:DS)(tags:List Int)(ended:Bool):Option (Int × Int):=
 if h.mode=1 then revNext d.l d.at_ d.pend tags else strideNext d.l ended d.at_ d.pend tags
theorem actR_shape (o:Option (Int × Int)):∃k n c,actR o=.tuple #[.agg (actC k n).toArray,.bool c]/\c=o.isSome/\(∀q,o=some q->q=(k,n))/\(o=none->k=0/\n=0):=by
 cases o with
 | none=>exact⟨0,0,false,rfl,rfl,by simp,by simp⟩
 | some q=>obtain⟨k,n⟩:=q;exact⟨k,n,true,rfl,rfl,by simp,by simp⟩
theorem EngS.pos {H:Heap}{be:Nat}{b:DB}{h:Hdr}{d:DS}{tags:List Int}{ended failed:Bool}{s:PS}{post:List UInt64}(e:EngS H be b h d tags ended failed s post)(hm:h.mode≠3):1<=tags.length:=by
 have:=slots_pos e.drv.ok hm;have:=e.sem.len;omega
theorem cnext {H:Heap}{be:Nat}{b:DB}{h:Hdr}{d:DS}{tags:List Int}{ended failed:Bool}{s:PS}{post:List UInt64}(e:EngS H be b h d tags ended failed s post)(hm:h.mode=1\/h.mode=2) :
  ∃g,nextF h.mode=.func (.func g) #[] #[]/\callable Tryz.prog g=true/\∀R:Value->Heap->Prop,(∀H',Ext H H'->R (actR (enext h d tags ended)) H')->Ru g [.pointer (some ⟨be,0,none⟩)] H R:=by
 have hpos:=e.pos (by omega)
 have hmok:=e.sem.mok
 have hl0:0<=d.l:=hmok.l0
 rcases hm with hm|hm
 ·refine⟨113,by unfold nextF;rw[if_pos hm],by kernel_rfl,fun R K=>?_⟩
  unfold enext at K
  rw[if_pos hm] at K
  refine v113 _ _ fun H1 p n1=>c13 (e.ext n1.mod).top (e.ext n1.mod).drv ⟨_,rfl,c16 (e.ext n1.mod) (by omega) fun a c H2 hB e2=>⟨_,rfl,rfl,c178 d.l d.at_ d.pend hB.row hmok hpos fun H3 e3=>?_⟩⟩
  exact actEnd (n1.own.mod e2 (by simp)) _ n1.ge (n1.mod.thenExt e2) K e3 rfl
 ·refine⟨114,by unfold nextF;rw[if_neg (by omega),if_pos hm],by kernel_rfl,fun R K=>?_⟩
  unfold enext at K
  rw[if_neg (by omega)] at K
  have hdl:d.l=(d.l.toNat:Int):=by omega
  refine v114 _ _ fun H1 p n1=>⟨ended,(e.ext n1.mod).top.rd 3 rfl,c13 (e.ext n1.mod).top (e.ext n1.mod).drv ⟨_,rfl,(e.ext n1.mod).top.rd 3 rfl,c16 (e.ext n1.mod) (by omega) fun a c H2 hB e2=>⟨_,rfl,rfl,((e.ext n1.mod).ext e2).top.rd 3 rfl,?_⟩⟩⟩
  have key:=c179 (c:=c) (R:=fun r H'=>∃cs:List Value,List.length cs=2/\∃c,r=.tuple #[.agg (List.toArray cs),.bool c]/\List.length cs=2/\(∀v:Value,v∈cs->One v)/\WOk H' p 0 2/\∀H'_1,H'_1=wrL H' p 0 cs->∃cs:List Value,List.length cs=2/\RdL H'_1 p 0 cs/\R (.tuple #[.agg (List.toArray cs),.bool c]) H'_1) d.l.toNat ended d.at_ d.pend hB.row (by rw[<-hdl];exact hmok) hpos fun H3 e3=>actEnd (n1.own.mod e2 (by simp)) _ n1.ge (n1.mod.thenExt e2) (by rw[<-hdl];exact K) e3 rfl
  rw[<-hdl] at key
  exact key
theorem c52 {be:Nat}{b:DB}{h:Hdr}{d:DS}{tags:List Int}{ended:Bool}{s:PS}{post:List UInt64}(e:EngS H be b h d tags ended false s post)(hm:h.mode=1\/h.mode=2)
  (k:∀H',Ext H H'->R (.bool (enext h d tags ended).isNone) H'):Ru 52 [.pointer (some ⟨be,0,none⟩)] H R:=by
 obtain⟨g,hg,hc,hr⟩:=cnext e hm
 refine v52 _ _ ⟨false,e.top.rd 4 rfl,by simp,fun _=>⟨_,e.top.rd 2 rfl,g,_,_,hg,hc,hr _ fun H1 e1=>?_⟩⟩
 obtain⟨x,y,c,hs,hcc,_⟩:=actR_shape (enext h d tags ended)
 refine⟨actC x y,rfl,c,hs,fun H2 p n2=>⟨rfl,act_one,n2.own.w 0 2 rfl,fun H3 h3=>?_⟩⟩
 have:(!c)=(enext h d tags ended).isNone:=by rw[hcc];cases enext h d tags ended<;>rfl
 rw[this]
 refine k H3 ?_
 rw[h3];exact (e1.new n2).trans_new (Mod.refl.wrL (S:=[p]) (.inl (by simp))) (by simp;have:=n2.ge;have:=e1.1;omega)
theorem c11 {be:Nat}{b:DB}{h:Hdr}{d:DS}{tags:List Int}{ended:Bool}{s:PS}{post:List UInt64}(e:EngS H be b h d tags ended false s post)(hm:h.mode=1\/h.mode=2)
  (k:∀H',Ext H H'->R (.bool ((enext h d tags ended).isNone && decide (h.mode=2) && !ended)) H'):Ru 11 [.pointer (some ⟨be,0,none⟩)] H R:=by
 refine v11 _ _ (c52 e hm fun H1 e1=>⟨_,rfl,fun h1=>⟨_,(e.ext e1).top.rd 1 rfl,fun h2=>⟨ended,(e.ext e1).top.rd 3 rfl,?_⟩,fun h2=>?_⟩,fun h1=>?_⟩)
 ·have:=k H1 e1;simp only[h1,h2,decide_true,Bool.true_and] at this;exact this
 ·have:=k H1 e1;simp only[h2,decide_false,Bool.and_false,Bool.false_and] at this;exact this
 ·have:=k H1 e1;simp only[h1,Bool.false_and] at this;exact this
theorem c31 {be:Nat}{b:DB}{h:Hdr}{d:DS}{tags:List Int}{ended:Bool}{s:PS}{post:List UInt64}(e:EngS H be b h d tags ended false s post)(hm:h.mode=1\/h.mode=2)
  (k:∀H',Ext H H'->R (.bool ((enext h d tags ended).isNone && decide (d.pend=0))) H'):Ru 31 [.pointer (some ⟨be,0,none⟩)] H R:=by
 refine v31 _ _ (c52 e hm fun H1 e1=>⟨_,rfl,fun h1=>c16 (e.ext e1) (by omega) fun a c H2 hB e2=>⟨_,rfl,rfl,trivial,_,rfl,_,rfl,?_⟩,fun h1=>?_⟩)
 ·have:=k H2 (e1.thenExt e2);simp only[h1,Bool.true_and] at this;exact this
 ·have:=k H1 e1;simp only[h1,Bool.false_and] at this;exact this
theorem c12 {be:Nat}{b:DB}{h:Hdr}{d:DS}{tags:List Int}{ended:Bool}{s:PS}{post:List UInt64}(e:EngS H be b h d tags ended false s post)(hm:h.mode=1\/h.mode=2)
  (cnt:DCnt d 2305843009213693952) (hleg:∀k n,enext h d tags ended=some (k,n)->∃m,mstep (dMS d tags) k n=some m)
  (k1:enext h d tags ended=none->∀H',Ext H H'->R (.tuple #[.agg (actC 0 0).toArray,.bool false,.int .i64 0]) H')
  (k2:∀k n m,enext h d tags ended=some (k,n)->mstep (dMS d tags) k n=some m->∀H' s',EngS H' be b h (dact h d k n m) m.tags ended false s' post->Mod [b.d,b.m,b.w] H H'->R (.tuple #[.agg (actC k n).toArray,.bool true,.int .i64 0]) H') :
  Ru 12 [.pointer (some ⟨be,0,none⟩)] H R:=by
 refine v12 _ _ fun H1 p n1=>⟨false,(e.ext n1.mod).top.rd 4 rfl,by simp,fun _=>?_⟩
 have e1:=e.ext n1.mod
 obtain⟨g,hg,hc,hr⟩:=cnext e1 hm
 refine⟨_,e1.top.rd 2 rfl,g,_,_,hg,hc,hr _ fun H2 x2=>?_⟩
 obtain⟨x,y,c,hs,hcc,hso,hno⟩:=actR_shape (enext h d tags ended)
 refine⟨actC x y,rfl,c,hs,fun H3 q n3=>⟨rfl,act_one,n3.own.w 0 2 rfl,fun H4 h4=>?_⟩⟩
 have oq:Own H4 q (actC x y):=by rw[h4];exact n3.own.swrL rfl
 have x24:Ext H2 H4:=by rw[h4];exact n3.mod.trans_new (Mod.refl.wrL (S:=[q]) (.inl (by simp))) (by simpa using n3.ge)
 clear h4
 have x14:=x2.thenExt x24
 have op:=n1.own.mod x14 (by simp)
 have x04:=n1.mod.thenExt x14
 have hp:=n1.ge
 have hql:=oq.lt (by simp[actC])
 refine⟨fun hc'=>?_,fun hc'=>?_⟩
 ·have hnone:enext h d tags ended=none:=by rw[hcc] at hc';cases hh:enext h d tags ended<;>simp_all
  refine⟨rfl,act_one,op.w 0 2 rfl,fun H5 h5=>⟨actC 0 0,rfl,by rw[h5];exact rdL_wrL op.2,k1 hnone H5 ?_⟩⟩
  rw[h5];exact x04.trans_new (Mod.refl.wrL (S:=[p]) (.inl (by simp))) (by simpa using hp)
 ·have hsome:enext h d tags ended=some (x,y):=by
   rw[hcc] at hc'
   cases hh:enext h d tags ended with
   | none=>rw[hh] at hc';simp at hc'
   | some q=>rw[hso q hh]
  obtain⟨m,hms⟩:=hleg x y hsome
  have e4:=e.ext x04
  refine⟨_,e4.top.rd 0 rfl,actC x y,rfl,oq.1,c53 e4.drv (by omega) e.sem cnt hms fun H5 s' v5 sem5 m5=>⟨_,rfl,by simp,fun _=>?_⟩⟩
  have hlow:∀z∈[b.d,b.m,b.w],z<H.size:=by
   intro z hz
   simp only[List.mem_cons,List.not_mem_nil,or_false] at hz
   rcases hz with rfl|rfl|rfl
   ·exact e.drv.top.lt (by unfold drvC;simp[i64s,planL])
   ·exact e.drv.met.lt (by simp[meterC])
   ·exact e.drv.ar.row.lt (u64s_ne e.drv.words)
  have hqS:q∉[b.d,b.m,b.w]:=fun hz=>by have:=hlow q hz;have:=n3.ge;have:=x2.1;have:=n1.mod.1;omega
  have hpS:p∉[b.d,b.m,b.w]:=fun hz=>by have:=hlow p hz;omega
  have e5:EngS H5 be b h (dact h d x y m) m.tags ended false s' post:=⟨e4.top.mod m5 e.ne,v5,sem5,e.off⟩
  have op5:=op.mod m5 hpS
  refine⟨actC x y,rfl,(oq.mod m5 hqS).1,rfl,act_one,op5.w 0 2 rfl,fun H6 h6=>⟨actC x y,rfl,by rw[h6];exact rdL_wrL op5.2,?_⟩⟩
  have m6:Mod [p] H5 H6:=by rw[h6];exact Mod.refl.wrL (.inl (by simp))
  have hpb:be≠p:=by have:=e.top.lt (by simp[engC]);omega
  refine k2 x y m hsome hms H6 s' (e5.keep m6 (by simpa using hpb) (e.drv.fresh (by simpa using hp))) ?_
  exact ((Mod.ext x04).trans m5).trans_new m6 (by simp;omega)
end Go.VC
namespace Go.VC
open Go Go.Proofs
variable {H:Heap}{R:Value->Heap->Prop}
noncomputable def tags0 (h:Hdr):List Int:=List.replicate (slotsOf h).toNat (-1)
theorem heldN_tags0 (h:Hdr):heldN (tags0 h)=0:=by simp[heldN,tags0,List.countP_replicate]
theorem dsem0 {h:Hdr}(hp:PlanOk h)(hm:h.mode≠3):DSem h (d0 h (fixedOf h)) (tags0 h) (s0 h):=by
 obtain⟨a,b,c,d⟩:=slots_small hp
 have hl:=hp.1.len
 have ht:=parts_small hp.1 (tapeOf h) (List.getElem_mem _)
 unfold lenOk at hl
 refine⟨rfl,rfl,⟨hl.1,?_,by simp[dMS,d0],hl.1,by simp[dMS,d0],by simp only[dMS,d0];omega,?_,by simp[dMS,tags0];omega⟩,by simp[tags0],fun _=>rfl,fun h0=>by simp[d0] at h0,?_,Int.le_refl _,?_⟩
 ·show h.len<65536
  have:=hl.2
  split at this<;>omega
 ·intro t ht'
  simp only[dMS,tags0,List.mem_replicate] at ht'
  rw[ht'.2]
  exact⟨by omega,by simp only[dMS,d0];omega⟩
 ·show fixedOf h=fixedOf h+slotOf h*(heldN (tags0 h):Int)
  rw[heldN_tags0];simp
 ·show fixedOf h<=h.words
  omega
theorem c50 (h:Hdr)(p:HAt)(hm:1<=h.mode/\h.mode<=3)(bd:Nat)(k:∀H' be,Own H' be (engC h bd false false)->Ext H H'->H.size<=be->be<H'.size->R (.pointer (some ⟨be,0,none⟩)) H'):Ru 50 [.agg (hdrC h p).toArray,.pointer (some ⟨bd,0,none⟩)] H R:=by
 refine v50 (hdrC h p) _ _ fun H3 q3 n3=>⟨trivial,fun H4 q4 n4=>⟨rfl,?_,n4.own.w 0 4 rfl,fun H5 h5=>?_⟩⟩
 ·intro x hx;simp only[List.mem_cons,List.not_mem_nil,or_false] at hx;rcases hx with rfl|rfl|rfl|rfl<;>trivial
 have o5:Own H5 q4 [Value.nilFunc,.func (.func 113) #[] #[],.func (.func 114) #[] #[],.func (.func 115) #[] #[]]:=by rw[h5];exact n4.own.swrL rfl
 have e25:Ext H H5:=by rw[h5];exact (n3.mod.new n4).trans_new (Mod.refl.wrL (S:=[q4]) (.inl (by simp))) (by simp;have:=n3.mod.1;have:=n4.ge;omega)
 have r5:rd H5 q3 0=some (.int .i64 h.mode):=by
  have:q3∉[q4]:=by have:=n3.lt;have:=n4.ge;simp;omega
  rw[h5];exact (Mod.refl.wrL (S:=[q4]) (.inl (by simp))).rd this (n4.mod.rd (by simp) (n3.rd 0))
 clear h5
 have hcell:rd H5 q4 (0+h.mode.toNat*1)=some (nextF h.mode):=by
  have hc:h.mode=1\/h.mode=2\/h.mode=3:=by omega
  rcases hc with hc|hc|hc
  ·rw[hc];exact o5.rd 1 rfl
  ·rw[hc];exact o5.rd 2 rfl
  ·rw[hc];exact o5.rd 3 rfl
 refine⟨_,r5,_,r5,⟨by omega,by omega⟩,_,hcell,trivial,fun H6 be n6=>?_⟩
 exact k H6 be n6.own (e25.new n6) (Nat.le_trans e25.1 n6.ge) n6.lt
theorem c9g (h:Hdr)(p:HAt)(r:HRows H h p)
  (k1:PlanOk h->∀H' be b,Own H' be (engC h b.d false false)->Drv H' b h (d0 h (fixedOf h)) (s0 h) (k0 h) (post0 h)->DOff h b [be]->DIn h b H.size->H.size<=be->be<H'.size->Ext H H'->(∀S,(∀x∈S,H'.size<=x)->DOff h b S)->R (.tuple #[.pointer (some ⟨be,0,none⟩),.int .i64 0]) H')
  (k2:∀n H',n≠0->¬PlanOk h->Ext H H'->R (.tuple #[.pointer none,.int .i64 n]) H'):Ru 9 [.agg (hdrC h p).toArray] H R:=by
 refine v9 (hdrC h p) fun H1 q n1=>⟨_,rfl,n1.rdL,c49 h p (r.ext n1.mod) (fun hp H2 b v2 di e2=>⟨_,_,rfl,by simp,fun _=>⟨_,rfl,e2.rdL (by simp) n1.rdL,?_⟩⟩) (fun n H2 hn hno e2=>⟨_,_,rfl,fun _=>k2 n H2 hn hno (n1.mod.thenExt e2),fun h'=>(h' hn).elim⟩)⟩
 refine c50 h p hp.1.mode b.d fun H6 be o6 e6 hbe hlt=>?_
 have v6:=v2.ext e6
 have hz:=n1.mod.1;have hz2:=e2.1
 exact k1 hp H6 be b o6 v6 (v2.fresh (by simpa using hbe)) (di.down hz) (by omega) hlt ((n1.mod.thenExt e2).thenExt e6) (fun S hS=>v6.fresh hS)
theorem c9 (h:Hdr)(p:HAt)(r:HRows H h p)
  (k1:PlanOk h->∀H' be b,(h.mode≠3->EngS H' be b h (d0 h (fixedOf h)) (tags0 h) false false (s0 h) (post0 h))->DIn h b H.size->H.size<=be->be<H'.size->Ext H H'->(∀S,(∀x∈S,H'.size<=x)->DOff h b S)->R (.tuple #[.pointer (some ⟨be,0,none⟩),.int .i64 0]) H')
  (k2:∀n H',n≠0->¬PlanOk h->Ext H H'->R (.tuple #[.pointer none,.int .i64 n]) H'):Ru 9 [.agg (hdrC h p).toArray] H R:=by
 refine c9g h p r (fun hp H' be b o v f di h1 h2 e hS=>k1 hp H' be b (fun h3=>⟨o,?_,dsem0 hp h3,f⟩) di h1 h2 e hS) k2
 rw[k0_slots h hp h3] at v
 exact v
theorem c56 {b:DB}{h:Hdr}{d:DS}{P:List (List UInt64)}{K post:List UInt64}(v:DrvM H b h d P K post)(hm:h.mode=2)(hpend:d.pend<0)(hl:0<=d.l/\d.l<=65535)
  (k1:d.l=65535->R (.int .i64 14) H) (k2:d.l<65535->∀H',DrvM H' b h { d with l:=d.l+1 } P K post->Mod [b.d] H H'->R (.int .i64 0) H'):Ru 56 [.pointer (some ⟨b.d,0,none⟩)] H R:=by
 refine v56 _ _ ⟨_,by rw[Nat.zero_add];exact v.rd 4 rfl,fun h'=>(h' hm).elim,fun _=>⟨_,by rw[Nat.zero_add];exact v.rd 19 rfl,fun h'=>by omega,fun _=>⟨_,by rw[Nat.zero_add];exact v.rd 17 rfl,k1,fun hne=>⟨_,by rw[Nat.zero_add];exact v.rd 17 rfl,⟨by omega,by omega⟩,by rw[Nat.zero_add];exact v.top.w 17 1 rfl,fun H1 h1=>?_⟩⟩⟩⟩
 have o1:=v.top.wr 17 (.int .i64 (d.l+1))
 rw[Nat.zero_add] at h1
 rw[<-h1] at o1
 have m1:Mod [b.d] H H1:=by rw[h1];exact Mod.refl.wr (.inl (by simp))
 exact k2 (by omega) H1 (v.setD { d with l:=d.l+1 } o1 m1 rfl rfl) m1
theorem c14 {be:Nat}{b:DB}{h:Hdr}{d:DS}{tags:List Int}{s:PS}{post:List UInt64}(e:EngS H be b h d tags false false s post)(hm:h.mode=2)(hpend:d.pend = -1)(hw:enext h d tags false=none)(more:Bool)
  (k1:more=false->∀H',EngS H' be b h d tags true false s post->Mod [be] H H'->R (.int .i64 0) H')
  (k2:more=true->d.l<65535->∀H',EngS H' be b h { d with l:=d.l+1 } tags false false s post->Mod [be,b.d] H H'->R (.int .i64 0) H')
  (k3:more=true->d.l=65535->∀H',EngS H' be b h d tags false true s post->Mod [be] H H'->R (.int .i64 14) H'):Ru 14 [.pointer (some ⟨be,0,none⟩),.bool more] H R:=by
 have hmok:=e.sem.mok
 have hl0:=hmok.l0;have hl1:=hmok.l1
 simp only[dMS] at hl0 hl1
 refine v14 _ _ _ ⟨false,e.top.rd 4 rfl,by simp,fun _=>c11 e (.inr hm) fun H1 e1=>⟨_,rfl,fun h'=>by rw[hw] at h';simp[hm] at h',fun _=>⟨fun hmo=>⟨(e.ext e1).top.w 3 1 rfl,fun H2 h2=>?_⟩,fun hmo=>⟨_,(e.ext e1).top.rd 0 rfl,?_⟩⟩⟩⟩
 ·simp at hmo
  have x1:=e.ext e1
  have o2:=x1.top.wr 3 (.bool true)
  rw[Nat.zero_add] at h2
  rw[<-h2] at o2
  have m2:Mod [be] H1 H2:=by rw[h2];exact Mod.refl.wr (.inl (by simp))
  exact k1 hmo H2 ⟨o2,x1.drv.keep m2 e.off,e.sem,e.off⟩ ((Mod.ext e1).trans m2)
 ·simp at hmo
  have x1:=e.ext e1
  have hbed:be≠b.d:=fun h=>e.off.d (by simp[h])
  refine c56 x1.drv hm (by omega) ⟨hl0,by omega⟩ (fun hl=>⟨_,rfl,x1.top.w 4 1 rfl,fun H2 h2=>?_⟩) (fun hl H2 v2 m2=>⟨_,rfl,?_,fun H3 h3=>?_⟩)
  ·have o2:=x1.top.wr 4 (.bool (decide ((14:Int)=14)))
   rw[Nat.zero_add] at h2
   rw[<-h2] at o2
   have m2:Mod [be] H1 H2:=by rw[h2];exact Mod.refl.wr (.inl (by simp))
   exact k3 hmo hl H2 ⟨o2,x1.drv.keep m2 e.off,e.sem,e.off⟩ ((Mod.ext e1).trans m2)
  ·exact (x1.top.mod m2 (by simpa using hbed)).w 4 1 rfl
  ·have o3:=(x1.top.mod m2 (by simpa using hbed)).wr 4 (.bool (decide ((0:Int)=14)))
   rw[Nat.zero_add] at h3
   rw[<-h3] at o3
   have m3:Mod [be] H2 H3:=by rw[h3];exact Mod.refl.wr (.inl (by simp))
   refine k2 hmo hl H3 ⟨o3,v2.keep m3 e.off,?_,e.off⟩ ((Mod.ext e1).trans ((m2.mono (by simp)).trans (m3.mono (by simp))))
   obtain⟨sth,sst,mok,slen,sz,sgr,slive,spk,spk2⟩:=e.sem
   exact⟨sth,sst,⟨by simp only[dMS];omega,by simp only[dMS];omega,mok.at0,by have:=mok.at1;simp only[dMS] at this ⊢;omega,mok.p0,by have:=mok.p1;simp only[dMS] at this ⊢;omega,fun t ht=>by have:=mok.tg t ht;simp only[dMS] at this ⊢;omega,mok.few⟩,slen,sz,fun h0=>by dsimp only at h0;omega,slive,spk,spk2⟩
theorem c18c {be:Nat}{b:DB}{h:Hdr}{d:DS}{ended failed:Bool}{s:PS}{K post:List UInt64}(et:Own H be (engC h b.d ended failed))(ed:Drv H b h d s K post)(hp:d.pend=0)
  (k:∀H' a1 c1 a2 c2,Buf 1 H' H.size a1 (nX h) c1 (u64s s.ax)->Buf 1 H' H.size a2 (nT h) c2 (u64s s.ag)->Ext H H'->R (.tuple #[.agg [.int .u64 (d.loss.toNat:Int),.slice a1 (nX h) c1,.slice a2 (nT h) c2].toArray,.int .i64 0]) H'):Ru 18 [.pointer (some ⟨be,0,none⟩)] H R:=by
 have hlen:=ed.lens
 refine v18 _ _ fun H1 p n1=>c54 (et.mod n1.mod (by simp)) (v58 _ _ fun H2 p2 n2=>?_)
 have x2:=(ed.ext n1.mod).ext n2.mod
 refine⟨_,by rw[Nat.zero_add];exact x2.rd 19 rfl,fun h'=>(h' hp).elim,fun _=>⟨d.loss,by rw[Nat.zero_add];exact x2.rd 24 rfl,c121 x2 5 (by omega) fun a1 c1 H3 hB3 e3=>⟨_,_,_,rfl,by rw[Nat.zero_add];exact (x2.ext e3).rd 24 rfl,c121 (x2.ext e3) 6 (by omega) fun a2 c2 H4 hB4 e4=>⟨_,_,_,rfl,by rw[Nat.zero_add];exact ((x2.ext e3).ext e4).rd 24 rfl,rfl,?_,?_,fun H5 h5=>?_⟩⟩⟩⟩
 ·intro x hx;simp only[List.mem_cons,List.not_mem_nil,or_false] at hx;rcases hx with rfl|rfl|rfl<;>trivial
 ·exact ((n2.own.mod e3 (by simp)).mod e4 (by simp)).w 0 3 rfl
 have o4:=(n2.own.mod e3 (by simp)).mod e4 (by simp)
 have e24:=e3.thenExt e4
 refine⟨_,rfl,by rw[h5];exact rdL_wrL o4.2,_,rfl,_,rfl,rfl,?_,?_,fun H6 h6=>?_⟩
 ·intro x hx;simp only[List.mem_cons,List.not_mem_nil,or_false] at hx;rcases hx with rfl|rfl|rfl<;>trivial
 ·have m5:Mod [p2] H4 H5:=by rw[h5];exact Mod.refl.wrL (.inl (by simp))
  have:=((n1.own.mod n2.mod (by simp)).mod e24 (by simp)).mod m5 (by have:=n1.lt;have:=n2.ge;simp;omega)
  exact this.w 0 3 rfl
 have m5:Mod [p2] H4 H5:=by rw[h5];exact Mod.refl.wrL (.inl (by simp))
 have o1:=((n1.own.mod n2.mod (by simp)).mod e24 (by simp)).mod m5 (by have:=n1.lt;have:=n2.ge;simp;omega)
 have m6:Mod [p] H5 H6:=by rw[h6];exact Mod.refl.wrL (.inl (by simp))
 have h1:=n1.ge;have h2:=n1.lt;have h3:=n2.ge;have h4:=n2.lt;have z3:=e3.1;have z4:=e4.1;have z1:=n1.mod.1
 have m46:Mod [p2,p] H4 H6:=(m5.mono (by simp)).trans (m6.mono (by simp))
 have b3:Buf 1 H6 H2.size a1 s.ax.length c1 (u64s s.ax):=(hB3.ext e4).mod m46 (by simp;omega)
 have b4:Buf 1 H6 H3.size a2 s.ag.length c2 (u64s s.ag):=hB4.mod m46 (by simp;omega)
 have q1:Buf 1 H6 H.size a1 (nX h) c1 (u64s s.ax):=by rw[<-hlen.ax];exact b3.down (by omega)
 have q2:Buf 1 H6 H.size a2 (nT h) c2 (u64s s.ag):=by rw[<-hlen.ag];exact b4.down (by omega)
 have hk:=k H6 a1 c1 a2 c2 q1 q2 (((n1.mod.new n2).thenExt e24).trans_new m46 (by simp;omega))
 rw[<-hlen.ax,<-hlen.ag] at hk
 exact⟨_,rfl,by rw[h6];exact rdL_wrL o1.2,hk⟩
theorem c18b {be:Nat}{b:DB}{h:Hdr}{d:DS}{tags:List Int}{ended failed:Bool}{s:PS}{post:List UInt64}(e:EngS H be b h d tags ended failed s post)(hp:d.pend=0)
  (k:∀H' a1 c1 a2 c2,Buf 1 H' H.size a1 (nX h) c1 (u64s s.ax)->Buf 1 H' H.size a2 (nT h) c2 (u64s s.ag)->Ext H H'->R (.tuple #[.agg [.int .u64 (d.loss.toNat:Int),.slice a1 (nX h) c1,.slice a2 (nT h) c2].toArray,.int .i64 0]) H'):Ru 18 [.pointer (some ⟨be,0,none⟩)] H R:=c18c e.top e.drv hp k
theorem c18 {be:Nat}{b:DB}{h:Hdr}{d:DS}{tags:List Int}{ended failed:Bool}{s:PS}{post:List UInt64}(e:EngS H be b h d tags ended failed s post)(hp:d.pend=0)
  (k:∀H' a1 c1 a2 c2,RowU H' a1 (nX h) s.ax->RowU H' a2 (nT h) s.ag->Ext H H'->R (.tuple #[.agg [.int .u64 (d.loss.toNat:Int),.slice a1 (nX h) c1,.slice a2 (nT h) c2].toArray,.int .i64 0]) H'):Ru 18 [.pointer (some ⟨be,0,none⟩)] H R:=
 c18b e hp fun H' a1 c1 a2 c2 b1 b2 e'=>k H' a1 c1 a2 c2 b1.row b2.row e'
end Go.VC
namespace Go.VC
open Go Go.Proofs
def gt (tags:List Int)(i:Nat):Int:=tags.getD i (-1)
theorem gt_set (tags:List Int)(i j:Nat)(x:Int):gt (tags.set i x) j=if i=j/\i<tags.length then x else gt tags j:=by
 unfold gt
 simp only[List.getD_eq_getElem?_getD,List.getElem?_set]
 split
 ·rename_i e;subst e
  by_cases h:i<tags.length
  ·simp[h]
  ·simp[h]
 ·rename_i e;simp[e]
theorem gt_mem {tags:List Int}{i:Nat}(h:i<tags.length):gt tags i∈tags:=by
 unfold gt;rw[List.getD_eq_getElem?_getD,List.getElem?_eq_getElem h];exact List.getElem_mem h
def Dist (tags:List Int):Prop:=∀i j,i<tags.length->j<tags.length->gt tags i=gt tags j->0<=gt tags i->i=j
theorem dist_free {tags:List Int}(h:Dist tags)(k:Nat):Dist (tags.set k (-1)):=by
 intro i j hi hj e h0
 simp only[List.length_set] at hi hj
 rw[gt_set] at e h0
 rw[gt_set] at e
 split at h0
 ·omega
 ·rename_i h1
  rw[if_neg h1] at e
  split at e
  ·omega
  ·exact h i j hi hj e h0
theorem dist_store {tags:List Int}(h:Dist tags)(k:Nat){x:Int}(hx:∀j,j<tags.length->gt tags j≠x):Dist (tags.set k x):=by
 intro i j hi hj e h0
 simp only[List.length_set] at hi hj
 rw[gt_set] at e h0
 rw[gt_set] at e
 by_cases h1:k=i/\k<tags.length
 ·rw[if_pos h1] at e
  by_cases h2:k=j/\k<tags.length
  ·omega
  ·rw[if_neg h2] at e;exact absurd e.symm (hx j hj)
 ·rw[if_neg h1] at e h0
  by_cases h2:k=j/\k<tags.length
  ·rw[if_pos h2] at e;exact absurd e (hx i hi)
  ·rw[if_neg h2] at e;exact h i j hi hj e h0
def baseOf (tags:List Int):Int:=(lookF tags).base
theorem seen_of {tags:List Int}(ht:∀t∈tags,-1<=t):Seen tags tags.length (lookF tags):=lookF_seen ht
theorem base_eq {tags:List Int}(ht:∀t∈tags,-1<=t){x:Int}(h0:0<=x){j:Nat}(hj:j<tags.length)(hx:gt tags j=x)(hall:∀j,j<tags.length->gt tags j<=x):baseOf tags=x:=by
 have s:=seen_of ht
 have h1:gt tags j<=baseOf tags:=s.top j hj
 have h2:=s.at_ (show 0<=(lookF tags).base by unfold baseOf at h1;omega)
 have h3:=hall (lookF tags).slot.toNat (by have:=s.slot0;omega)
 unfold gt at h3;rw[h2.2] at h3
 unfold baseOf at h1 ⊢;omega
theorem base_none {tags:List Int}(ht:∀t∈tags,-1<=t)(hall:∀j,j<tags.length->gt tags j<0):baseOf tags = -1:=by
 have s:=seen_of ht
 have hb:=s.b0
 unfold baseOf
 apply Classical.byContradiction
 intro hn
 have h2:=s.at_ (by omega)
 have h3:=hall (lookF tags).slot.toNat (by have:=s.slot0;omega)
 unfold gt at h3;rw[h2.2] at h3;omega
structure OffInv (l at_ pend:Int)(tags:List Int):Prop where
 mok:MOk ⟨at_,pend,l,0,tags⟩
 dist:Dist tags
 n1:1<=tags.length
 start:baseOf tags = -1->(at_=0/\pend = -1)\/pend=0
 has0:0<=baseOf tags->0<endOf l pend->∃i,i<tags.length/\gt tags i=0
 top:baseOf tags<=endOf l pend
 pos:0<=baseOf tags->(baseOf tags<=at_/\at_<endOf l pend)\/(0<=pend/\at_=pend)
def offPhi (l at_ pend:Int)(tags:List Int):Int:=
 let e:=endOf l pend
 let b:=baseOf tags
 if b<0 then (if pend<0 then 3*l+5 else 0)
 else if e<=b then 3*e+3
 else if at_=e-1 then 0
 else if e<=at_ then 3*(e-b)+1
 else if b<at_ then 3*(e-at_)+1
 else 3*(e-b)
def offM (l at_ pend:Int)(tags:List Int):Int:=endOf l pend*(3*l+10)+offPhi l at_ pend tags
theorem offPhi_bound {l at_ pend:Int}{tags:List Int}(h:OffInv l at_ pend tags):0<=offPhi l at_ pend tags/\offPhi l at_ pend tags<=3*l+5:=by
 obtain⟨⟨l0,l1,at0,at1,p0,p1,tg,few⟩,dist,n1,start,has0,top,pos⟩:=h
 dsimp only at l0 l1 at0 at1 p0 p1 tg
 have he:0<=endOf l pend/\endOf l pend<=l:=by unfold endOf;split<;>omega
 unfold offPhi
 dsimp only
 generalize endOf l pend=e at *
 generalize baseOf tags=b at *
 split
 ·split<;>omega
 ·split
  ·omega
  ·split
   ·omega
   ·split
    ·omega
    ·split<;>omega
theorem offM_bound {l at_ pend:Int}{tags:List Int}(h:OffInv l at_ pend tags):0<=offM l at_ pend tags/\offM l at_ pend tags<=l*(3*l+10)+(3*l+5):=by
 have hp:=offPhi_bound h
 obtain⟨⟨l0,l1,at0,at1,p0,p1,tg,few⟩,_⟩:=h
 dsimp only at l0 l1 at0 at1 p0 p1
 have he:0<=endOf l pend/\endOf l pend<=l:=by unfold endOf;split<;>omega
 unfold offM
 have h1:=Int.mul_nonneg he.1 (show 0<=3*l+10 by omega)
 have h2:=Int.mul_le_mul_of_nonneg_right he.2 (show 0<=3*l+10 by omega)
 omega
theorem split_le {n c:Nat}(hn:2<=n)(hc:1<=c):1<=splitOf n c/\splitOf n c<=n-1:=by
 have hsp:=repsOf_spec (l:=n) hc
 have hr1:1<=repsOf n c:=by
  apply Nat.pos_of_ne_zero
  intro e
  have:=hsp.enough
  rw[e] at this;simp at this;omega
 have hlow:ch (c+(repsOf n c-1)) c<n:=by
  rcases hsp.least with e|e
  ·omega
  ·exact e
 have h1:ch (c+repsOf n c-2) c<=n-1:=by
  have:=ch_mono (show c+repsOf n c-2<=c+(repsOf n c-1) by omega) c
  omega
 have h2:1<=ch (c+repsOf n c-1) (c-1):=ch_pos (by omega)
 unfold splitOf
 omega
theorem mst1 {s:MS1}{n:Int}(h1:1<=n)(h2:n<65536)(h3:n<=s.l-s.at_):mstep s 1 n=some { s with at_:=s.at_+n,total:=s.total+n }:=by
 have hr:rightA 1 n:=⟨by omega,by omega,fun _=>⟨h1,h2⟩,by omega,by omega⟩
 unfold mstep mstepR
 rw[if_neg (by rintro (h|h);exact h hr;omega),if_pos rfl,if_neg (by omega)]
theorem mst2 {s:MS1}{n:Int}(h1:0<=n)(h2:n<s.tags.length)(h3:tagAt s n<0)(hf:s.tags.length<=1048576):mstep s 2 n=some { s with tags:=s.tags.set n.toNat s.at_ }:=by
 have hr:rightA 2 n:=⟨by omega,by omega,by omega,fun _ _=>⟨h1,by omega⟩,by omega⟩
 unfold mstep mstepR
 rw[if_neg (by rintro (h|h);exact h hr;omega),if_neg (by omega),if_pos rfl,if_neg (by omega)]
theorem mst3 {s:MS1}{n:Int}(h1:0<=n)(h2:n<s.tags.length)(h3:0<=tagAt s n)(hf:s.tags.length<=1048576):mstep s 3 n=some { s with at_:=tagAt s n }:=by
 have hr:rightA 3 n:=⟨by omega,by omega,by omega,fun _ _=>⟨h1,by omega⟩,by omega⟩
 unfold mstep mstepR
 rw[if_neg (by rintro (h|h);exact h hr;omega),if_neg (by omega),if_neg (by omega),if_pos rfl,if_neg (by omega)]
theorem mst4 {s:MS1}{n:Int}(h1:0<=n)(h2:n<s.tags.length)(h3:0<=tagAt s n)(hf:s.tags.length<=1048576):mstep s 4 n=some { s with tags:=s.tags.set n.toNat (-1) }:=by
 have hr:rightA 4 n:=⟨by omega,by omega,by omega,fun _ _=>⟨h1,by omega⟩,by omega⟩
 unfold mstep mstepR
 rw[if_neg (by rintro (h|h);exact h hr;omega),if_neg (by omega),if_neg (by omega),if_neg (by omega),if_pos rfl,if_neg (by omega)]
theorem mst5 {s:MS1}(h1:s.pend = -1)(h2:s.at_=s.l):mstep s 5 0=some { s with pend:=s.at_ }:=by
 have hr:rightA 5 0:=⟨by omega,by omega,by omega,by omega,by omega⟩
 unfold mstep mstepR
 rw[if_neg (by rintro (h|h);exact h hr;omega),if_neg (by omega),if_neg (by omega),if_neg (by omega),if_neg (by omega),if_pos rfl,if_pos ⟨h1,h2⟩]
theorem mst6 {s:MS1}(h1:s.pend = -1)(h2:s.at_=s.l-1):mstep s 6 0=some { s with pend:=s.at_ }:=by
 have hr:rightA 6 0:=⟨by omega,by omega,by omega,by omega,by omega⟩
 unfold mstep mstepR
 rw[if_neg (by rintro (h|h);exact h hr;omega),if_neg (by omega),if_neg (by omega),if_neg (by omega),if_neg (by omega),if_neg (by omega),if_pos rfl,if_pos ⟨h1,h2⟩]
theorem mst7 {s:MS1}(h1:0<s.pend)(h2:s.at_=s.pend-1):mstep s 7 0=some { s with pend:=s.at_ }:=by
 have hr:rightA 7 0:=⟨by omega,by omega,by omega,by omega,by omega⟩
 unfold mstep mstepR
 rw[if_neg (by rintro (h|h);exact h hr;omega),if_neg (by omega),if_neg (by omega),if_neg (by omega),if_neg (by omega),if_neg (by omega),if_neg (by omega),if_pos ⟨h1,h2⟩]
theorem revNext_eq (l at_ pend:Int)(tags:List Int):revNext l at_ pend tags =
  if 0<=pend/\endOf l pend<=baseOf tags then some (4,(lookF tags).slot) else if pend=0 then none else if pend<0/\at_=l then some (5,0)
  else if at_=endOf l pend-1 then (if 0<=pend then some (7,0) else some (6,0)) else if baseOf tags<0 then (if endOf l pend<=at_ then none else some (2,0))
  else if at_<baseOf tags\/endOf l pend<=at_ then some (3,(lookF tags).slot) else if baseOf tags<at_/\0<(lookF tags).free then some (2,(lookF tags).vac)
  else if baseOf tags<at_ then some (1,endOf l pend-1-at_) else some (1,(splitOf (endOf l pend-baseOf tags).toNat ((lookF tags).free+1).toNat:Nat)):=by
 simp only[revNext,ruleFrom,ruleIs,ruleDo,baseOf,Bool.and_eq_true,Bool.or_eq_true,decide_eq_true_eq]
 repeat' (refine ite_congr rfl (fun _=>?_) (fun _=>?_))
 all_goals rfl
theorem mok_total {a p l k k':Int}{t:List Int}(h:MOk ⟨a,p,l,k,t⟩):MOk ⟨a,p,l,k',t⟩:=by
 obtain⟨l0,l1,at0,at1,p0,p1,tg,few⟩:=h;exact⟨l0,l1,at0,at1,p0,p1,tg,few⟩
theorem off_step {l at_ pend:Int}{tags:List Int}(h:OffInv l at_ pend tags) :
  (revNext l at_ pend tags=none/\pend=0)\/∃k n m,revNext l at_ pend tags=some (k,n)/\mstep ⟨at_,pend,l,0,tags⟩ k n=some m/\OffInv l m.at_ m.pend m.tags/\offM l m.at_ m.pend m.tags<offM l at_ pend tags:=by
 have hh:=h
 obtain⟨mok,dist,n1,start,has0,top,pos⟩:=h
 have ⟨l0,l1,at0,at1,p0,p1,tg,few⟩:=mok
 dsimp only at l0 l1 at0 at1 p0 p1 tg few
 have tg1:∀t∈tags,-1<=t:=fun t ht=>(tg t ht).1
 have seen:=seen_of tg1
 have hb:baseOf tags=(lookF tags).base:=rfl
 have he:0<=endOf l pend/\endOf l pend<=l:=by unfold endOf;split<;>omega
 have hpe:0<=pend->endOf l pend=pend:=by intro hp;unfold endOf;rw[if_neg (by omega)]
 have hne:pend<0->endOf l pend=l:=by intro hp;unfold endOf;rw[if_pos hp]
 have b0:=seen.b0
 have hs0:=seen.slot0
 have hphi:=offPhi_bound hh
 have hM:offM l at_ pend tags=endOf l pend*(3*l+10)+offPhi l at_ pend tags:=rfl
 rw[revNext_eq]
 have ta:∀n:Int,tagAt ⟨at_,pend,l,0,tags⟩ n=gt tags n.toNat:=fun n=>rfl
 have hslot:0<=baseOf tags->(lookF tags).slot<tags.length/\gt tags (lookF tags).slot.toNat=baseOf tags:=fun h0=>seen.at_ h0
 have htop:∀j,j<tags.length->gt tags j<=baseOf tags:=seen.top
 have tgm:∀j,j<tags.length->-1<=gt tags j:=fun j hj=>tg1 _ (gt_mem hj)
 have keep:∀{a':Int} {t':List Int},offPhi l a' pend t'<offPhi l at_ pend tags->offM l a' pend t'<offM l at_ pend tags:=by
  intro a' t' hlt;unfold offM;omega
 by_cases c1:0<=pend/\endOf l pend<=baseOf tags
 ·rw[if_pos c1]
  have hp:=hpe c1.1
  have hbe:baseOf tags=pend:=by omega
  obtain⟨hsl,hsg⟩:=hslot (by omega)
  have hat:at_=pend:=by
   rcases pos (by omega) with h1|h1
   ·omega
   ·exact h1.2
  have hst:=mst4 (s:=⟨at_,pend,l,0,tags⟩) hs0 hsl (by rw[ta,hsg];omega) few
  refine .inr ⟨_,_,_,rfl,hst,?_,?_⟩
  all_goals
   have mok2:=mstep_ok mok hst
   have hless:∀j,j<tags.length->gt (tags.set (lookF tags).slot.toNat (-1)) j<pend\/pend=0/\gt (tags.set (lookF tags).slot.toNat (-1)) j = -1:=by
    intro j hj
    rw[gt_set]
    split
    ·omega
    ·rename_i hne'
     have h1:=htop j hj
     have h2:gt tags j≠baseOf tags:=by
      intro e
      have:=dist j (lookF tags).slot.toNat hj (by omega) (by omega) (by omega)
      exact hne' ⟨by omega,by omega⟩
     left;omega
   have tg2:∀t∈tags.set (lookF tags).slot.toNat (-1),-1<=t:=fun t ht=>(mok2.tg t ht).1
   have seen2:=seen_of tg2
   have hb2 : -1<=baseOf (tags.set (lookF tags).slot.toNat (-1)):=seen2.b0
   have hb2lt:0<pend->baseOf (tags.set (lookF tags).slot.toNat (-1))<pend:=by
    intro hp0
    by_cases hneg:0<=baseOf (tags.set (lookF tags).slot.toNat (-1))
    ·have h1:=seen2.at_ hneg
     have h2:=hless (lookF (tags.set (lookF tags).slot.toNat (-1))).slot.toNat (by have:=h1.1;simp at this;have:=seen2.slot0;omega)
     have h3:gt (tags.set (lookF tags).slot.toNat (-1)) (lookF (tags.set (lookF tags).slot.toNat (-1))).slot.toNat=baseOf (tags.set (lookF tags).slot.toNat (-1)):=h1.2
     omega
    ·omega
   have hb2z:pend=0->baseOf (tags.set (lookF tags).slot.toNat (-1)) = -1:=by
    intro hp0
    refine base_none tg2 fun j hj=>?_
    simp at hj
    rcases hless j hj with h1|h1<;>omega
   have h0has:0<pend->∃i,i<(tags.set (lookF tags).slot.toNat (-1)).length/\gt (tags.set (lookF tags).slot.toNat (-1)) i=0:=by
    intro hp0
    obtain⟨i,hi,hi0⟩:=has0 (by omega) (by omega)
    refine⟨i,by simpa using hi,?_⟩
    rw[gt_set,if_neg (by rintro⟨e,_⟩;rw[e] at hsg;omega)];exact hi0
  ·refine⟨mok2,dist_free dist _,by simpa using n1,fun hb'=>?_,fun hb' he'=>?_,?_,fun hb'=>.inr ⟨c1.1,hat⟩⟩
   ·rcases Int.lt_or_le 0 pend with h1|h1
    ·obtain⟨i,hi,hi0⟩:=h0has h1
     have:=seen2.top i hi
     have h2:gt (tags.set (lookF tags).slot.toNat (-1)) i<=baseOf (tags.set (lookF tags).slot.toNat (-1)):=this
     dsimp only at hb'
     omega
    ·exact .inr (by dsimp only;omega)
   ·exact h0has (by dsimp only at he';omega)
   ·dsimp only
    rcases Int.lt_or_le 0 pend with h1|h1
    ·have:=hb2lt h1;omega
    ·have:=hb2z (by omega);omega
  ·apply keep
   unfold offPhi
   dsimp only
   rw[if_neg (show ¬baseOf tags<0 by omega),if_pos c1.2]
   by_cases hp0:0<pend
   ·have h1:=hb2lt hp0
    split
    ·split<;>omega
    ·rw[if_neg (by omega),if_neg (by omega),if_pos (by omega)];omega
   ·rw[if_pos (by have:=hb2z (by omega);omega),if_neg (by omega)];omega
 rw[if_neg c1]
 by_cases c2:pend=0
 ·rw[if_pos c2];exact .inl ⟨rfl,c2⟩
 rw[if_neg c2]
 by_cases c3:pend<0/\at_=l
 ·rw[if_pos c3]
  have hbn:baseOf tags = -1:=by
   apply Classical.byContradiction
   intro hn
   rcases pos (by omega) with h1|h1
   ·have:=hne c3.1;omega
   ·omega
  have hl:l=0:=by rcases start hbn with h1|h1<;>omega
  have hst:=mst5 (s:=⟨at_,pend,l,0,tags⟩) (by dsimp only;omega) c3.2
  refine .inr ⟨_,_,_,rfl,hst,⟨mstep_ok mok hst,dist,n1,fun _=>.inr (by dsimp only;omega),fun h0=>by dsimp only at h0;omega,by dsimp only;unfold endOf;rw[if_neg (by omega)];omega,fun h0=>by dsimp only at h0;omega⟩,?_⟩
  have e1:endOf l at_=0:=by unfold endOf;rw[if_neg (by omega)];omega
  have e2:endOf l pend=0:=by rw[hne c3.1];exact hl
  dsimp only
  unfold offM offPhi
  dsimp only
  rw[e1,e2,hbn]
  simp only[show ((-1:Int)<0)=True from by simp,if_true]
  rw[if_neg (by omega),if_pos c3.1];omega
 rw[if_neg c3]
 by_cases c4:at_=endOf l pend-1
 ·rw[if_pos c4]
  have mul:endOf l at_*(3*l+10)=endOf l pend*(3*l+10)-(3*l+10):=by
   have:endOf l at_=endOf l pend-1:=by unfold endOf;rw[if_neg (by omega)];unfold endOf at c4;exact c4
   rw[this,Int.sub_mul,Int.one_mul]
  have inv2:∀{m:MS1},m.at_=at_->m.pend=at_->m.tags=tags->m.l=l->MOk m->OffInv l m.at_ m.pend m.tags/\offM l m.at_ m.pend m.tags<offM l at_ pend tags:=by
   intro m q1 q2 q3 q4 q5
   have e1:endOf l at_=at_:=by unfold endOf;rw[if_neg (by omega)]
   have inv:OffInv l at_ at_ tags:=by
    refine⟨⟨l0,l1,at0,at1,by dsimp only;omega,at1,tg,few⟩,dist,n1,fun hb'=>?_,fun hb' he'=>has0 hb' (by omega),?_,fun hb'=>.inr ⟨at0,rfl⟩⟩
    ·rcases start hb' with h1|h1
     ·exact .inr h1.1
     ·omega
    ·rw[e1]
     by_cases hn:0<=baseOf tags
     ·rcases pos hn with h1|h1
      ·omega
      ·omega
     ·omega
   rw[q1,q2,q3]
   refine⟨inv,?_⟩
   have:=(offPhi_bound inv).2
   unfold offM
   rw[mul];omega
  by_cases hp:0<=pend
  ·rw[if_pos hp]
   have hst:=mst7 (s:=⟨at_,pend,l,0,tags⟩) (by dsimp only;omega) (by have:=hpe hp;dsimp only;omega)
   obtain⟨i1,i2⟩:=inv2 (m:={ at_:=at_,pend:=at_,l:=l,total:=0,tags:=tags }) rfl rfl rfl rfl (mstep_ok mok hst)
   exact .inr ⟨_,_,_,rfl,hst,i1,i2⟩
  ·rw[if_neg hp]
   have hst:=mst6 (s:=⟨at_,pend,l,0,tags⟩) (by dsimp only;omega) (by have:=hne (by omega);dsimp only;omega)
   obtain⟨i1,i2⟩:=inv2 (m:={ at_:=at_,pend:=at_,l:=l,total:=0,tags:=tags }) rfl rfl rfl rfl (mstep_ok mok hst)
   exact .inr ⟨_,_,_,rfl,hst,i1,i2⟩
 rw[if_neg c4]
 by_cases c5:baseOf tags<0
 ·rw[if_pos c5]
  have hbn:baseOf tags = -1:=by omega
  obtain⟨ha0,hp1⟩:at_=0/\pend = -1:=by rcases start hbn with h1|h1;exact h1;omega
  have hel:endOf l pend=l:=hne (by omega)
  rw[if_neg (by omega)]
  have hneg:∀j,j<tags.length->gt tags j<0:=fun j hj=>by have:=htop j hj;omega
  have hst:=mst2 (s:=⟨at_,pend,l,0,tags⟩) (n:=0) (by omega) (by dsimp only;omega) (by rw[ta];exact hneg 0 (by omega)) few
  have mok2:=mstep_ok mok hst
  have hb2:baseOf (tags.set 0 at_)=0:=by
   have tg2:∀t∈tags.set 0 at_,-1<=t:=fun t ht=>(mok2.tg t ht).1
   refine base_eq (tags:=tags.set 0 at_) (j:=0) tg2 (by omega) (by rw[List.length_set];omega) (by rw[gt_set,if_pos ⟨rfl,by omega⟩];exact ha0) fun j hj=>?_
   rw[List.length_set] at hj
   rw[gt_set];split
   ·omega
   ·have:=hneg j hj;omega
  refine .inr ⟨_,_,_,rfl,hst,⟨mok2,dist_store dist 0 fun j hj e=>by have h1:=hneg j hj;have h2:gt tags j=at_:=e;omega,by simpa using n1,fun hb'=>?_,fun _ _=>⟨0,by show 0<(tags.set 0 at_).length;rw[List.length_set];omega,?_⟩,?_,fun _=>.inl ?_⟩,?_⟩
  ·have:baseOf (tags.set 0 at_) = -1:=hb';omega
  ·show gt (tags.set 0 at_) 0=0
   rw[gt_set,if_pos ⟨rfl,by omega⟩];exact ha0
  ·show baseOf (tags.set 0 at_)<=endOf l pend;rw[hb2];omega
  ·show baseOf (tags.set 0 at_)<=at_/\at_<endOf l pend;rw[hb2];omega
  ·show offM l at_ pend (tags.set 0 at_)<_
   apply keep
   unfold offPhi
   dsimp only
   rw[hb2]
   (repeat' split)<;>omega
 rw[if_neg c5]
 obtain⟨hsl,hsg⟩:=hslot (by omega)
 by_cases c6:at_<baseOf tags\/endOf l pend<=at_
 ·rw[if_pos c6]
  have hat:0<=pend/\at_=pend:=by
   rcases pos (by omega) with h1|h1
   ·omega
   ·exact h1
  have hep:=hpe hat.1
  have hst:=mst3 (s:=⟨at_,pend,l,0,tags⟩) hs0 hsl (by rw[ta,hsg];omega) few
  rw[ta,hsg] at hst
  refine .inr ⟨_,_,_,rfl,hst,⟨mstep_ok mok hst,dist,n1,fun hb'=>by dsimp only at hb';omega,has0,top,fun _=>.inl ⟨by dsimp only;omega,by dsimp only;omega⟩⟩,?_⟩
  apply keep
  unfold offPhi
  dsimp only
  (repeat' split)<;>omega
 rw[if_neg c6]
 by_cases c7:baseOf tags<at_/\0<(lookF tags).free
 ·rw[if_pos c7]
  have hv:0<=(lookF tags).vac:=by
   apply Classical.byContradiction
   intro hn
   have:=seen.vf (by omega);omega
  have hvv:=seen.vac hv
  have hst:=mst2 (s:=⟨at_,pend,l,0,tags⟩) hv hvv.1 (by rw[ta];exact hvv.2) few
  have mok2:=mstep_ok mok hst
  have hvl:=hvv.1
  have hb2:baseOf (tags.set (lookF tags).vac.toNat at_)=at_:=by
   have tg2:∀t∈tags.set (lookF tags).vac.toNat at_,-1<=t:=fun t ht=>(mok2.tg t ht).1
   refine base_eq (tags:=tags.set (lookF tags).vac.toNat at_) (j:=(lookF tags).vac.toNat) tg2 at0 (by rw[List.length_set];omega) (by rw[gt_set,if_pos ⟨rfl,by omega⟩]) fun j hj=>?_
   rw[List.length_set] at hj
   rw[gt_set];split
   ·omega
   ·have:=htop j hj;omega
  refine .inr ⟨_,_,_,rfl,hst,⟨mok2,dist_store dist _ fun j hj e=>by have h1:=htop j hj;have h2:gt tags j=at_:=e;omega,by simpa using n1,fun hb'=>?_,fun _ he'=>?_,?_,fun _=>.inl ?_⟩,?_⟩
  ·have:baseOf (tags.set (lookF tags).vac.toNat at_) = -1:=hb';omega
  ·obtain⟨i,hi,hi0⟩:=has0 (by omega) he'
   refine⟨i,by simpa using hi,?_⟩
   show gt (tags.set (lookF tags).vac.toNat at_) i=0
   rw[gt_set,if_neg ?_]
   ·exact hi0
   ·rintro⟨e,_⟩
    have:=hvv.2
    have h3:gt tags (lookF tags).vac.toNat<0:=this
    rw[e] at h3;omega
  ·show baseOf (tags.set (lookF tags).vac.toNat at_)<=endOf l pend;rw[hb2];omega
  ·show baseOf (tags.set (lookF tags).vac.toNat at_)<=at_/\at_<endOf l pend;rw[hb2];omega
  ·show offM l at_ pend (tags.set (lookF tags).vac.toNat at_)<_
   apply keep
   unfold offPhi
   dsimp only
   rw[hb2]
   (repeat' split)<;>omega
 rw[if_neg c7]
 by_cases c8:baseOf tags<at_
 ·rw[if_pos c8]
  have hst:=mst1 (s:=⟨at_,pend,l,0,tags⟩) (n:=endOf l pend-1-at_) (by omega) (by omega) (by dsimp only;omega)
  refine .inr ⟨_,_,_,rfl,hst,⟨mok_total (mstep_ok mok hst),dist,n1,fun hb'=>by dsimp only at hb';omega,has0,top,fun _=>.inl ⟨by dsimp only;omega,by dsimp only;omega⟩⟩,?_⟩
  apply keep
  unfold offPhi
  dsimp only
  (repeat' split)<;>omega
 rw[if_neg c8]
 have hsp:=split_le (n:=(endOf l pend-baseOf tags).toNat) (c:=((lookF tags).free+1).toNat) (by omega) (by have:=seen.f0;omega)
 generalize splitOf (endOf l pend-baseOf tags).toNat ((lookF tags).free+1).toNat=q at hsp ⊢
 have hst:=mst1 (s:=⟨at_,pend,l,0,tags⟩) (n:=(q:Int)) (by omega) (by omega) (by dsimp only;omega)
 refine .inr ⟨_,_,_,rfl,hst,⟨mok_total (mstep_ok mok hst),dist,n1,fun hb'=>by dsimp only at hb';omega,has0,top,fun _=>.inl ⟨by dsimp only;omega,by dsimp only;omega⟩⟩,?_⟩
 apply keep
 unfold offPhi
 dsimp only
 (repeat' split)<;>omega
end Go.VC
namespace Go.VC
open Go Go.Proofs
theorem nodup_le:∀{a b:List Nat},a.Nodup->(∀x∈a,x∈b)->a.length<=b.length
 | [],b,_,_=>by simp
 | x ::a,b,hn,hs=>by
  rw[List.nodup_cons] at hn
  have h1:x∈b:=hs x (by simp)
  have ih:=nodup_le (a:=a) (b:=b.erase x) hn.2 fun y hy=>(List.mem_erase_of_ne (fun e=>hn.1 (by rw[<-e];exact hy))).2 (hs y (by simp[hy]))
  rw[List.length_erase_of_mem h1] at ih
  have:=List.length_pos_of_mem h1
  simp only[List.length_cons];omega
@[simp] theorem gt_succ (a:Int)(l:List Int)(i:Nat):gt (a ::l) (i+1)=gt l i:=by simp[gt]
@[simp] theorem gt_zero (a:Int)(l:List Int):gt (a ::l) 0=a:=by simp[gt]
theorem gt_of_mem {tags:List Int}{t:Int}(h:t∈tags):∃j,j<tags.length/\gt tags j=t:=by
 obtain⟨j,hj,e⟩:=List.getElem_of_mem h
 exact⟨j,hj,by unfold gt;rw[List.getD_eq_getElem?_getD,List.getElem?_eq_getElem hj];exact e⟩
def heldL (tags:List Int):List Nat:=(tags.filter fun t=>decide (0<=t)).map Int.toNat
theorem heldL_length (tags:List Int):(heldL tags).length=heldN tags:=by simp[heldL,heldN,List.countP_eq_length_filter]
theorem mem_heldL {tags:List Int}{x:Nat}:x∈heldL tags<->∃j,j<tags.length/\gt tags j=(x:Int):=by
 unfold heldL
 simp only[List.mem_map,List.mem_filter,decide_eq_true_eq]
 constructor
 ·rintro⟨t,⟨ht,h0⟩,e⟩
  obtain⟨j,hj,he⟩:=gt_of_mem ht
  exact⟨j,hj,by omega⟩
 ·rintro⟨j,hj,e⟩
  exact⟨gt tags j,⟨gt_mem hj,by omega⟩,by omega⟩
theorem dist_nodup:∀{tags:List Int},Dist tags->(heldL tags).Nodup
 | [],_=>by simp[heldL]
 | a ::l,h=>by
  have h':Dist l:=fun i j hi hj e h0=>by
   have:=h (i+1) (j+1) (by simpa using hi) (by simpa using hj) (by simpa using e) (by simpa using h0);omega
  have ih:=dist_nodup h'
  unfold heldL at ih ⊢
  by_cases ha:0<=a
  ·rw[List.filter_cons_of_pos (by simpa using ha)]
   simp only[List.map_cons,List.nodup_cons]
   refine⟨fun hm=>?_,ih⟩
   obtain⟨j,hj,e⟩:=mem_heldL.1 hm
   have:=h 0 (j+1) (by simp) (by simpa using hj) (by simp;omega) (by simpa using ha)
   omega
  ·rw[List.filter_cons_of_neg (by simpa using ha)];exact ih
def bad (D:Nat)(t:Int):Bool:=decide (0<=t) && decide (¬t % (D:Int)=0)
def DD (l:Int)(tags:List Int):Nat:=strideD l.toNat tags.length
structure AInv (l at_:Int)(tags:List Int):Prop where
 mok:MOk ⟨at_,-1,l,0,tags⟩
 dist:Dist tags
 n1:1<=tags.length
 has:∀m:Nat,((m*DD l tags:Nat):Int)<l->∃i,i<tags.length/\gt tags i=((m*DD l tags:Nat):Int)
structure AFull (l at_:Int)(tags:List Int):Prop where
 inv:AInv l at_ tags
 here:at_=l
 next:∀ended,strideNext l ended at_ (-1) tags=if ended then some (5,0) else none
 mul:∀j,j<tags.length->0<=gt tags j->gt tags j % (DD l tags:Int)=0
 full:∀m:Nat,((m*DD l tags:Nat):Int)<=l->∃i,i<tags.length/\gt tags i=((m*DD l tags:Nat):Int)
def aM (l at_:Int)(tags:List Int):Int:=(if at_<l then 1 else 0)+2*(tags.countP (bad (DD l tags)):Int)+(if l∈tags then 0 else 1)
theorem aM_bound {l at_:Int}{tags:List Int}(h:AInv l at_ tags):0<=aM l at_ tags/\aM l at_ tags<=2097154:=by
 have h1:=h.mok.few
 have h2:tags.countP (bad (DD l tags))<=tags.length:=List.countP_le_length
 dsimp only at h1
 unfold aM
 constructor<;>split<;>split<;>omega
theorem countP_set' {p:Int->Bool}{tags:List Int}{i:Nat}(hi:i<tags.length)(t:Int):((tags.set i t).countP p:Int)=(tags.countP p:Int)-(if p (gt tags i) then 1 else 0)+(if p t then 1 else 0):=by
 have e:tags[i]=gt tags i:=by unfold gt;rw[List.getD_eq_getElem?_getD,List.getElem?_eq_getElem hi];rfl
 rw[List.countP_set hi,e]
 have hpos:p (gt tags i)=true->0<tags.countP p:=fun h=>List.countP_pos_iff.2 ⟨_,gt_mem hi,h⟩
 by_cases hc:p (gt tags i)=true
 ·have:=hpos hc
  by_cases ht:p t=true<;>simp[hc,ht]<;>omega
 ·by_cases ht:p t=true<;>simp[hc,ht]
theorem DD_set (l:Int)(tags:List Int)(i:Nat)(t:Int):DD l (tags.set i t)=DD l tags:=by unfold DD;rw[List.length_set]
theorem best_lt {tags:List Int}{is:Int->Bool}{ah:Int->Int->Bool}(h0:0<=bestF tags is ah):(bestF tags is ah).toNat<tags.length:=by
 have:bestF tags is ah<tags.length:=(bestN_range tags is ah tags.length).2
 omega
theorem best_is {tags:List Int}{is:Int->Bool}{ah:Int->Int->Bool}(h0:0<=bestF tags is ah):is (gt tags (bestF tags is ah).toNat)=true:=bestN_is tags is ah tags.length h0
theorem best_none {tags:List Int}{is:Int->Bool}{ah:Int->Int->Bool}(h0:bestF tags is ah<0){j:Nat}(hj:j<tags.length):is (gt tags j)=false:=bestN_none tags is ah tags.length h0 j hj
theorem ahead_eq {l at_:Int}{tags:List Int}(ended:Bool):strideNext l ended at_ (-1) tags =
  if at_<l then some (1,l-at_)
  else if 0<=bestF tags (bad (DD l tags)) (fun a b=>decide (a<b)) then some (4,bestF tags (bad (DD l tags)) (fun a b=>decide (a<b)))
  else if l % (DD l tags:Int)=0/\bestF tags (fun t=>decide (t=l)) (fun a b=>decide (a<b))<0/\0<=bestF tags (fun t=>decide (t<0)) (fun a b=>decide (a<b)) then some (2,bestF tags (fun t=>decide (t<0)) (fun a b=>decide (a<b)))
  else if ended then some (5,0) else none:=by
 unfold strideNext
 rw[if_pos (by omega)]
 rfl
theorem a_step {l at_:Int}{tags:List Int}(h:AInv l at_ tags) :
  AFull l at_ tags\/∃k n m,(∀ended,strideNext l ended at_ (-1) tags=some (k,n))/\mstep ⟨at_,-1,l,0,tags⟩ k n=some m/\m.pend = -1/\AInv l m.at_ m.tags/\aM l m.at_ m.tags<aM l at_ tags:=by
 have hh:=h
 obtain⟨mok,dist,n1,has⟩:=h
 have ⟨l0,l1,at0,at1,p0,p1,tg,few⟩:=mok
 dsimp only at l0 l1 at0 at1 p0 p1 tg few
 have hD:0<DD l tags:=strideD_pos n1 (by omega)
 have hDl:l<tags.length*(DD l tags:Int):=by
  obtain⟨j,_,e,hlt,_⟩:=strideD_spec (k:=l.toNat) n1 (by omega)
  have e':DD l tags=2 ^ j:=e
  rw[<-e'] at hlt
  have:((l.toNat:Nat):Int)<((tags.length*DD l tags:Nat):Int):=by exact_mod_cast hlt
  push_cast at this
  omega
 have tgm:∀j,j<tags.length->-1<=gt tags j/\gt tags j<=l:=fun j hj=>tg _ (gt_mem hj)
 by_cases c1:at_<l
 ·right
  have hst:=mst1 (s:=⟨at_,-1,l,0,tags⟩) (n:=l-at_) (by omega) (by omega) (by dsimp only;omega)
  refine⟨_,_,_,fun ended=>by rw[ahead_eq,if_pos c1],hst,rfl,⟨mok_total (mstep_ok mok hst),dist,n1,has⟩,?_⟩
  dsimp only
  unfold aM
  rw[if_pos c1,if_neg (show ¬at_+(l-at_)<l by omega)]
  omega
 have hat:at_=l:=by omega
 by_cases c2:0<=bestF tags (bad (DD l tags)) (fun a b=>decide (a<b))
 ·right
  have hlt:=best_lt c2
  have hbad:=best_is c2
  generalize hoff:bestF tags (bad (DD l tags)) (fun a b=>decide (a<b))=off at *
  have hb:=hbad
  unfold bad at hbad
  simp only[Bool.and_eq_true,decide_eq_true_eq] at hbad
  have hst:=mst4 (s:=⟨at_,-1,l,0,tags⟩) (n:=off) c2 (by dsimp only;omega) hbad.1 few
  refine⟨_,_,_,fun ended=>by rw[ahead_eq,if_neg c1,hoff,if_pos c2],hst,rfl,⟨mstep_ok mok hst,dist_free dist _,by simpa using n1,?_⟩,?_⟩
  ·intro m hm
   dsimp only at hm ⊢
   rw[DD_set] at hm ⊢
   obtain⟨i,hi,e⟩:=has m hm
   refine⟨i,by simpa using hi,?_⟩
   rw[gt_set,if_neg ?_,e]
   rintro⟨ei,_⟩
   rw[ei,e] at hbad
   apply hbad.2
   push_cast
   exact Int.mul_emod_left _ _
  ·dsimp only
   unfold aM
   rw[DD_set,countP_set' hlt,hb]
   rw[if_pos rfl,if_neg (show ¬bad (DD l tags) (-1)=true by simp[bad])]
   split<;>split<;>split<;>omega
 have c2':bestF tags (bad (DD l tags)) (fun a b=>decide (a<b))<0:=by omega
 have hmul:∀j,j<tags.length->0<=gt tags j->gt tags j % (DD l tags:Int)=0:=by
  intro j hj h0
  have:=best_none c2' hj
  unfold bad at this
  simp only[Bool.and_eq_false_iff,decide_eq_false_iff_not] at this
  rcases this with h1|h1
  ·omega
  ·exact Classical.byContradiction h1
 by_cases c3:l % (DD l tags:Int)=0/\bestF tags (fun t=>decide (t=l)) (fun a b=>decide (a<b))<0/\0<=bestF tags (fun t=>decide (t<0)) (fun a b=>decide (a<b))
 ·right
  obtain⟨q1,q2,q3⟩:=c3
  have hlt:=best_lt q3
  have hvac:=best_is q3
  generalize hv:bestF tags (fun t=>decide (t<0)) (fun a b=>decide (a<b))=vac at *
  simp only[decide_eq_true_eq] at hvac
  have hno:∀j,j<tags.length->gt tags j≠l:=fun j hj=>by simpa using best_none q2 hj
  have hst:=mst2 (s:=⟨at_,-1,l,0,tags⟩) (n:=vac) q3 (by dsimp only;omega) hvac few
  refine⟨_,_,_,fun ended=>by rw[ahead_eq,if_neg c1,if_neg (by omega),hv,if_pos ⟨q1,q2,q3⟩],hst,rfl,⟨mstep_ok mok hst,dist_store dist _ (by dsimp only;rw[hat];exact hno),by simpa using n1,?_⟩,?_⟩
  ·intro m hm
   dsimp only at hm ⊢
   rw[DD_set] at hm ⊢
   obtain⟨i,hi,e⟩:=has m hm
   refine⟨i,by simpa using hi,?_⟩
   rw[gt_set,if_neg ?_,e]
   rintro⟨ei,_⟩
   rw[ei,e] at hvac
   omega
  ·dsimp only
   unfold aM
   rw[DD_set,countP_set' hlt,hat]
   have hl1:l∉tags:=fun hm=>by
    obtain⟨j,hj,e⟩:=gt_of_mem hm
    exact hno j hj e
   have hl2:l∈tags.set vac.toNat l:=List.mem_set hlt _
   rw[if_neg hl1,if_pos hl2,if_neg (show ¬bad (DD l tags) (gt tags vac.toNat)=true by simp[bad];omega),if_neg (show ¬bad (DD l tags) l=true by simp[bad,q1])]
   omega
 left
 refine⟨hh,hat,fun ended=>by rw[ahead_eq,if_neg c1,if_neg c2,if_neg c3],hmul,fun m hm=>?_⟩
 by_cases hlt:((m*DD l tags:Nat):Int)<l
 ·exact has m hlt
 have he:((m*DD l tags:Nat):Int)=l:=by omega
 have hz:l % (DD l tags:Int)=0:=by
  have e2:((m*DD l tags:Nat):Int) % (DD l tags:Int)=0:=by push_cast;exact Int.mul_emod_left _ _
  rwa [he] at e2
 rw[he]
 by_cases hheld:bestF tags (fun t=>decide (t=l)) (fun a b=>decide (a<b))<0
 ·exfalso
  have hvac:bestF tags (fun t=>decide (t<0)) (fun a b=>decide (a<b))<0:=by
   apply Classical.byContradiction
   intro hn
   exact c3 ⟨hz,hheld,by omega⟩
  have hall:∀j,j<tags.length->0<=gt tags j:=fun j hj=>by simpa using best_none hvac hj
  have hno:∀j,j<tags.length->gt tags j≠l:=fun j hj=>by simpa using best_none hheld hj
  have hlen:heldN tags=tags.length:=by
   unfold heldN
   rw[List.countP_eq_length]
   intro t ht
   obtain⟨j,hj,e⟩:=gt_of_mem ht
   have:=hall j hj
   simp;omega
  have hle:=nodup_le (b:=(List.range m).map (·*DD l tags)) (dist_nodup dist) fun x hx=>by
   obtain⟨j,hj,e⟩:=mem_heldL.1 hx
   have h1:=hmul j hj (hall j hj)
   have h2:=(tgm j hj).2
   have h3:=hno j hj
   rw[e] at h1 h2 h3
   have h4:x % DD l tags=0:=by exact_mod_cast h1
   have h5:x=x / DD l tags*DD l tags:=by have:=Nat.div_add_mod x (DD l tags);rw[h4,Nat.mul_comm] at this;omega
   refine List.mem_map.2 ⟨x / DD l tags,?_,h5.symm⟩
   rw[List.mem_range]
   apply Nat.div_lt_of_lt_mul
   rw[Nat.mul_comm];omega
  rw[heldL_length,hlen,List.length_map,List.length_range] at hle
  have h6:tags.length*DD l tags<=m*DD l tags:=Nat.mul_le_mul_right _ hle
  have h7:((tags.length*DD l tags:Nat):Int)<=((m*DD l tags:Nat):Int):=by exact_mod_cast h6
  rw[he] at h7
  push_cast at h7
  omega
 ·have h0:0<=bestF tags (fun t=>decide (t=l)) (fun a b=>decide (a<b)):=by omega
  exact⟨_,best_lt h0,by simpa using best_is h0⟩
theorem a_more {l at_:Int}{tags:List Int}(h:AFull l at_ tags)(hl:l<65535):AInv (l+1) at_ tags:=by
 obtain⟨⟨mok,dist,n1,has⟩,hat,_,hmul,full⟩:=h
 have ⟨l0,l1,at0,at1,p0,p1,tg,few⟩:=mok
 dsimp only at l0 l1 at0 at1 p0 p1 tg few
 refine⟨⟨by dsimp only;omega,by dsimp only;omega,at0,by dsimp only;omega,by dsimp only;omega,by dsimp only;omega,fun t ht=>by have:=tg t ht;dsimp only;omega,few⟩,dist,n1,fun m hm=>?_⟩
 have hd:DD l tags ∣ DD (l+1) tags:=strideD_dvd n1 (by omega) (by omega)
 obtain⟨q,hq⟩:=hd
 rw[hq] at hm ⊢
 have e:m*(DD l tags*q)=(m*q)*DD l tags:=by rw[Nat.mul_comm (DD l tags),Nat.mul_assoc]
 rw[e] at hm ⊢
 exact full (m*q) (by omega)
theorem a_first (s:Nat)(h1:1<=s)(h2:s<=1048576):AInv 0 0 (List.replicate s (-1)):=by
 refine⟨⟨by dsimp only;omega,by dsimp only;omega,by dsimp only;omega,by dsimp only;omega,by dsimp only;omega,by dsimp only;omega,fun t ht=>by simp at ht;dsimp only;omega,by simpa using h2⟩,?_,by simpa using h1,fun m hm=>by omega⟩
 intro i j hi hj e h0
 have:gt (List.replicate s (-1)) i = -1:=by have:=gt_mem hi;simp at this;exact this.2
 omega
def bT (tags:List Int):Int:=if 0<=bestF tags (fun t=>decide (0<=t)) (fun a b=>decide (b<a)) then gt tags (bestF tags (fun t=>decide (0<=t)) (fun a b=>decide (b<a))).toNat else -1
structure BInv (l at_ pend:Int)(tags:List Int):Prop where
 mok:MOk ⟨at_,pend,l,0,tags⟩
 pd:0<=pend
 n1:1<=tags.length
 has0:0<pend->∃i,i<tags.length/\gt tags i=0
def sPhase (at_ pend:Int)(tags:List Int):Int:=if pend<=bT tags then 2 else if at_=pend-1 then 0 else if bT tags<=at_/\at_<pend then 1 else 2
theorem sPhase_bound (at_ pend:Int)(tags:List Int):0<=sPhase at_ pend tags/\sPhase at_ pend tags<=2:=by
 unfold sPhase;split
 ·omega
 ·split
  ·omega
  ·split<;>omega
def bM (at_ pend:Int)(tags:List Int):Int:=3*pend+sPhase at_ pend tags+heldN tags
theorem bT_top {tags:List Int}(ht:∀t∈tags,-1<=t){j:Nat}(hj:j<tags.length):gt tags j<=bT tags:=by
 unfold bT
 by_cases h0:0<=gt tags j
 ·split
  ·have h1:decide (gt tags (bestF tags (fun t=>decide (0<=t)) (fun a b=>decide (b<a))).toNat<gt tags j)=false:=bestN_best tags (fun t=>decide (0<=t)) (fun a b=>decide (b<a)) (by simp) (by simp;omega) (by simp;omega) tags.length j hj (by show decide (0<=gt tags j)=true;exact decide_eq_true h0)
   simp only[decide_eq_false_iff_not] at h1
   omega
  ·have:=best_none (tags:=tags) (is:=fun t=>decide (0<=t)) (ah:=fun a b=>decide (b<a)) (by omega) hj
   simp at this;omega
 ·split
  ·rename_i h1
   have:=best_is h1
   simp only[decide_eq_true_eq] at this;omega
  ·omega
theorem back_eq {l at_ pend:Int}{tags:List Int}(ended:Bool)(hp:0<=pend):strideNext l ended at_ pend tags =
  if 0<=bT tags/\pend<=bT tags then some (4,bestF tags (fun t=>decide (0<=t)) (fun a b=>decide (b<a)))
  else if pend=0 then none
  else if at_=pend-1 then some (7,0)
  else if 0<=bT tags/\(at_<bT tags\/pend<=at_) then some (3,bestF tags (fun t=>decide (0<=t)) (fun a b=>decide (b<a)))
  else if at_<pend then some (1,pend-1-at_)
  else none:=by
 unfold strideNext
 rw[if_neg (by omega)]
 dsimp only
 by_cases hb:0<=bestF tags (fun t=>decide (0<=t)) (fun a b=>decide (b<a))
 ·have h1:=best_is hb
  simp only[decide_eq_true_eq] at h1
  have e:bT tags=gt tags (bestF tags (fun t=>decide (0<=t)) (fun a b=>decide (b<a))).toNat:=by unfold bT;rw[if_pos hb]
  rw[e]
  simp only[hb,h1,true_and]
  rfl
 ·have e:bT tags = -1:=by unfold bT;rw[if_neg hb]
  rw[e]
  simp only[hb,false_and,if_false]
  simp
theorem b_step {l at_ pend:Int}{tags:List Int}(h:BInv l at_ pend tags) :
  ((∀ended,strideNext l ended at_ pend tags=none)/\pend=0)\/∃k n m,(∀ended,strideNext l ended at_ pend tags=some (k,n))/\mstep ⟨at_,pend,l,0,tags⟩ k n=some m/\BInv l m.at_ m.pend m.tags/\bM m.at_ m.pend m.tags<bM at_ pend tags:=by
 obtain⟨mok,pd,n1,has0⟩:=h
 have ⟨l0,l1,at0,at1,p0,p1,tg,few⟩:=mok
 dsimp only at l0 l1 at0 at1 p0 p1 tg few
 have tg1:∀t∈tags,-1<=t:=fun t ht=>(tg t ht).1
 have hat:0<=bT tags->0<=bestF tags (fun t=>decide (0<=t)) (fun a b=>decide (b<a))/\(bestF tags (fun t=>decide (0<=t)) (fun a b=>decide (b<a))).toNat<tags.length/\gt tags (bestF tags (fun t=>decide (0<=t)) (fun a b=>decide (b<a))).toNat=bT tags:=by
  intro h0
  have hb:0<=bestF tags (fun t=>decide (0<=t)) (fun a b=>decide (b<a)):=by
   apply Classical.byContradiction
   intro hn
   unfold bT at h0;rw[if_neg hn] at h0;omega
  exact⟨hb,best_lt hb,by unfold bT;rw[if_pos hb]⟩
 have hph:=sPhase_bound at_ pend tags
 have hbl:bT tags<=l:=by
  rcases Int.lt_or_le (bT tags) 0 with h0|h0
  ·omega
  ·obtain⟨_,h2,h3⟩:=hat h0
   have:=(tg _ (gt_mem h2)).2;omega
 generalize hbs:bestF tags (fun t=>decide (0<=t)) (fun a b=>decide (b<a))=base at *
 by_cases c1:0<=bT tags/\pend<=bT tags
 ·right
  obtain⟨h1,h2,h3⟩:=hat c1.1
  have hst:=mst4 (s:=⟨at_,pend,l,0,tags⟩) (n:=base) h1 (by dsimp only;omega) (by show 0<=gt tags base.toNat;omega) few
  refine⟨_,_,_,fun ended=>by rw[back_eq ended pd,if_pos c1,hbs],hst,⟨mstep_ok mok hst,pd,by simpa using n1,fun hp=>?_⟩,?_⟩
  ·obtain⟨i,hi,e⟩:=has0 hp
   refine⟨i,by simpa using hi,?_⟩
   dsimp only at hp ⊢
   rw[gt_set,if_neg ?_,e]
   rintro⟨ei,_⟩
   rw[ei,e] at h3;omega
  ·dsimp only
   unfold bM
   have e1:sPhase at_ pend tags=2:=by unfold sPhase;rw[if_pos c1.2]
   have e2:=sPhase_bound at_ pend (tags.set base.toNat (-1))
   have e3:(heldN (tags.set base.toNat (-1)):Int)=(heldN tags:Int)-1:=by
    unfold heldN
    rw[countP_set' h2,if_pos (by simp;omega),if_neg (by simp)];omega
   omega
 by_cases c2:pend=0
 ·left
  exact⟨fun ended=>by rw[back_eq ended pd,if_neg c1,if_pos c2],c2⟩
 right
 obtain⟨i0,hi0,e0⟩:=has0 (by omega)
 have hbt:0<=bT tags:=by have:=bT_top tg1 hi0;omega
 obtain⟨h1,h2,h3⟩:=hat hbt
 have hlt:bT tags<pend:=by omega
 by_cases c3:at_=pend-1
 ·have hst:=mst7 (s:=⟨at_,pend,l,0,tags⟩) (by dsimp only;omega) c3
  refine⟨_,_,_,fun ended=>by rw[back_eq ended pd,if_neg c1,if_neg c2,if_pos c3],hst,⟨mstep_ok mok hst,at0,n1,fun _=>⟨i0,hi0,e0⟩⟩,?_⟩
  dsimp only
  unfold bM
  have:=sPhase_bound at_ at_ tags
  omega
 by_cases c4:0<=bT tags/\(at_<bT tags\/pend<=at_)
 ·have hst:=mst3 (s:=⟨at_,pend,l,0,tags⟩) (n:=base) h1 (by dsimp only;omega) (by show 0<=gt tags base.toNat;omega) few
  have e:tagAt ⟨at_,pend,l,0,tags⟩ base=bT tags:=h3
  rw[e] at hst
  refine⟨_,_,_,fun ended=>by rw[back_eq ended pd,if_neg c1,if_neg c2,if_neg c3,if_pos c4,hbs],hst,⟨mstep_ok mok hst,pd,n1,has0⟩,?_⟩
  dsimp only
  unfold bM
  have e1:sPhase at_ pend tags=2:=by unfold sPhase;rw[if_neg (by omega),if_neg c3,if_neg (by omega)]
  have e2:sPhase (bT tags) pend tags<=1:=by
   unfold sPhase;rw[if_neg (by omega)];split
   ·omega
   ·rw[if_pos (by omega)];omega
  omega
 have c5:at_<pend:=by omega
 have hst:=mst1 (s:=⟨at_,pend,l,0,tags⟩) (n:=pend-1-at_) (by omega) (by omega) (by dsimp only;omega)
 refine⟨_,_,_,fun ended=>by rw[back_eq ended pd,if_neg c1,if_neg c2,if_neg c3,if_neg c4,if_pos c5],hst,⟨mok_total (mstep_ok mok hst),pd,n1,has0⟩,?_⟩
 dsimp only
 unfold bM
 have e1:sPhase at_ pend tags=1:=by unfold sPhase;rw[if_neg (by omega),if_neg c3,if_pos (by omega)]
 have e2:sPhase (at_+(pend-1-at_)) pend tags=0:=by unfold sPhase;rw[if_neg (by omega),if_pos (by omega)]
 omega
def SInv (l at_ pend:Int)(tags:List Int):Prop:=(pend = -1/\AFull l at_ tags)\/BInv l at_ pend tags
def sM (l at_ pend:Int)(tags:List Int):Int:=if pend<0 then 3*l+3+tags.length else bM at_ pend tags
theorem sM_bound {l at_ pend:Int}{tags:List Int}(h:SInv l at_ pend tags):0<=sM l at_ pend tags/\sM l at_ pend tags<=2097154:=by
 have hh:=heldN_le tags
 have hph:=sPhase_bound at_ pend tags
 unfold sM bM
 rcases h with ⟨hp,h⟩|h
 ·obtain⟨l0,l1,at0,at1,p0,p1,tg,few⟩:=h.inv.mok
  dsimp only at l0 l1 few
  rw[if_pos (by omega)];omega
 ·obtain⟨l0,l1,at0,at1,p0,p1,tg,few⟩:=h.mok
  have:=h.pd
  dsimp only at l0 l1 p1 few
  rw[if_neg (by omega)];omega
theorem s_step {l at_ pend:Int}{tags:List Int}(h:SInv l at_ pend tags) :
  (strideNext l true at_ pend tags=none/\pend=0)\/∃k n m,strideNext l true at_ pend tags=some (k,n)/\mstep ⟨at_,pend,l,0,tags⟩ k n=some m/\SInv l m.at_ m.pend m.tags/\sM l m.at_ m.pend m.tags<sM l at_ pend tags:=by
 rcases h with ⟨hp,h⟩|h
 ·right
  have mok:=h.inv.mok
  have ⟨l0,l1,at0,at1,p0,p1,tg,few⟩:=mok
  have n1:=h.inv.n1
  have hat:=h.here
  dsimp only at l0 l1 few
  subst hp
  have hst:=mst5 (s:=⟨at_,-1,l,0,tags⟩) rfl hat
  refine⟨_,_,_,by rw[h.next];rfl,hst,.inr ⟨mstep_ok mok hst,at0,n1,fun _=>?_⟩,?_⟩
  ·obtain⟨i,hi,e⟩:=h.full 0 (by simp;exact l0)
   exact⟨i,hi,by simpa using e⟩
  ·dsimp only
   have hh:=heldN_le tags
   have hph:=sPhase_bound at_ at_ tags
   unfold sM bM
   dsimp only at at0
   rw[if_neg (by omega),if_pos (by omega)];omega
 ·rcases b_step h with ⟨h1,h2⟩|⟨k,n,m,h1,h2,h3,h4⟩
  ·exact .inl ⟨h1 true,h2⟩
  ·have hpd:=h.pd
   have hpd2:=h3.pd
   refine .inr ⟨k,n,m,h1 true,h2,.inr h3,?_⟩
   unfold sM
   rw[if_neg (by omega),if_neg (by omega)];exact h4
end Go.VC
namespace Go.VC
open Go Go.Proofs
theorem tmpE {H0 H1 H2:Heap}{old cs:List Value}{t p:Nat}(n:New H0 old t H1 p)(hl:cs.length=old.length)(h2:H2=wrL H1 p 0 cs):Ext H0 H2/\Own H2 p cs:=by
 refine⟨?_,by rw[h2];exact n.own.swrL hl⟩
 rw[h2];exact n.mod.trans_new (Mod.refl.wrL (S:=[p]) (.inl (by simp))) (by have:=n.ge;simpa using this)
inductive ERun (h:Hdr)(ended:Bool):DS->List Int->DS->List Int->Prop
 | refl (d tags):ERun h ended d tags d tags
 | step {d tags k n m d' tags'}:enext h d tags ended=some (k,n)->mstep (dMS d tags) k n=some m->ERun h ended (dact h d k n m) m.tags d' tags'->ERun h ended d tags d' tags'
theorem ERun.snoc {h:Hdr}{ended:Bool}{d tags d' tags'}(r:ERun h ended d tags d' tags'){k n m}(e1:enext h d' tags' ended=some (k,n))(e2:mstep (dMS d' tags') k n=some m):ERun h ended d tags (dact h d' k n m) m.tags:=by
 induction r with
 | refl=>exact .step e1 e2 (.refl _ _)
 | step a b _ ih=>exact .step a b (ih e1 e2)
structure RunInv (h:Hdr)(ended:Bool)(P:DS->List Int->Prop)(M:DS->List Int->Int):Prop where
 lo:∀d tags,P d tags->0<=M d tags
 step:∀d tags,P d tags->enext h d tags ended=none\/∃k n m,enext h d tags ended=some (k,n)/\mstep (dMS d tags) k n=some m/\P (dact h d k n m) m.tags/\M (dact h d k n m) m.tags<M d tags
theorem dcnt_step {h:Hdr}{d:DS}{tags:List Int}{k n:Int}{m:MS1}{B:Int}(e:mstep (dMS d tags) k n=some m)(c:DCnt d B):DCnt (dact h d k n m) (B+65535):=by
 obtain⟨p,t,l,s⟩:=c
 have hn:k=1->1<=n/\n<=65535:=by intro hk;rcases mstep_inv e with h|h|h|h|h|h|h<;>omega
 refine⟨?_,?_,?_,?_⟩<;>simp only[dact]<;>(repeat' split)<;>omega
theorem DCnt.mono {d:DS}{A B:Int}(c:DCnt d A)(h:A<=B):DCnt d B:=by
 obtain⟨p,t,l,s⟩:=c;exact⟨by omega,by omega,by omega,by omega⟩
theorem c17 {H:Heap}{R:Value->Heap->Prop}{be:Nat}{b:DB}{h:Hdr}{d:DS}{tags:List Int}{ended:Bool}{s:PS}{post:List UInt64}(e:EngS H be b h d tags ended false s post)(hm:h.mode=1\/h.mode=2)
  {P:DS->List Int->Prop} {M:DS->List Int->Int} (ri:RunInv h ended P M) (hp:P d tags) {B:Int} (cnt:DCnt d B) (hB:B+65535*M d tags<=2305843009213693952) (hB0:0<=B)
  (k:∀n d' tags' s' H',enext h d' tags' ended=none->P d' tags'->ERun h ended d tags d' tags'->EngS H' be b h d' tags' ended false s' post->Mod [b.d,b.m,b.w] H H'->R (.tuple #[.int .i64 n,.int .i64 0]) H') :
  Ru 17 [.pointer (some ⟨be,0,none⟩)] H R:=by
 have hM:=ri.lo d tags hp
 let J:Nat->Int->Heap->Prop:=fun N n H'=>∃d' tags' s',N=(M d' tags').toNat/\EngS H' be b h d' tags' ended false s' post/\P d' tags'/\ERun h ended d tags d' tags'/\DCnt d' (B+65535*(M d tags-M d' tags'))/\0<=n/\n<=M d tags-M d' tags'/\Mod [b.d,b.m,b.w] H H'
 refine v17 _ _ ⟨fun n H'=>∃N,J N n H',fun n H'=>least fun N=>J N n H',⟨_,d,tags,s,rfl,e,hp,.refl _ _,by simpa using cnt,by omega,by omega,Mod.refl⟩,?_⟩
 intro H1 n hI
 obtain⟨N,hJ⟩:=hI
 obtain⟨d1,tags1,s1,hN,e1,p1,r1,c1,n0,nle,m1⟩:=least_spec (p:=fun N=>J N n H1) hJ
 have hM1:=ri.lo d1 tags1 p1
 have hst:=ri.step d1 tags1 p1
 refine c12 e1 hm (c1.mono (by omega)) ?_ ?_ ?_
 ·intro x y hxy
  rcases hst with h0|⟨x',y',m,h1,h2,_⟩
  ·rw[h0] at hxy;cases hxy
  ·rw[h1] at hxy;cases hxy;exact⟨m,h2⟩
 ·intro hnone H2 x2
  refine⟨_,rfl,_,_,rfl,fun H3 q n3=>⟨rfl,act_one,n3.own.w 0 2 rfl,fun H4 h4=>?_⟩⟩
  obtain⟨x4,_⟩:=tmpE n3 rfl h4
  have x14:=x2.thenExt x4
  refine⟨fun hc=>(hc rfl).elim,fun _=>⟨fun hc=>by simp at hc,fun _=>?_⟩⟩
  exact k n d1 tags1 s1 H4 hnone p1 r1 (e1.ext x14) (m1.thenExt x14)
 ·intro x y m hxy hms H2 s2 e2 m2
  rcases hst with h0|⟨x',y',m',h1,h2,h3,h4⟩
  ·rw[h0] at hxy;cases hxy
  rw[h1] at hxy;cases hxy
  rw[h2] at hms;cases hms
  have hM2:=ri.lo _ _ h3
  refine⟨_,rfl,_,_,rfl,fun H3 q n3=>⟨rfl,act_one,n3.own.w 0 2 rfl,fun H4 h4'=>?_⟩⟩
  obtain⟨x4,_⟩:=tmpE (cs:=actC x y) n3 rfl h4'
  refine⟨fun hc=>(hc rfl).elim,fun _=>⟨fun _=>?_,fun hc=>by simp at hc⟩⟩
  have hJ':J (M (dact h d1 x y m) m.tags).toNat (n+1) H4:=⟨_,_,s2,rfl,e2.ext x4,h3,r1.snoc h1 h2,(dcnt_step h2 c1).mono (by omega),by omega,by omega,(m1.trans m2).thenExt x4⟩
  refine⟨by unfold I64;omega,⟨_,hJ'⟩,?_⟩
  exact Nat.lt_of_lt_of_eq (least_lt (p:=fun N=>J N (n+1) H4) hJ' (show (M (dact h d1 x y m) m.tags).toNat<(M d1 tags1).toNat by omega)) hN.symm
theorem off_inv {h:Hdr}(hm:h.mode=1)(ended:Bool):RunInv h ended (fun d tags=>OffInv d.l d.at_ d.pend tags) (fun d tags=>offM d.l d.at_ d.pend tags):=by
 refine⟨fun d tags hp=>(offM_bound hp).1,fun d tags hp=>?_⟩
 unfold enext
 rw[if_pos hm]
 rcases off_step hp with ⟨h1,_⟩|⟨k,n,m,h1,h2,h3,h4⟩
 ·exact .inl h1
 ·exact .inr ⟨k,n,m,h1,h2,h3,h4⟩
theorem off_end {h:Hdr}(hm:h.mode=1){ended:Bool}{d:DS}{tags:List Int}(hp:OffInv d.l d.at_ d.pend tags)(hn:enext h d tags ended=none):d.pend=0:=by
 unfold enext at hn
 rw[if_pos hm] at hn
 rcases off_step hp with ⟨_,h1⟩|⟨k,n,m,h1,_⟩
 ·exact h1
 ·rw[hn] at h1;cases h1
theorem off_first {h:Hdr}(hp:PlanOk h)(hm:h.mode=1):OffInv (d0 h (fixedOf h)).l (d0 h (fixedOf h)).at_ (d0 h (fixedOf h)).pend (tags0 h):=by
 have hs:=slots_pos hp (by omega)
 have hsem:=dsem0 hp (show h.mode≠3 by omega)
 have hall:∀j,j<(tags0 h).length->gt (tags0 h) j = -1:=fun j hj=>by have:=gt_mem hj;simp only[tags0,List.mem_replicate] at this;exact this.2
 have hb:baseOf (tags0 h) = -1:=base_none (fun t ht=>by simp only[tags0,List.mem_replicate] at ht;omega) fun j hj=>by rw[hall j hj];omega
 have hl:=hp.1.len.1
 refine⟨hsem.mok,fun i j hi hj _ h0=>by rw[hall i hi] at h0;omega,by simp[tags0];omega,fun _=>.inl ⟨rfl,rfl⟩,fun h0=>by omega,?_,fun h0=>by omega⟩
 rw[hb]
 show (-1:Int)<=if (-1:Int)<0 then h.len else -1
 rw[if_pos (by omega)];omega
theorem str_inv {h:Hdr}(hm:h.mode=2):RunInv h true (fun d tags=>SInv d.l d.at_ d.pend tags) (fun d tags=>sM d.l d.at_ d.pend tags):=by
 refine⟨fun d tags hp=>(sM_bound hp).1,fun d tags hp=>?_⟩
 unfold enext
 rw[if_neg (by omega)]
 rcases s_step hp with ⟨h1,_⟩|⟨k,n,m,h1,h2,h3,h4⟩
 ·exact .inl h1
 ·exact .inr ⟨k,n,m,h1,h2,h3,h4⟩
theorem str_end {h:Hdr}(hm:h.mode=2){d:DS}{tags:List Int}(hp:SInv d.l d.at_ d.pend tags)(hn:enext h d tags true=none):d.pend=0:=by
 unfold enext at hn
 rw[if_neg (by omega)] at hn
 rcases s_step hp with ⟨_,h1⟩|⟨k,n,m,h1,_⟩
 ·exact h1
 ·rw[hn] at h1;cases h1
theorem str_first {h:Hdr}(hp:PlanOk h)(hm:h.mode=2):(d0 h (fixedOf h)).l=0/\AInv 0 0 (tags0 h):=by
 have hs:=slots_pos hp (by omega)
 obtain⟨a,b,c,d⟩:=slots_small hp
 have hl:=hp.1.len
 unfold lenOk at hl
 rw[if_pos hm] at hl
 exact⟨by simp only[d0];omega,a_first _ (by omega) (by omega)⟩
end Go.VC
set_option linter.unusedVariables false
namespace Go.VC
open Go Go.Proofs
set_option maxRecDepth 100000
variable {H:Heap}{R:Value->Heap->Prop}
theorem v19 (x0:List Value)(x1:List Value)(x2:Option Addr)(l2 c2:Nat)(x3:Option Addr)(l3 c3:Nat)(x4:Int)(h:∀H' p,New H x0 25 H' p->∀H'_1 p_1,New H' x1 25 H'_1 p_1->∀H' p_2,New H'_1 [.int .u64 0,.slice none 0 0,.slice none 0 0] 53 H' p_2->∃cs:List Value,cs.length=2/\RdL H' p 0 cs/\∃(cs_1:List Value),cs_1.length=2/\RdL H' p_1 0 cs_1/\Ru 59 [.agg cs.toArray,.agg cs_1.toArray,.i (↑l2:Int),.slice x3 l3 c3,.i x4] H' fun r H'=>∃n,r=.i n/\(¬n=0->3=3/\(∀v∈[.int .u64 0,.slice none 0 0,.slice none 0 0],One v)/\WOk H' p_2 0 3/\∀H'_2,H'_2=wrL H' p_2 0 [.int .u64 0,.slice none 0 0,.slice none 0 0]->∃cs:List Value,cs.length=3/\RdL H'_2 p_2 0 cs/\R (.tuple #[.agg cs.toArray,.i n]) H'_2)/\(¬¬n=0->∀H'_2 p_3,New H' [.int .u64 0,.slice none 0 0,.slice none 0 0] 53 H'_2 p_3->3=3/\(∀v∈[.int .u64 0,.slice none 0 0,.slice none 0 0],One v)/\WOk H'_2 p_3 0 3/\∀H',H'=wrL H'_2 p_3 0 [.int .u64 0,.slice none 0 0,.slice none 0 0]->∃(I:Int->Heap->Prop),∃(μ:Int->Heap->Nat),I (0:Int) H'/\∀H n,I n H->I64 ((↑l2:Int)+(↑l3:Int))/\(n<(↑l2:Int)+(↑l3:Int)->∃cs:List Value,cs.length=2/\RdL H p 0 cs/\∃cs_2:List Value,cs_2.length=2/\RdL H p_1 0 cs_2/\Ru 60 [.agg (List.toArray cs),.agg cs_2.toArray,.slice x2 l2 c2,.slice x3 l3 c3,.i x4,.i n] H fun r H'=>∃x x_1 n_1,r=.tuple #[.u x,.u x_1,.int .i64 n_1]/\WOk H' p_3 0 1/\∀H'_3,H'_3=wr H' p_3 0 (.u x)->(n<(↑l2:Int)->∃a l c,rd H'_3 p_3 1=some (.slice a l c)/\∀H' q,New H'_3 [.u x_1] 51 H' q->∃new,new.length=1/\SlL H' (some ⟨q,0,none⟩) new/\App 1 8 51 [.int .u64 0] H' a l c 1 new fun a' l' c' H'=>WOk H' p_3 1 1/\∀H'_4,H'_4=wr H' p_3 1 (.slice a' l' c')->I64 (n+(1:Int))/\I (n+(1:Int)) H'_4/\μ (n+(1:Int)) H'_4<μ n H)/\(¬n<(↑l2:Int)->∃a l c,rd H'_3 p_3 2=some (.slice a l c)/\∀H' q,New H'_3 [.u x_1] 51 H' q->∃new,new.length=1/\SlL H' (some ⟨q,0,none⟩) new/\App 1 8 51 [.int .u64 0] H' a l c 1 new fun a' l' c' H'=>WOk H' p_3 2 1/\∀H'_4,H'_4=wr H' p_3 2 (.slice a' l' c')->I64 (n+(1:Int))/\I (n+(1:Int)) H'_4/\μ (n+(1:Int)) H'_4<μ n H))/\(¬n<(↑l2:Int)+(↑l3:Int)->∃cs:List Value,cs.length=3/\RdL H p_3 0 cs/\cs.length=3/\(∀v∈cs,One v)/\WOk H p_2 0 3/\∀H',H'=wrL H p_2 0 cs->∃(cs:List Value),cs.length=3/\RdL H' p_2 0 cs/\R (.tuple #[.agg cs.toArray,.i 0]) H'))):Ru 19 [.agg x0.toArray,.agg x1.toArray,.slice x2 l2 c2,.slice x3 l3 c3,.i x4] H R:=vcr ⟨fun|6=>some [(14,.int .i64)]|_=>none,fun _=>none⟩ [.agg x0,.agg x1,.slc x2 l2 c2,.slc x3 l3 c3,.int .i64 x4] h
theorem v20 (x0:List Value)(x1:List Value)(h:∀H' p,New H x0 53 H' p->∀H'_1 p_1,New H' x1 53 H'_1 p_1->∃(J:Heap->Prop),(∃x,rd H'_1 p 0=some (.u x)/\∃x_1,rd H'_1 p_1 0=some (.u x_1)/\(¬x=x_1->R (.bool false) H'_1)/\(¬¬x=x_1->∃a l c,rd H'_1 p 1=some (.slice a l c)/\∃a l_1 c,rd H'_1 p_1 1=some (.slice a l_1 c)/\(¬(↑l:Int)=(↑l_1:Int)->R (.bool false) H'_1)/\(¬¬(↑l:Int)=(↑l_1:Int)->∃a l c,rd H'_1 p 2=some (.slice a l c)/\∃a l_2 c,rd H'_1 p_1 2=some (.slice a l_2 c)/\(¬(↑l:Int)=(↑l_2:Int)->R (.bool false) H'_1)/\(¬¬(↑l:Int)=(↑l_2:Int)->J H'_1))))/\∀H,J H->∃(I:Int->Heap->Prop),∃(μ:Int->Heap->Nat),I (0:Int) H/\∀H n,I n H->∃a l c,rd H p 1=some (.slice a l c)/\(n<(↑l:Int)->∃a l c,rd H p 1=some (.slice a l c)/\∃b o,At a b o/\((0:Int)<=n/\n<(↑l:Int))/\∃x,rd H b (o+n.toNat)=some (.u x)/\∃a l c,rd H p_1 1=some (.slice a l c)/\∃b o,At a b o/\((0:Int)<=n/\n<(↑l:Int))/\∃x_1,rd H b (o+n.toNat)=some (.u x_1)/\(¬x=x_1->R (.bool false) H)/\(¬¬x=x_1->I64 (n+(1:Int))/\I (n+(1:Int)) H/\μ (n+(1:Int)) H<μ n H))/\(¬n<(↑l:Int)->∃(I:Int->Heap->Prop),∃(μ:Int->Heap->Nat),I (0:Int) H/\∀H n,I n H->∃a l c,rd H p 2=some (.slice a l c)/\(n<(↑l:Int)->∃a l c,rd H p 2=some (.slice a l c)/\∃b o,At a b o/\((0:Int)<=n/\n<(↑l:Int))/\∃x,rd H b (o+n.toNat)=some (.u x)/\∃a l c,rd H p_1 2=some (.slice a l c)/\∃b o,At a b o/\((0:Int)<=n/\n<(↑l:Int))/\∃x_1,rd H b (o+n.toNat)=some (.int .u64 (↑(UInt64.toNat x_1):Int))/\(¬x=x_1->R (.bool false) H)/\(¬¬x=x_1->I64 (n+(1:Int))/\I (n+(1:Int)) H/\μ (n+(1:Int)) H<μ n H))/\(¬n<(↑l:Int)->R (.bool true) H))):Ru 20 [.agg x0.toArray,.agg x1.toArray] H R:=vcr ⟨fun|4=>some [(5,.int .i64)]|9=>some [(6,.int .i64)]|_=>none,fun|3=>some []|_=>none⟩ [.agg x0,.agg x1] h
theorem v37 (x0:Option Addr)(l0 c0:Nat)(x1:Option Addr)(l1 c1:Nat)(h:(¬(↑l0:Int)=(↑l1:Int)->R (.bool false) H)/\(¬¬(↑l0:Int)=(↑l1:Int)->∃(I:Int->Heap->Prop),∃(μ:Int->Heap->Nat),I (0:Int) H/\∀H n,I n H->(n<(↑l0:Int)->∃b o,At x0 b o/\((0:Int)<=n/\n<(↑l0:Int))/\∃x,rd H b (o+n.toNat)=some (.u x)/\∃b o,At x1 b o/\((0:Int)<=n/\n<(↑l1:Int))/\∃x_1,rd H b (o+n.toNat)=some (.int .u64 (↑(UInt64.toNat x_1):Int))/\(¬x=x_1->R (.bool false) H)/\(¬¬x=x_1->I64 (n+(1:Int))/\I (n+(1:Int)) H/\μ (n+(1:Int)) H<μ n H))/\(¬n<(↑l0:Int)->R (.bool true) H))):Ru 37 [.slice x0 l0 c0,.slice x1 l1 c1] H R:=vcr ⟨fun|4=>some [(5,.int .i64)]|_=>none,fun _=>none⟩ [.slc x0 l0 c0,.slc x1 l1 c1] h
theorem v59 (x0:List Value)(x1:List Value)(x2:Int)(x3:Option Addr)(l3 c3:Nat)(x4:Int)(h:∀H' p,New H x0 25 H' p->∀H'_1 p_1,New H' x1 25 H'_1 p_1->∃cs:List Value,cs.length=2/\RdL H'_1 p 0 cs/\∃cs_1:List Value,cs_1.length=2/\RdL H'_1 p_1 0 cs_1/\(cs.length=2/\cs_1.length=2)/\Ru 122 [.agg (List.toArray (List.set (List.set (List.take 2 (cs++[.i 0,.slice none 0 0,.i 0,.slice none 0 0])++cs_1++List.drop 4 (cs++[.i 0,.slice none 0 0,.i 0,.slice none 0 0])) 4 (.i x2)) 5 (.slice x3 l3 c3)))] H'_1 fun r H'=>∃n,r=.i n/\(¬n=0->R (.i n) H')/\(¬¬n=0->(x4<(0:Int)->R (.i 2) H')/\(¬x4<(0:Int)->((65536:Int)<=x4->R (.i 2) H')/\(¬(65536:Int)<=x4->R (.i 0) H')))):Ru 59 [.agg x0.toArray,.agg x1.toArray,.i x2,.slice x3 l3 c3,.i x4] H R:=vcr nn [.agg x0,.agg x1,.int .i64 x2,.slc x3 l3 c3,.int .i64 x4] h
theorem v60 (x0:List Value)(x1:List Value)(x2:Option Addr)(l2 c2:Nat)(x3:Option Addr)(l3 c3:Nat)(x4:Int)(x5:Int)(h:∀H' p,New H x0 25 H' p->∀H'_1 p_1,New H' x1 25 H'_1 p_1->∃cs:List Value,cs.length=2/\RdL H'_1 p 0 cs/\∃cs_1:List Value,cs_1.length=2/\RdL H'_1 p_1 0 cs_1/\Ru 59 [.agg cs.toArray,.agg cs_1.toArray,.i (↑l2:Int),.slice x3 l3 c3,.i x4] H'_1 fun r H'=>∃n,r=.i n/\(¬n=0->R (.tuple #[.int .u64 0,.int .u64 0,.i n]) H')/\(¬¬n=0->∃(J:Heap->Prop),((x5<(0:Int)->R (.tuple #[.int .u64 0,.int .u64 0,.i 2]) H')/\(¬x5<(0:Int)->I64 ((↑l2:Int)+(↑l3:Int))/\((↑l2:Int)+(↑l3:Int)<=x5->R (.tuple #[.int .u64 0,.int .u64 0,.i 2]) H')/\(¬(↑l2:Int)+(↑l3:Int)<=x5->J H')))/\∀H,J H->Ru 123 [.slice x2 l2 c2,.slice x3 l3 c3,.slice none 0 0] H fun r H'=>∃a l c,r=.slice a l c/\∀H'_2 q,New H' [] 203 H'_2 q->∃(J:Option Addr->Nat->Nat->Heap->Prop),(∃(I:Option Addr->Nat->Nat->Int->Heap->Prop),∃(μ:Option Addr->Nat->Nat->Int->Heap->Nat),I (some ⟨q,0,none⟩) 0 0 (0:Int) H'_2/\∀H a_2 l_1 c n,I a_2 l_1 c n H->(n<(↑l:Int)->(n=x5->∃b o,At a b o/\((0:Int)<=n/\n<(↑l:Int))/\∃x,rd H b (o+n.toNat)=some (.u x)/\List.length (α:=Value) [.u x,.int .u64 1]=2/\∀H' q,New H [.u x,.int .u64 1] 203 H' q->∃new,new.length=2/\SlL H' (some ⟨q,0,none⟩) new/\App 2 16 203 [.int .u64 0,.int .u64 0] H' a_2 l_1 c 1 new fun a' l' c' H'=>I64 (n+(1:Int))/\I a' l' c' (n+(1:Int)) H'/\μ a' l' c' (n+(1:Int)) H'<μ a_2 l_1 c n H)/\(¬n=x5->∃b o,At a b o/\((0:Int)<=n/\n<(↑l:Int))/\∃x,rd H b (o+n.toNat)=some (.int .u64 (↑(UInt64.toNat x):Int))/\List.length (α:=Value) [.u x,.int .u64 0]=2/\∀H' q,New H [.u x,.int .u64 0] 203 H' q->∃new,new.length=2/\SlL H' (some ⟨q,0,none⟩) new/\App 2 16 203 [.int .u64 0,.int .u64 0] H' a_2 l_1 c 1 new fun a' l' c' H'=>I64 (n+(1:Int))/\I a' l' c' (n+(1:Int)) H'/\μ a' l' c' (n+(1:Int)) H'<μ a_2 l_1 c n H))/\(¬n<(↑l:Int)->J a_2 l_1 c H))/\∀H a l_1 c,J a l_1 c H->∃(I:Option Addr->Nat->Nat->Int->Heap->Prop),∃(μ:Option Addr->Nat->Nat->Int->Heap->Nat),I a l_1 c (0:Int) H/\∀H a l_2 c n,I a l_2 c n H->(n<x4->∃cs:List Value,cs.length=2/\RdL H p 0 cs/\(((0:Int)<=(↑l:Int)/\(↑l:Int)<=(↑c:Int))/\(0:Int)<=(↑l:Int)/\(↑l:Int)<=(↑l:Int))/\List.length (α:=Value) [.int .u64 (↑(UInt64.toNat (UInt64.ofInt n)):Int),.int .u64 0]=2/\∀H' q,New H [.int .u64 (↑(UInt64.toNat (UInt64.ofInt n)):Int),.int .u64 0] 203 H' q->RdL H' p 0 cs/\∃new,new.length=2/\SlL H' (some ⟨q,0,none⟩) new/\App 2 16 203 [.int .u64 0,.int .u64 0] H' a (Int.toNat (↑l:Int)) (Int.toNat (↑l:Int)) 1 new fun a' l' c' H'=>RdL H' p 0 cs/\Ru 124 [.agg cs.toArray,.slice a' l' c'] H' fun r H'=>∃a_6 l_3 c_1 n_1,r=.tuple #[.slice a_6 l_3 c_1,.i n_1]/\∀H'_3 q,New H' [] 203 H'_3 q->∃(I_1:Option Addr->Nat->Nat->Int->Heap->Prop),∃(μ_1:Option Addr->Nat->Nat->Int->Heap->Nat),I_1 (some ⟨q,0,none⟩) 0 0 (0:Int) H'_3/\∀H_1 a_8 l_4 c_2 n_2,I_1 a_8 l_4 c_2 n_2 H_1->(n_2<(↑l:Int)->(n_2<(↑l2:Int)->∃b o,At a_6 b o/\((0:Int)<=n_2/\n_2<(↑l_3:Int))/\∃cs:List Value,cs.length=2/\RdL H_1 b (o+n_2.toNat*2) cs/\cs.length=2/\∀H' q,New H_1 (cs++[]) 203 H' q->∃new,new.length=2/\SlL H' (some ⟨q,0,none⟩) new/\App 2 16 203 [.int .u64 0,.int .u64 0] H' a_8 l_4 c_2 1 new fun a' l' c' H'=>I64 (n_2+(1:Int))/\I_1 a' l' c' (n_2+(1:Int)) H'/\μ_1 a' l' c' (n_2+(1:Int)) H'<μ_1 a_8 l_4 c_2 n_2 H_1)/\(¬n_2<(↑l2:Int)->∃b o,At a b o/\((0:Int)<=n_2/\n_2<(↑l_2:Int))/\∃cs:List Value,cs.length=2/\RdL H_1 b (o+n_2.toNat*2) cs/\cs.length=2/\∀H' q,New H_1 (cs++[]) 203 H' q->∃new,new.length=2/\SlL H' (some ⟨q,0,none⟩) new/\App 2 16 203 [.int .u64 0,.int .u64 0] H' a_8 l_4 c_2 1 new fun a' l' c' H'=>I64 (n_2+(1:Int))/\I_1 a' l' c' (n_2+(1:Int)) H'/\μ_1 a' l' c' (n_2+(1:Int)) H'<μ_1 a_8 l_4 c_2 n_2 H_1))/\(¬n_2<(↑l:Int)->I64 (n+(1:Int))/\I a_8 l_4 c_2 (n+(1:Int)) H_1/\μ a_8 l_4 c_2 (n+(1:Int)) H_1<μ a l_2 c n H))/\(¬n<x4->∃cs:List Value,cs.length=2/\RdL H p_1 0 cs/\Ru 124 [.agg cs.toArray,.slice a l_2 c] H fun r H'=>∃a l c n,r=.tuple #[.slice a l c,.i n]/\∃b o,At a b o/\((0:Int)<=(0:Int)/\(0:Int)<(↑l:Int))/\∃x,rd H' b o=some (.u x)/\∃b o,At a b o/\((0:Int)<=(0:Int)/\(0:Int)<(↑l:Int))/\∃x_1,rd H' b (o+1)=some (.u x_1)/\R (.tuple #[.u x,.u x_1,.i 0]) H'))):Ru 60 [.agg x0.toArray,.agg x1.toArray,.slice x2 l2 c2,.slice x3 l3 c3,.i x4,.i x5] H R:=vcr ⟨fun|9=>some [(17,.slc),(18,.int .i64)]|16=>some [(17,.slc),(20,.int .i64)]|21=>some [(23,.slc),(24,.int .i64)]|_=>none,fun|6=>some []|15=>some [(17,.slc)]|_=>none⟩ [.agg x0,.agg x1,.slc x2 l2 c2,.slc x3 l3 c3,.int .i64 x4,.int .i64 x5] h
theorem v122 (x0:List Value)(h:∀H' p,New H x0 199 H' p->∃cs:List Value,cs.length=2/\RdL H' p 0 cs/\∃cs_1:List Value,cs_1.length=2/\RdL H' p 2 cs_1/\Ru 196 [.agg cs.toArray,.agg cs_1.toArray] H' fun r H'=>∃n,r=.i n/\(¬n=0->R (.i n) H')/\(¬¬n=0->∃cs:List Value,cs.length=2/\RdL H' p 0 cs/\∃cs_2:List Value,cs_2.length=2/\RdL H' p 2 cs_2/\∃n,rd H' p 4=some (.i n)/\∃a l c,rd H' p 5=some (.slice a l c)/\Ru 197 [.agg cs.toArray,.agg cs_2.toArray,.i n,.i (↑l:Int)] H' fun r H'=>∃n,r=.i n/\R (.i n) H')):Ru 122 [.agg x0.toArray] H R:=vcr nn [.agg x0] h
theorem v123 (x0:Option Addr)(l0 c0:Nat)(x1:Option Addr)(l1 c1:Nat)(x2:Option Addr)(l2 c2:Nat)(h:∀H' q,New H [] 51 H' q->∃(J:Option Addr->Nat->Nat->Heap->Prop),(∃(I:Option Addr->Nat->Nat->Int->Heap->Prop),∃(μ:Option Addr->Nat->Nat->Int->Heap->Nat),I (some ⟨q,0,none⟩) 0 0 (0:Int) H'/\∀H a l c n,I a l c n H->(n<(↑l0:Int)->∃b o,At x0 b o/\((0:Int)<=n/\n<(↑l0:Int))/\∃x,rd H b (o+n.toNat)=some (.u x)/\∀H' q,New H [.int .u64 (↑(UInt64.toNat x):Int)] 51 H' q->∃new,new.length=1/\SlL H' (some ⟨q,0,none⟩) new/\App 1 8 51 [.int .u64 0] H' a l c 1 new fun a' l' c' H'=>I64 (n+(1:Int))/\I a' l' c' (n+(1:Int)) H'/\μ a' l' c' (n+(1:Int)) H'<μ a l c n H)/\(¬n<(↑l0:Int)->J a l c H))/\∀H a l c,J a l c H->∃(I:Option Addr->Nat->Nat->Int->Heap->Prop),∃(μ:Option Addr->Nat->Nat->Int->Heap->Nat),I a l c (0:Int) H/\∀H a l c n,I a l c n H->(n<(↑l1:Int)->∃b o,At x1 b o/\((0:Int)<=n/\n<(↑l1:Int))/\∃x,rd H b (o+n.toNat)=some (.u x)/\∀H' q,New H [.u x] 51 H' q->∃new,new.length=1/\SlL H' (some ⟨q,0,none⟩) new/\App 1 8 51 [.int .u64 0] H' a l c 1 new fun a' l' c' H'=>I64 (n+(1:Int))/\I a' l' c' (n+(1:Int)) H'/\μ a' l' c' (n+(1:Int)) H'<μ a l c n H)/\(¬n<(↑l1:Int)->∃(I:Option Addr->Nat->Nat->Int->Heap->Prop),∃(μ:Option Addr->Nat->Nat->Int->Heap->Nat),I a l c (0:Int) H/\∀H a l c n,I a l c n H->(n<(↑l2:Int)->∃b o,At x2 b o/\((0:Int)<=n/\n<(↑l2:Int))/\∃x,rd H b (o+n.toNat)=some (.u x)/\∀H' q,New H [.u x] 51 H' q->∃new,new.length=1/\SlL H' (some ⟨q,0,none⟩) new/\App 1 8 51 [.int .u64 0] H' a l c 1 new fun a' l' c' H'=>I64 (n+(1:Int))/\I a' l' c' (n+(1:Int)) H'/\μ a' l' c' (n+(1:Int)) H'<μ a l c n H)/\(¬n<(↑l2:Int)->R (.slice a l c) H))):Ru 123 [.slice x0 l0 c0,.slice x1 l1 c1,.slice x2 l2 c2] H R:=vcr ⟨fun|3=>some [(7,.slc),(8,.int .i64)]|7=>some [(7,.slc),(9,.int .i64)]|11=>some [(7,.slc),(10,.int .i64)]|_=>none,fun|6=>some [(7,.slc)]|_=>none⟩ [.slc x0 l0 c0,.slc x1 l1 c1,.slc x2 l2 c2] h
theorem v124 (x0:List Value)(x1:Option Addr)(l1 c1:Nat)(h:∀H' p,New H x0 25 H' p->∃cs:List Value,cs.length=2/\RdL H' p 0 cs/\Ru 198 [.agg cs.toArray] H' fun r H'=>∃a l c n,r=.tuple #[.slice a l c,.i n]/\(¬n=0->R (.tuple #[.slice none 0 0,.i n]) H')/\(¬¬n=0->∃n,rd H' p 0=some (.i n)/\(n<(↑l1:Int)->R (.tuple #[.slice none 0 0,.i 10]) H')/\(¬n<(↑l1:Int)->∃n,rd H' p 0=some (.i n)/\((0:Int)<=n/\n<=n/\(16:Int)*n<=(281474976710656:Int)/\I64 n)/\∀H'_1 q,New H' (rep (n.toNat) [.int .u64 0,.int .u64 0]) 203 H'_1 q->∃(J:Heap->Prop),(∃(I:Int->Heap->Prop),∃(μ:Int->Heap->Nat),I (0:Int) H'_1/\∀H n_1,I n_1 H->(n_1<(↑l1:Int)->∃b o,At x1 b o/\((0:Int)<=n_1/\n_1<(↑l1:Int))/\∃cs:List Value,cs.length=2/\RdL H b (o+n_1.toNat*2) cs/\∃b o,At (some ⟨q,0,none⟩) b o/\((0:Int)<=n_1/\n_1<(↑(n.toNat):Int))/\cs.length=2/\(∀v∈cs,One v)/\WOk H b (o+n_1.toNat*2) 2/\∀H',H'=wrL H b (o+n_1.toNat*2) cs->I64 (n_1+(1:Int))/\I (n_1+(1:Int)) H'/\μ (n_1+(1:Int)) H'<μ n_1 H)/\(¬n_1<(↑l1:Int)->J H))/\∀H,J H->∃(I:Int->Heap->Prop),∃(μ:Int->Heap->Nat),I (0:Int) H/\∀H n_1,I n_1 H->(n_1<(↑l:Int)->∃b o,At a b o/\((0:Int)<=n_1/\n_1<(↑l:Int))/\∃n_2,rd H b (o+n_1.toNat*5+1)=some (.i n_2)/\∃b_1 o_1,At a b_1 o_1/\((0:Int)<=n_1/\n_1<(↑l:Int))/\∃cs:List Value,cs.length=5/\RdL H b_1 (o_1+n_1.toNat*5) cs/\∃b_2 o_2,At a b_2 o_2/\((0:Int)<=n_1/\n_1<(↑l:Int))/\∃n_3,rd H b_2 (o_2+n_1.toNat*5+2)=some (.i n_3)/\∃b_3 o_3,At (some ⟨q,0,none⟩) b_3 o_3/\((0:Int)<=n_3/\n_3<(↑(n.toNat):Int))/\∃cs_1:List Value,cs_1.length=2/\RdL H b_3 (o_3+n_3.toNat*2) cs_1/\∃b_4 o_4,At a b_4 o_4/\((0:Int)<=n_1/\n_1<(↑l:Int))/\∃n_4,rd H b_4 (o_4+n_1.toNat*5+3)=some (.i n_4)/\∃b_5 o_5,At (some ⟨q,0,none⟩) b_5 o_5/\((0:Int)<=n_4/\n_4<(↑(n.toNat):Int))/\∃cs_2:List Value,cs_2.length=2/\RdL H b_5 (o_5+n_4.toNat*2) cs_2/\Ru 199 [.agg cs.toArray,.agg cs_1.toArray,.agg cs_2.toArray] H fun r H'=>∃cs:List Value,cs.length=2/\r=.agg cs.toArray/\rd H' b (o+n_1.toNat*5+1)=some (.i n_2)/\∃b o,At (some ⟨q,0,none⟩) b o/\((0:Int)<=n_2/\n_2<(↑(n.toNat):Int))/\cs.length=2/\(∀v∈cs,One v)/\WOk H' b (o+Int.toNat n_2*2) 2/\∀H'_2,H'_2=wrL H' b (o+n_2.toNat*2) cs->I64 (n_1+(1:Int))/\I (n_1+(1:Int)) H'_2/\μ (n_1+(1:Int)) H'_2<μ n_1 H)/\(¬n_1<(↑l:Int)->R (.tuple #[.slice (some ⟨q,0,none⟩) (n.toNat) (n.toNat),.i 0]) H)))):Ru 124 [.agg x0.toArray,.slice x1 l1 c1] H R:=vcr ⟨fun|8=>some [(9,.int .i64)]|12=>some [(10,.int .i64)]|_=>none,fun|11=>some []|_=>none⟩ [.agg x0,.slc x1 l1 c1] h
theorem v196 (x0:List Value)(x1:List Value)(h:∀H' p,New H x0 25 H' p->∀H'_1 p_1,New H' x1 25 H'_1 p_1->∃(I:Int->Heap->Prop),∃(μ:Int->Heap->Nat),I (0:Int) H'_1/\∀H n,I n H->(n<(4:Int)->∃cs:List Value,cs.length=2/\RdL H p 0 cs/\Ru 247 [.agg cs.toArray,.i n] H fun r H'=>∃n_1,r=.i n_1/\(¬n_1=0->R (.i n_1) H')/\(¬¬n_1=0->∃cs:List Value,cs.length=2/\RdL H' p_1 0 cs/\Ru 247 [.agg cs.toArray,.i n] H' fun r H'=>∃n_2,r=.i n_2/\(¬n_2=0->R (.i n_2) H')/\(¬¬n_2=0->I64 (n+(1:Int))/\I (n+(1:Int)) H'/\μ (n+(1:Int)) H'<μ n H)))/\(¬n<(4:Int)->R (.i 0) H)):Ru 196 [.agg x0.toArray,.agg x1.toArray] H R:=vcr ⟨fun|2=>some [(5,.int .i64)]|_=>none,fun _=>none⟩ [.agg x0,.agg x1] h
theorem v197 (x0:List Value)(x1:List Value)(x2:Int)(x3:Int)(h:∀H' p,New H x0 25 H' p->∀H'_1 p_1,New H' x1 25 H'_1 p_1->∃(J:Heap->Prop),((x2<(1:Int)->R (.i 10) H'_1)/\(¬x2<(1:Int)->((64:Int)<x2->R (.i 10) H'_1)/\(¬(64:Int)<x2->(x3<(0:Int)->R (.i 10) H'_1)/\(¬x3<(0:Int)->((64:Int)<x3->R (.i 10) H'_1)/\(¬(64:Int)<x3->J H'_1)))))/\∀H,J H->∃n,rd H p 0=some (.i n)/\I64 (x2+x3)/\I64 (x2+x3+(1:Int))/\(n<x2+x3+(1:Int)->R (.i 10) H)/\(¬n<x2+x3+(1:Int)->∃n,rd H p_1 0=some (.i n)/\I64 (x2+x3)/\(n<x2+x3->R (.i 10) H)/\(¬n<x2+x3->R (.i 0) H))):Ru 197 [.agg x0.toArray,.agg x1.toArray,.i x2,.i x3] H R:=vcr ⟨fun _=>none,fun|3=>some []|_=>none⟩ [.agg x0,.agg x1,.int .i64 x2,.int .i64 x3] h
theorem v198 (x0:List Value)(h:∀H' p,New H x0 25 H' p->∃cs:List Value,cs.length=2/\RdL H' p 0 cs/\Ru 248 [.agg cs.toArray] H' fun r H'=>∃n,r=.i n/\(¬n=0->R (.tuple #[.slice none 0 0,.i n]) H')/\(¬¬n=0->∃a l c,rd H' p 1=some (.slice a l c)/\Ru 249 [.slice a l c] H' fun r H'=>∃a l c,r=.slice a l c/\Ru 250 [.slice a l c] H' fun r H'=>∃a_1 l_1 c_1 n,r=.tuple #[.slice a_1 l_1 c_1,.i n]/\Ru 251 [.slice a l c,.slice a_1 l_1 c_1,.i 0,.i (↑l:Int)] H' fun r H'=>∃a l c n,r=.tuple #[.slice a l c,.i n]/\R (.tuple #[.slice a l c,.i 0]) H')):Ru 198 [.agg x0.toArray] H R:=vcr nn [.agg x0] h
theorem v199 (x0:List Value)(x1:List Value)(x2:List Value)(h:∀H' p,New H x0 74 H' p->∀H'_1 p_1,New H' x1 203 H'_1 p_1->∀H' p_2,New H'_1 x2 203 H' p_2->∀H'_2 p_3,New H' [.int .u64 0,.int .u64 0] 203 H'_2 p_3->∃n,rd H'_2 p 0=some (.i n)/\(n=1->∃(cs:List Value),cs.length=2/\RdL H'_2 p_1 0 cs/\∃cs_1:List Value,cs_1.length=2/\RdL H'_2 p_2 0 cs_1/\Ru 252 [.agg cs.toArray,.agg cs_1.toArray] H'_2 fun r H'=>∃(cs:List Value),cs.length=2/\r=.agg cs.toArray/\cs.length=2/\(∀v∈cs,One v)/\WOk H' p_3 0 2/\∀H'_3,H'_3=wrL H' p_3 0 cs->∃cs:List Value,cs.length=2/\RdL H'_3 p_3 0 cs/\R (.agg cs.toArray) H'_3)/\(¬n=1->(n=2->∃cs:List Value,cs.length=2/\RdL H'_2 p_1 0 cs/\∃cs_1:List Value,cs_1.length=2/\RdL H'_2 p_2 0 cs_1/\Ru 253 [.agg cs_1.toArray] H'_2 fun r H'=>∃cs_2:List Value,cs_2.length=2/\r=.agg cs_2.toArray/\RdL H' p_1 0 cs/\Ru 252 [.agg cs.toArray,.agg cs_2.toArray] H' fun r H'=>∃(cs:List Value),cs.length=2/\r=.agg cs.toArray/\cs.length=2/\(∀v∈cs,One v)/\WOk H' p_3 0 2/\∀H'_3,H'_3=wrL H' p_3 0 cs->∃cs:List Value,cs.length=2/\RdL H'_3 p_3 0 cs/\R (.agg cs.toArray) H'_3)/\(¬n=2->(n=3->∃cs:List Value,cs.length=2/\RdL H'_2 p_1 0 cs/\∃cs_1:List Value,cs_1.length=2/\RdL H'_2 p_2 0 cs_1/\Ru 254 [.agg cs.toArray,.agg cs_1.toArray] H'_2 fun r H'=>∃cs:List Value,cs.length=2/\r=.agg cs.toArray/\cs.length=2/\(∀v∈cs,One v)/\WOk H' p_3 0 2/\∀H'_3,H'_3=wrL H' p_3 0 cs->∃cs:List Value,cs.length=2/\RdL H'_3 p_3 0 cs/\R (.agg cs.toArray) H'_3)/\(¬n=3->(n=4->∃cs:List Value,cs.length=2/\RdL H'_2 p_1 0 cs/\Ru 253 [.agg cs.toArray] H'_2 fun r H'=>∃cs:List Value,cs.length=2/\r=.agg cs.toArray/\cs.length=2/\(∀v∈cs,One v)/\WOk H' p_3 0 2/\∀H'_3,H'_3=wrL H' p_3 0 cs->∃cs:List Value,cs.length=2/\RdL H'_3 p_3 0 cs/\R (.agg cs.toArray) H'_3)/\(¬n=4->(n=5->∃x,rd H'_2 p 4=some (.u x)/\List.length (α:=Value) [.u x,.int .u64 0]=2/\(∀v∈[.u x,.int .u64 0],One v)/\WOk H'_2 p_3 0 2/\∀H',H'=wrL H'_2 p_3 0 [.int .u64 (↑(UInt64.toNat x):Int),.int .u64 0]->∃cs:List Value,cs.length=2/\RdL H' p_3 0 cs/\R (.agg cs.toArray) H')/\(¬n=5->∃cs:List Value,cs.length=2/\RdL H'_2 p_1 0 cs/\cs.length=2/\(∀(v:Value),v∈cs->One v)/\WOk H'_2 p_3 0 2/\∀H',H'=wrL H'_2 p_3 0 cs->∃cs:List Value,cs.length=2/\RdL H' p_3 0 cs/\R (.agg cs.toArray) H')))))):Ru 199 [.agg x0.toArray,.agg x1.toArray,.agg x2.toArray] H R:=vcr nn [.agg x0,.agg x1,.agg x2] h
theorem v247 (x0:List Value)(x1:Int)(h:∀H' p,New H x0 25 H' p->(x1=(0:Int)->∃cs:List Value,cs.length=2/\RdL H' p 0 cs/\Ru 319 [.agg cs.toArray] H' fun r H'=>∃c,r=.bool c/\((!c)=true->R (.i 6) H')/\((!c)=false->R (.i 0) H'))/\(¬x1=(0:Int)->(x1=(1:Int)->∃cs:List Value,cs.length=2/\RdL H' p 0 cs/\Ru 320 [.agg cs.toArray] H' fun r H'=>∃c,r=.bool c/\((!c)=true->R (.i 7) H')/\((!c)=false->R (.i 0) H'))/\(¬x1=(1:Int)->(x1=(2:Int)->∃a l c,rd H' p 1=some (.slice a l c)/\Ru 321 [.slice a l c] H' fun r H'=>∃n n_1,r=.tuple #[.i n,.i n_1]/\((8:Int)<n->R (.i 8) H')/\(¬(8:Int)<n->R (.i 0) H'))/\(¬x1=(2:Int)->∃a l c,rd H' p 1=some (.slice a l c)/\Ru 322 [.slice a l c] H' fun r H'=>∃n n_1,r=.tuple #[.i n,.i n_1]/\R (.i n_1) H')))):Ru 247 [.agg x0.toArray,.i x1] H R:=vcr nn [.agg x0,.int .i64 x1] h
theorem v248 (x0:List Value)(h:∀H' p,New H x0 25 H' p->∃(I:Int->Heap->Prop),∃(μ:Int->Heap->Nat),I (0:Int) H'/\∀H n,I n H->(n<(4:Int)->∃cs:List Value,cs.length=2/\RdL H p 0 cs/\Ru 247 [.agg cs.toArray,.i n] H fun r H'=>∃n_1,r=.i n_1/\(¬n_1=0->R (.i n_1) H')/\(¬¬n_1=0->I64 (n+(1:Int))/\I (n+(1:Int)) H'/\μ (n+(1:Int)) H'<μ n H))/\(¬n<(4:Int)->R (.i 0) H)):Ru 248 [.agg x0.toArray] H R:=vcr ⟨fun|2=>some [(3,.int .i64)]|_=>none,fun _=>none⟩ [.agg x0] h
theorem v249 (x0:Option Addr)(l0 c0:Nat)(h:Ru 250 [.slice x0 l0 c0] H fun r H'=>∃a l c n,r=.tuple #[.slice a l c,.i n]/\Ru 323 [.slice x0 l0 c0] H' fun r H'=>∃a_1 l_1 c n,r=.tuple #[.slice a_1 l_1 c,.i n]/\∀H'_1 q,New H' [] 74 H'_1 q->∃(I:Option Addr->Nat->Nat->Int->Heap->Prop),∃(μ:Option Addr->Nat->Nat->Int->Heap->Nat),I (some ⟨q,0,none⟩) 0 0 (0:Int) H'_1/\∀H a_3 l_2 c n,I a_3 l_2 c n H->(n<(↑l0:Int)->∃b o,At x0 b o/\((0:Int)<=n/\n<(↑l0:Int))/\∃n_1,rd H b (o+n.toNat*5)=some (.i n_1)/\(n_1=7->∃b o,At a_1 b o/\((0:Int)<=n/\n<(↑l_1:Int))/\∃n_2,rd H b (o+n.toNat)=some (.i n_2)/\(n_2=0->∃b o,At a b o/\((0:Int)<=n/\n<(↑l:Int))/\∃n_3,rd H b (o+n.toNat)=some (.i n_3)/\I64 (n_3+(1:Int))/\I a_3 l_2 c (n_3+(1:Int)) H/\μ a_3 l_2 c (n_3+(1:Int)) H<μ a_3 l_2 c n H)/\(¬n_2=0->∃b o,At x0 b o/\((0:Int)<=n/\n<(↑l0:Int))/\∃cs:List Value,cs.length=5/\RdL H b (o+n.toNat*5) cs/\cs.length=5/\∀H' q,New H (cs++[]) 74 H' q->∃new,new.length=5/\SlL H' (some ⟨q,0,none⟩) new/\App 5 40 74 [.i 0,.i 0,.i 0,.i 0,.int .u64 0] H' a_3 l_2 c 1 new fun a' l' c' H'=>I64 (n+(1:Int))/\I a' l' c' (n+(1:Int)) H'/\μ a' l' c' (n+(1:Int)) H'<μ a_3 l_2 c n H))/\(¬n_1=7->∃b o,At x0 b o/\((0:Int)<=n/\n<(↑l0:Int))/\∃cs:List Value,cs.length=5/\RdL H b (o+n.toNat*5) cs/\cs.length=5/\∀H' q,New H (cs++[]) 74 H' q->∃new,new.length=5/\SlL H' (some ⟨q,0,none⟩) new/\App 5 40 74 [.i 0,.i 0,.i 0,.i 0,.int .u64 0] H' a_3 l_2 c 1 new fun a' l' c' H'=>I64 (n+(1:Int))/\I a' l' c' (n+(1:Int)) H'/\μ a' l' c' (n+(1:Int)) H'<μ a_3 l_2 c n H))/\(¬n<(↑l0:Int)->R (.slice a_3 l_2 c) H)):Ru 249 [.slice x0 l0 c0] H R:=vcr ⟨fun|5=>some [(7,.slc),(8,.int .i64)]|_=>none,fun _=>none⟩ [.slc x0 l0 c0] h
theorem v250 (x0:Option Addr)(l0 c0:Nat)(h:Ru 324 [.slice x0 l0 c0] H fun r H'=>∃c,r=.bool c/\((!c)=true->R (.tuple #[.slice none 0 0,.i 6]) H')/\((!c)=false->∀H'_1 q,New H' [] 3 H'_1 q->∃(J:Option Addr->Nat->Nat->Heap->Prop),(∃(I:Option Addr->Nat->Nat->Int->Heap->Prop),∃(μ:Option Addr->Nat->Nat->Int->Heap->Nat),I (some ⟨q,0,none⟩) 0 0 (0:Int) H'_1/\∀H a l c n,I a l c n H->(n<(↑l0:Int)->∀H' q,New H [.i (-1)] 3 H' q->∃new,new.length=1/\SlL H' (some ⟨q,0,none⟩) new/\App 1 8 3 [.i 0] H' a l c 1 new fun a' l' c' H'=>I64 (n+(1:Int))/\I a' l' c' (n+(1:Int)) H'/\μ a' l' c' (n+(1:Int)) H'<μ a l c n H)/\(¬n<(↑l0:Int)->J a l c H))/\∀H a l c,J a l c H->∃(I:Int->Heap->Prop),∃(μ:Int->Heap->Nat),I (0:Int) H/\∀H n,I n H->(n<(↑l0:Int)->∃b o,At x0 b o/\((0:Int)<=n/\n<(↑l0:Int))/\∃n_1,rd H b (o+n.toNat*5)=some (.i n_1)/\(¬n_1=7->I64 (n+(1:Int))/\I (n+(1:Int)) H/\μ (n+(1:Int)) H<μ n H)/\(¬¬n_1=7->∃(I_1:Int->Int->Heap->Prop),∃(μ_1:Int->Int->Heap->Nat),I_1 (1:Int) n H/\∀H_1 n_2 n_3,I_1 n_2 n_3 H_1->((0:Int)<n_2->I64 (n_3+(1:Int))/\∃b o,At x0 b o/\((0:Int)<=n_3+(1:Int)/\n_3+(1:Int)<(↑l0:Int))/\∃n,rd H_1 b (o+Int.toNat (n_3+(1:Int))*5)=some (.i n)/\(n=7->I64 (n_2+(1:Int))/\∃b o,At x0 b o/\((0:Int)<=n_3+(1:Int)/\n_3+(1:Int)<(↑l0:Int))/\∃n,rd H_1 b (o+Int.toNat (n_3+(1:Int))*5)=some (.i n)/\(n=0->I64 (n_2+(1:Int)-(1:Int))/\I_1 (n_2+(1:Int)-(1:Int)) (n_3+(1:Int)) H_1/\μ_1 (n_2+(1:Int)-(1:Int)) (n_3+(1:Int)) H_1<μ_1 n_2 n_3 H_1)/\(¬n=0->I_1 (n_2+(1:Int)) (n_3+(1:Int)) H_1/\μ_1 (n_2+(1:Int)) (n_3+(1:Int)) H_1<μ_1 n_2 n_3 H_1))/\(¬n=7->∃b o,At x0 b o/\((0:Int)<=n_3+(1:Int)/\n_3+(1:Int)<(↑l0:Int))/\∃n,rd H_1 b (o+Int.toNat (n_3+(1:Int))*5)=some (.i n)/\(n=0->I64 (n_2-(1:Int))/\I_1 (n_2-(1:Int)) (n_3+(1:Int)) H_1/\μ_1 (n_2-(1:Int)) (n_3+(1:Int)) H_1<μ_1 n_2 n_3 H_1)/\(¬n=0->I_1 n_2 (n_3+(1:Int)) H_1/\μ_1 n_2 (n_3+(1:Int)) H_1<μ_1 n_2 n_3 H_1)))/\(¬(0:Int)<n_2->∃b o,At a b o/\((0:Int)<=n/\n<(↑l:Int))/\WOk H_1 b (o+Int.toNat n) 1/\∀H',H'=wr H_1 b (o+n.toNat) (.i n_3)->∃b o,At a b o/\((0:Int)<=n_3/\n_3<(↑l:Int))/\WOk H' b (o+n_3.toNat) 1/\∀H'_2,H'_2=wr H' b (o+n_3.toNat) (.i n)->I64 (n+(1:Int))/\I (n+(1:Int)) H'_2/\μ (n+(1:Int)) H'_2<μ n H)))/\(¬n<(↑l0:Int)->R (.tuple #[.slice a l c,.i 0]) H))):Ru 250 [.slice x0 l0 c0] H R:=vcr ⟨fun|5=>some [(4,.slc),(5,.int .i64)]|9=>some [(6,.int .i64)]|14=>some [(7,.int .i64),(8,.int .i64)]|_=>none,fun|8=>some [(4,.slc)]|_=>none⟩ [.slc x0 l0 c0] h
theorem v251 (x0:Option Addr)(l0 c0:Nat)(x1:Option Addr)(l1 c1:Nat)(x2:Int)(x3:Int)(h:∀H' q,New H [] 74 H' q->∃(I:Option Addr->Nat->Nat->Int->Int->Heap->Prop),∃(μ:Option Addr->Nat->Nat->Int->Int->Heap->Nat),I (some ⟨q,0,none⟩) 0 0 (0:Int) x2 H'/\∀H a l c n n_1,I a l c n n_1 H->(n_1<x3->I64 (n+(1:Int))/\∃b o,At x0 b o/\((0:Int)<=n_1/\n_1<(↑l0:Int))/\∃n_2,rd H b (o+n_1.toNat*5)=some (.i n_2)/\(¬n_2=7->∃b o,At x0 b o/\((0:Int)<=n_1/\n_1<(↑l0:Int))/\∃cs:List Value,cs.length=5/\RdL H b (o+n_1.toNat*5) cs/\cs.length=5/\∀H' q,New H (cs++[]) 74 H' q->∃new,new.length=5/\SlL H' (some ⟨q,0,none⟩) new/\App 5 40 74 [.i 0,.i 0,.i 0,.i 0,.int .u64 0] H' a l c 1 new fun a' l' c' H'=>I64 (n_1+(1:Int))/\I a' l' c' (n+(1:Int)) (n_1+(1:Int)) H'/\μ a' l' c' (n+(1:Int)) (n_1+(1:Int)) H'<μ a l c n n_1 H)/\(¬¬n_2=7->I64 (n_1+(1:Int))/\∃b o,At x1 b o/\((0:Int)<=n_1/\n_1<(↑l1:Int))/\∃n_3,rd H b (o+n_1.toNat)=some (.i n_3)/\Ru 251 [.slice x0 l0 c0,.slice x1 l1 c1,.i (n_1+(1:Int)),.i n_3] H fun r H'=>∃a_4 l_1 c_1 n_4,r=.tuple #[.slice a_4 l_1 c_1,.i n_4]/\∃(I_1:Option Addr->Nat->Nat->Int->UInt64->Heap->Prop),∃(μ_1:Option Addr->Nat->Nat->Int->UInt64->Heap->Nat),I_1 a l c (n+(1:Int)) (UInt64.ofNat (nat_lit 0)) H'/\∀H_1 a_5 l_2 c_2 n_5 x,I_1 a_5 l_2 c_2 n_5 x H_1->∃b o,At x0 b o/\((0:Int)<=n_1/\n_1<(↑l0:Int))/\∃x_1,rd H_1 b (o+n_1.toNat*5+4)=some (.u x_1)/\(x<x_1->∃new,new.length=l_1*5/\SlL H_1 a_4 new/\App 5 40 74 [.i 0,.i 0,.i 0,.i 0,.int .u64 0] H_1 a_5 l_2 c_2 l_1 new fun a' l' c' H'=>I64 (n_5+n_4)/\I64 (n_5+n_4+(1:Int))/\I_1 a' l' c' (n_5+n_4+(1:Int)) (x+UInt64.ofNat (nat_lit 1)) H'/\μ_1 a' l' c' (n_5+n_4+(1:Int)) (x+UInt64.ofNat (nat_lit 1)) H'<μ_1 a_5 l_2 c_2 n_5 x H_1)/\(¬x<x_1->∃b o,At x1 b o/\((0:Int)<=n_1/\n_1<(↑l1:Int))/\∃n_6,rd H_1 b (o+n_1.toNat)=some (.i n_6)/\I64 (n_6+(1:Int))/\I a_5 l_2 c_2 n_5 (n_6+(1:Int)) H_1/\μ a_5 l_2 c_2 n_5 (n_6+(1:Int)) H_1<μ a l c n n_1 H)))/\(¬n_1<x3->R (.tuple #[.slice a l c,.i n]) H)):Ru 251 [.slice x0 l0 c0,.slice x1 l1 c1,.i x2,.i x3] H R:=vcr ⟨fun|4=>some [(10,.slc),(11,.int .i64),(12,.int .i64)]|11=>some [(10,.slc),(11,.int .i64),(15,.u64)]|_=>none,fun _=>none⟩ [.slc x0 l0 c0,.slc x1 l1 c1,.int .i64 x2,.int .i64 x3] h
theorem v252 (x0:List Value)(x1:List Value)(h:∀H' p,New H x0 203 H' p->∀H'_1 p_1,New H' x1 203 H'_1 p_1->∀H' p_2,New H'_1 [.int .u64 0,.int .u64 0] 203 H' p_2->∃x,rd H' p 0=some (.u x)/\∃x_1,rd H' p_1 0=some (.int .u64 (↑(UInt64.toNat x_1):Int))/\∃x_2,rd H' p 1=some (.u x_2)/\∃x_3,rd H' p_1 1=some (.u x_3)/\Ru 325 [.u x,.int .u64 (↑(UInt64.toNat x_1):Int)] H' fun r H'=>∃x,r=.u x/\rd H' p_1 1=some (.u x_3)/\rd H' p 1=some (.u x_2)/\Ru 325 [.u x_2,.u x_3] H' fun r H'=>∃x_4,r=.u x_4/\List.length (α:=Value) [.u x,.int .u64 (↑(UInt64.toNat x_4):Int)]=2/\(∀v∈[.u x,.u x_4],One v)/\WOk H' p_2 0 2/\∀H'_2,H'_2=wrL H' p_2 0 [.int .u64 (↑(UInt64.toNat x):Int),.u x_4]->∃cs:List Value,cs.length=2/\RdL H'_2 p_2 0 cs/\R (.agg cs.toArray) H'_2):Ru 252 [.agg x0.toArray,.agg x1.toArray] H R:=vcr nn [.agg x0,.agg x1] h
theorem v253 (x0:List Value)(h:∀H' p,New H x0 203 H' p->∀H'_1 p_1,New H' [.int .u64 0,.int .u64 0] 203 H'_1 p_1->∃x,rd H'_1 p 0=some (.u x)/\∃x_1,rd H'_1 p 1=some (.u x_1)/\Ru 326 [.u x] H'_1 fun r H'=>∃x,r=.u x/\rd H' p 1=some (.u x_1)/\Ru 326 [.u x_1] H' fun r H'=>∃x_2,r=.u x_2/\List.length (α:=Value) [.u x,.u x_2]=2/\(∀v∈[.int .u64 (↑(UInt64.toNat x):Int),.u x_2],One v)/\WOk H' p_1 0 2/\∀H'_2,H'_2=wrL H' p_1 0 [.u x,.u x_2]->∃cs:List Value,cs.length=2/\RdL H'_2 p_1 0 cs/\R (.agg cs.toArray) H'_2):Ru 253 [.agg x0.toArray] H R:=vcr nn [.agg x0] h
theorem v254 (x0:List Value)(x1:List Value)(h:∀H' p,New H x0 203 H' p->∀H'_1 p_1,New H' x1 203 H'_1 p_1->∀H' p_2,New H'_1 [.int .u64 0,.int .u64 0] 203 H' p_2->∃x,rd H' p 0=some (.u x)/\∃x_1,rd H' p_1 1=some (.int .u64 (↑(UInt64.toNat x_1):Int))/\∃x_2,rd H' p 1=some (.u x_2)/\∃x_3,rd H' p_1 0=some (.u x_3)/\Ru 327 [.u x,.int .u64 (↑(UInt64.toNat x_1):Int)] H' fun r H'=>∃x,r=.u x/\rd H' p_1 0=some (.u x_3)/\rd H' p 1=some (.u x_2)/\Ru 327 [.u x_2,.u x_3] H' fun r H'=>∃x_4,r=.u x_4/\Ru 325 [.u x,.int .u64 (↑(UInt64.toNat x_4):Int)] H' fun r H'=>∃x,r=.u x/\∃x_5,rd H' p 0=some (.u x_5)/\∃x_6,rd H' p_1 0=some (.u x_6)/\Ru 327 [.int .u64 (↑(UInt64.toNat x_5):Int),.u x_6] H' fun r H'=>∃x_7,r=.u x_7/\List.length (α:=Value) [.u x_7,.int .u64 (↑(UInt64.toNat x):Int)]=2/\(∀v∈[.u x_7,.u x],One v)/\WOk H' p_2 0 2/\∀H'_2,H'_2=wrL H' p_2 0 [.int .u64 (↑(UInt64.toNat x_7):Int),.u x]->∃cs:List Value,cs.length=2/\RdL H'_2 p_2 0 cs/\R (.agg cs.toArray) H'_2):Ru 254 [.agg x0.toArray,.agg x1.toArray] H R:=vcr nn [.agg x0,.agg x1] h
theorem v319 (x0:List Value)(h:∀H' p,New H x0 25 H' p->∃a l c,rd H' p 1=some (.slice a l c)/\((4096:Int)<(↑l:Int)->R (.bool false) H')/\(¬(4096:Int)<(↑l:Int)->∃a l c,rd H' p 1=some (.slice a l c)/\Ru 324 [.slice a l c] H' fun r H'=>∃c,r=.bool c/\((!c)=true->R (.bool false) H')/\((!c)=false->∃(I:Int->Heap->Prop),∃(μ:Int->Heap->Nat),I (0:Int) H'/\∀H n,I n H->∃a l c,rd H p 1=some (.slice a l c)/\(n<(↑l:Int)->∃a l c,rd H p 1=some (.slice a l c)/\∃b o,At a b o/\((0:Int)<=n/\n<(↑l:Int))/\∃cs:List Value,cs.length=5/\RdL H b (o+n.toNat*5) cs/\Ru 355 [.agg cs.toArray] H fun r H'=>∃c,r=.bool c/\((!c)=true->R (.bool false) H')/\((!c)=false->I64 (n+(1:Int))/\I (n+(1:Int)) H'/\μ (n+(1:Int)) H'<μ n H))/\(¬n<(↑l:Int)->R (.bool true) H)))):Ru 319 [.agg x0.toArray] H R:=vcr ⟨fun|4=>some [(3,.int .i64)]|_=>none,fun _=>none⟩ [.agg x0] h
theorem v320 (x0:List Value)(h:∀H' p,New H x0 25 H' p->∃(J:Heap->Prop),(∃n,rd H' p 0=some (.i n)/\(n<(1:Int)->R (.bool false) H')/\(¬n<(1:Int)->∃n,rd H' p 0=some (.i n)/\((64:Int)<n->R (.bool false) H')/\(¬(64:Int)<n->J H')))/\∀H,J H->∃(I:Int->Heap->Prop),∃(μ:Int->Heap->Nat),I (0:Int) H/\∀H n,I n H->∃a l c,rd H p 1=some (.slice a l c)/\(n<(↑l:Int)->∃a l c,rd H p 1=some (.slice a l c)/\∃b o,At a b o/\((0:Int)<=n/\n<(↑l:Int))/\∃cs:List Value,cs.length=5/\RdL H b (o+n.toNat*5) cs/\∀H' p_1,New H [.i 0,.i 0,.i 0,.i 0,.int .u64 0] 74 H' p_1->cs.length=5/\(∀v∈cs,One v)/\WOk H' p_1 0 5/\∀H'_1,H'_1=wrL H' p_1 0 cs->∃n_1,rd H'_1 p_1 0=some (.i n_1)/\Ru 356 [.i n_1] H'_1 fun r H'=>∃(cs:List Value),cs.length=4/\r=.agg cs.toArray/\∀H'_2 p_2,New H' [.bool false,.bool false,.bool false,.bool false] 411 H'_2 p_2->cs.length=4/\(∀v∈cs,One v)/\WOk H'_2 p_2 0 4/\∀H',H'=wrL H'_2 p_2 0 cs->((0:Int)<=(0:Int)/\(0:Int)<(4:Int))/\∃c,rd H' p_2 0=some (.bool c)/\(c=true->∃n_2,rd H' p_1 1=some (.i n_2)/\∃n_3,rd H' p 0=some (.i n_3)/\(n_3<=n_2->R (.bool false) H')/\(¬n_3<=n_2->((0:Int)<=(1:Int)/\(1:Int)<(4:Int))/\∃c,rd H' p_2 1=some (.bool c)/\(c=true->∃n_4,rd H' p_1 2=some (.i n_4)/\∃n_5,rd H' p 0=some (.int .i64 n_5)/\(n_5<=n_4->R (.bool false) H')/\(¬n_5<=n_4->((0:Int)<=(2:Int)/\(2:Int)<(4:Int))/\∃c,rd H' p_2 2=some (.bool c)/\(c=true->∃n_6,rd H' p_1 3=some (.i n_6)/\∃n_7,rd H' p 0=some (.i n_7)/\(n_7<=n_6->R (.bool false) H')/\(¬n_7<=n_6->I64 (n+(1:Int))/\I (n+(1:Int)) H'/\μ (n+(1:Int)) H'<μ n H))/\(c=false->I64 (n+(1:Int))/\I (n+(1:Int)) H'/\μ (n+(1:Int)) H'<μ n H)))/\(c=false->((0:Int)<=(2:Int)/\(2:Int)<(4:Int))/\∃c,rd H' p_2 2=some (.bool c)/\(c=true->∃n_4,rd H' p_1 3=some (.i n_4)/\∃n_5,rd H' p 0=some (.i n_5)/\(n_5<=n_4->R (.bool false) H')/\(¬n_5<=n_4->I64 (n+(1:Int))/\I (n+(1:Int)) H'/\μ (n+(1:Int)) H'<μ n H))/\(c=false->I64 (n+(1:Int))/\I (n+(1:Int)) H'/\μ (n+(1:Int)) H'<μ n H))))/\(c=false->((0:Int)<=(1:Int)/\(1:Int)<(4:Int))/\∃c,rd H' p_2 1=some (.bool c)/\(c=true->∃n_2,rd H' p_1 2=some (.i n_2)/\∃n_3,rd H' p 0=some (.i n_3)/\(n_3<=n_2->R (.bool false) H')/\(¬n_3<=n_2->((0:Int)<=(2:Int)/\(2:Int)<(4:Int))/\∃c,rd H' p_2 2=some (.bool c)/\(c=true->∃n_4,rd H' p_1 3=some (.i n_4)/\∃n_5,rd H' p 0=some (.i n_5)/\(n_5<=n_4->R (.bool false) H')/\(¬n_5<=n_4->I64 (n+(1:Int))/\I (n+(1:Int)) H'/\μ (n+(1:Int)) H'<μ n H))/\(c=false->I64 (n+(1:Int))/\I (n+(1:Int)) H'/\μ (n+(1:Int)) H'<μ n H)))/\(c=false->((0:Int)<=(2:Int)/\(2:Int)<(4:Int))/\∃c,rd H' p_2 2=some (.bool c)/\(c=true->∃n_2,rd H' p_1 3=some (.i n_2)/\∃n_3,rd H' p 0=some (.i n_3)/\(n_3<=n_2->R (.bool false) H')/\(¬n_3<=n_2->I64 (n+(1:Int))/\I (n+(1:Int)) H'/\μ (n+(1:Int)) H'<μ n H))/\(c=false->I64 (n+(1:Int))/\I (n+(1:Int)) H'/\μ (n+(1:Int)) H'<μ n H))))/\(¬n<(↑l:Int)->R (.bool true) H)):Ru 320 [.agg x0.toArray] H R:=vcr ⟨fun|4=>some [(3,.int .i64)]|_=>none,fun|3=>some []|_=>none⟩ [.agg x0] h
theorem v321 (x0:Option Addr)(l0 c0:Nat)(h:Ru 324 [.slice x0 l0 c0] H fun r H'=>∃c,r=.bool c/\((!c)=true->R (.tuple #[.i 0,.i 6]) H')/\((!c)=false->∃(I:Int->Int->Heap->Prop),∃(μ:Int->Int->Heap->Nat),I (0:Int) (0:Int) H'/\∀H n n_1,I n n_1 H->(n_1<=(↑l0:Int)->Ru 357 [.slice x0 l0 c0,.i n_1] H fun r H'=>∃n_2,r=.i n_2/\I64 (n_1+(1:Int))/\I (maxI true n n_2) (n_1+(1:Int)) H'/\μ (maxI true n n_2) (n_1+(1:Int)) H'<μ n n_1 H)/\(¬n_1<=(↑l0:Int)->R (.tuple #[.i n,.i 0]) H))):Ru 321 [.slice x0 l0 c0] H R:=vcr ⟨fun|5=>some [(4,.int .i64),(5,.int .i64)]|_=>none,fun _=>none⟩ [.slc x0 l0 c0] h
theorem v322 (x0:Option Addr)(l0 c0:Nat)(h:Ru 250 [.slice x0 l0 c0] H fun r H'=>∃a l c n,r=.tuple #[.slice a l c,.i n]/\(¬n=0->R (.tuple #[.i 0,.i n]) H')/\(¬¬n=0->∃(I:Int->Heap->Prop),∃(μ:Int->Heap->Nat),I (0:Int) H'/\∀H n,I n H->(n<(↑l0:Int)->∃b o,At x0 b o/\((0:Int)<=n/\n<(↑l0:Int))/\∃n_1,rd H b (o+n.toNat*5)=some (.i n_1)/\(n_1=7->Ru 358 [.slice x0 l0 c0,.slice a l c,.i n] H fun r H'=>∃n_2,r=.i n_2/\((65536:Int)<n_2->R (.tuple #[.i 0,.i 9]) H')/\(¬(65536:Int)<n_2->I64 (n+(1:Int))/\∃b o,At a b o/\((0:Int)<=n/\n<(↑l:Int))/\∃n_3,rd H' b (o+n.toNat)=some (.i n_3)/\Ru 359 [.slice x0 l0 c0,.slice a l c,.i (n+(1:Int)),.i n_3] H' fun r H'=>∃n_4,r=.i n_4/\((65536:Int)<n_4->R (.tuple #[.i 0,.i 9]) H')/\(¬(65536:Int)<n_4->I64 (n+(1:Int))/\I (n+(1:Int)) H'/\μ (n+(1:Int)) H'<μ n H)))/\(¬n_1=7->I64 (n+(1:Int))/\I (n+(1:Int)) H/\μ (n+(1:Int)) H<μ n H))/\(¬n<(↑l0:Int)->Ru 359 [.slice x0 l0 c0,.slice a l c,.i 0,.i (↑l0:Int)] H fun r H'=>∃n,r=.i n/\((65536:Int)<n->R (.tuple #[.i 0,.i 9]) H')/\(¬(65536:Int)<n->R (.tuple #[.i n,.i 0]) H')))):Ru 322 [.slice x0 l0 c0] H R:=vcr ⟨fun|5=>some [(6,.int .i64)]|_=>none,fun _=>none⟩ [.slc x0 l0 c0] h
theorem v323 (x0:Option Addr)(l0 c0:Nat)(h:Ru 322 [.slice x0 l0 c0] H fun r H'=>∃n n_1,r=.tuple #[.i n,.i n_1]/\(¬n_1=0->R (.tuple #[.slice none 0 0,.i n_1]) H')/\(¬¬n_1=0->Ru 250 [.slice x0 l0 c0] H' fun r H'=>∃a l c n,r=.tuple #[.slice a l c,.i n]/\∀H'_1 q,New H' [] 3 H'_1 q->∃(I:Option Addr->Nat->Nat->Int->Heap->Prop),∃(μ:Option Addr->Nat->Nat->Int->Heap->Nat),I (some ⟨q,0,none⟩) 0 0 (0:Int) H'_1/\∀H a_2 l_1 c_1 n,I a_2 l_1 c_1 n H->(n<(↑l0:Int)->∃b o,At x0 b o/\((0:Int)<=n/\n<(↑l0:Int))/\∃n_2,rd H b (o+n.toNat*5)=some (.i n_2)/\(n_2=7->Ru 358 [.slice x0 l0 c0,.slice a l c,.i n] H fun r H'=>∃n_3,r=.i n_3/\∀H'_2 q,New H' [.i n_3] 3 H'_2 q->∃new,new.length=1/\SlL H'_2 (some ⟨q,0,none⟩) new/\App 1 8 3 [.i 0] H'_2 a_2 l_1 c_1 1 new fun a' l' c' H'=>I64 (n+(1:Int))/\I a' l' c' (n+(1:Int)) H'/\μ a' l' c' (n+(1:Int)) H'<μ a_2 l_1 c_1 n H)/\(¬n_2=7->∃b o,At x0 b o/\((0:Int)<=n/\n<(↑l0:Int))/\∃n_3,rd H b (o+n.toNat*5)=some (.i n_3)/\Ru 356 [.i n_3] H fun r H'=>∃cs:List Value,cs.length=4/\r=.agg cs.toArray/\((0:Int)<=(0:Int)/\(0:Int)<(4:Int))/\∃v,cs[0]?=some v/\∃c,v=.bool c/\(c=true->∀H'_2 q,New H' [.i 1] 3 H'_2 q->∃new,new.length=1/\SlL H'_2 (some ⟨q,0,none⟩) new/\App 1 8 3 [.i 0] H'_2 a_2 l_1 c_1 1 new fun a' l' c' H'=>I64 (n+(1:Int))/\I a' l' c' (n+(1:Int)) H'/\μ a' l' c' (n+(1:Int)) H'<μ a_2 l_1 c_1 n H)/\(c=false->∀H'_2 q,New H' [.i 0] 3 H'_2 q->∃new,new.length=1/\SlL H'_2 (some ⟨q,0,none⟩) new/\App 1 8 3 [.i 0] H'_2 a_2 l_1 c_1 1 new fun a' l' c' H'=>I64 (n+(1:Int))/\I a' l' c' (n+(1:Int)) H'/\μ a' l' c' (n+(1:Int)) H'<μ a_2 l_1 c_1 n H)))/\(¬n<(↑l0:Int)->R (.tuple #[.slice a_2 l_1 c_1,.i 0]) H))):Ru 323 [.slice x0 l0 c0] H R:=vcr ⟨fun|7=>some [(8,.slc),(9,.int .i64)]|_=>none,fun _=>none⟩ [.slc x0 l0 c0] h
theorem v324 (x0:Option Addr)(l0 c0:Nat)(h:∃(I:Int->Int->Heap->Prop),∃(μ:Int->Int->Heap->Nat),I (0:Int) (0:Int) H/\∀H n n_1,I n n_1 H->(n_1<(↑l0:Int)->∃(J:Heap->Prop),(∃b o,At x0 b o/\((0:Int)<=n_1/\n_1<(↑l0:Int))/\∃n,rd H b (o+n_1.toNat*5)=some (.i n)/\(n<(0:Int)->R (.bool false) H)/\(¬n<(0:Int)->∃b o,At x0 b o/\((0:Int)<=n_1/\n_1<(↑l0:Int))/\∃n,rd H b (o+n_1.toNat*5)=some (.i n)/\((7:Int)<n->R (.bool false) H)/\(¬(7:Int)<n->J H)))/\∀H_1,J H_1->∃b o,At x0 b o/\((0:Int)<=n_1/\n_1<(↑l0:Int))/\∃n_2,rd H_1 b (o+n_1.toNat*5)=some (.i n_2)/\(n_2=(7:Int)->I64 (n+(1:Int))/\∃b o,At x0 b o/\((0:Int)<=n_1/\n_1<(↑l0:Int))/\∃n_3,rd H_1 b (o+n_1.toNat*5)=some (.i n_3)/\(n_3=0->I64 (n+(1:Int)-(1:Int))/\(n+(1:Int)-(1:Int)<(0:Int)->R (.bool false) H_1)/\(¬n+(1:Int)-(1:Int)<(0:Int)->I64 (n_1+(1:Int))/\I (n+(1:Int)-(1:Int)) (n_1+(1:Int)) H_1/\μ (n+(1:Int)-(1:Int)) (n_1+(1:Int)) H_1<μ n n_1 H))/\(¬n_3=0->(n+(1:Int)<(0:Int)->R (.bool false) H_1)/\(¬n+(1:Int)<(0:Int)->I64 (n_1+(1:Int))/\I (n+(1:Int)) (n_1+(1:Int)) H_1/\μ (n+(1:Int)) (n_1+(1:Int)) H_1<μ n n_1 H)))/\(¬n_2=7->∃b o,At x0 b o/\((0:Int)<=n_1/\n_1<(↑l0:Int))/\∃n_3,rd H_1 b (o+n_1.toNat*5)=some (.i n_3)/\(n_3=0->I64 (n-(1:Int))/\(n-(1:Int)<(0:Int)->R (.bool false) H_1)/\(¬n-(1:Int)<(0:Int)->I64 (n_1+(1:Int))/\I (n-(1:Int)) (n_1+(1:Int)) H_1/\μ (n-(1:Int)) (n_1+(1:Int)) H_1<μ n n_1 H))/\(¬n_3=0->(n<(0:Int)->R (.bool false) H_1)/\(¬n<(0:Int)->I64 (n_1+(1:Int))/\I n (n_1+(1:Int)) H_1/\μ n (n_1+(1:Int)) H_1<μ n n_1 H))))/\(¬n_1<(↑l0:Int)->R (.bool (decide (n=0))) H)):Ru 324 [.slice x0 l0 c0] H R:=vcr ⟨fun|3=>some [(3,.int .i64),(4,.int .i64)]|_=>none,fun|7=>some []|_=>none⟩ [.slc x0 l0 c0] h
theorem v325 (x0:UInt64)(x1:UInt64)(h:Ru 360 [.u x0] H fun r H'=>∃cs:List Value,cs.length=8/\r=.agg cs.toArray/\∀H'_1 p,New H' [.i 0,.i 0,.i 0,.i 0,.i 0,.i 0,.i 0,.i 0] 416 H'_1 p->cs.length=8/\(∀v∈cs,One v)/\WOk H'_1 p 0 8/\∀H',H'=wrL H'_1 p 0 cs->Ru 360 [.u x1] H' fun r H'=>∃(cs:List Value),cs.length=8/\r=.agg cs.toArray/\∀H'_2 p_1,New H' [.i 0,.i 0,.i 0,.i 0,.i 0,.i 0,.i 0,.i 0] 416 H'_2 p_1->cs.length=8/\(∀v∈cs,One v)/\WOk H'_2 p_1 0 8/\∀H',H'=wrL H'_2 p_1 0 cs->∃(I:Int->Heap->Prop),∃(μ:Int->Heap->Nat),I (0:Int) H'/\∀H n,I n H->(n<(8:Int)->((0:Int)<=n/\n<(8:Int))/\∃n_1,rd H p (0+n.toNat*1)=some (.i n_1)/\((0:Int)<=n/\n<(8:Int))/\∃n_2,rd H p_1 (0+n.toNat*1)=some (.i n_2)/\I64 (n_1+n_2)/\((0:Int)<=n/\n<(8:Int))/\WOk H p (0+n.toNat*1) 1/\∀H',H'=wr H p (0+n.toNat*1) (.i (n_1+n_2))->I64 (n+(1:Int))/\I (n+(1:Int)) H'/\μ (n+(1:Int)) H'<μ n H)/\(¬n<(8:Int)->∃cs:List Value,cs.length=8/\RdL H p 0 cs/\Ru 361 [.agg cs.toArray] H fun r H'=>∃x,r=.u x/\R (.u x) H')):Ru 325 [.u x0,.u x1] H R:=vcr ⟨fun|4=>some [(7,.int .i64)]|_=>none,fun _=>none⟩ [.u64 x0,.u64 x1] h
theorem v326 (x0:UInt64)(h:Ru 360 [.u x0] H fun r H'=>∃cs:List Value,cs.length=8/\r=.agg cs.toArray/\∀H'_1 p,New H' [.i 0,.i 0,.i 0,.i 0,.i 0,.i 0,.i 0,.i 0] 416 H'_1 p->cs.length=8/\(∀v∈cs,One v)/\WOk H'_1 p 0 8/\∀H',H'=wrL H'_1 p 0 cs->∃(I:Int->Heap->Prop),∃(μ:Int->Heap->Nat),I (0:Int) H'/\∀H n,I n H->(n<(8:Int)->((0:Int)<=n/\n<(8:Int))/\∃n_1,rd H p (0+n.toNat*1)=some (.i n_1)/\I64 ((255:Int)-n_1)/\((0:Int)<=n/\n<(8:Int))/\WOk H p (0+n.toNat*1) 1/\∀H',H'=wr H p (0+n.toNat*1) (.i ((255:Int)-n_1))->I64 (n+(1:Int))/\I (n+(1:Int)) H'/\μ (n+(1:Int)) H'<μ n H)/\(¬n<(8:Int)->((0:Int)<=(0:Int)/\(0:Int)<(8:Int))/\∃n,rd H p 0=some (.i n)/\I64 (n+(1:Int))/\((0:Int)<=(0:Int)/\(0:Int)<(8:Int))/\WOk H p 0 1/\∀H',H'=wr H p 0 (.i (n+(1:Int)))->∃cs:List Value,cs.length=8/\RdL H' p 0 cs/\Ru 361 [.agg cs.toArray] H' fun r H'=>∃x,r=.u x/\R (.u x) H')):Ru 326 [.u x0] H R:=vcr ⟨fun|3=>some [(4,.int .i64)]|_=>none,fun _=>none⟩ [.u64 x0] h
theorem v327 (x0:UInt64)(x1:UInt64)(h:Ru 360 [.u x0] H fun r H'=>∃cs:List Value,cs.length=8/\r=.agg cs.toArray/\∀H'_1 p,New H' [.i 0,.i 0,.i 0,.i 0,.i 0,.i 0,.i 0,.i 0] 416 H'_1 p->cs.length=8/\(∀v∈cs,One v)/\WOk H'_1 p 0 8/\∀H',H'=wrL H'_1 p 0 cs->Ru 360 [.u x1] H' fun r H'=>∃(cs:List Value),cs.length=8/\r=.agg cs.toArray/\∀H'_2 p_1,New H' [.i 0,.i 0,.i 0,.i 0,.i 0,.i 0,.i 0,.i 0] 416 H'_2 p_1->cs.length=8/\(∀v∈cs,One v)/\WOk H'_2 p_1 0 8/\∀H',H'=wrL H'_2 p_1 0 cs->∀H'_3 p_2,New H' [.i 0,.i 0,.i 0,.i 0,.i 0,.i 0,.i 0,.i 0] 416 H'_3 p_2->∃(I:Int->Heap->Prop),∃(μ:Int->Heap->Nat),I (0:Int) H'_3/\∀H n,I n H->(n<(8:Int)->∃(I_1:Int->Heap->Prop),∃(μ_1:Int->Heap->Nat),I_1 (0:Int) H/\∀H_1 n_1,I_1 n_1 H_1->I64 (n+n_1)/\(n+n_1<(8:Int)->I64 (n+n_1)/\I64 (n+n_1)/\((0:Int)<=n+n_1/\n+n_1<(8:Int))/\∃n_2,rd H_1 p_2 (0+Int.toNat (n+n_1)*1)=some (.i n_2)/\((0:Int)<=n/\n<(8:Int))/\∃n_3,rd H_1 p (0+n.toNat*1)=some (.i n_3)/\((0:Int)<=n_1/\n_1<(8:Int))/\∃n_4,rd H_1 p_1 (0+n_1.toNat*1)=some (.i n_4)/\I64 (n_3*n_4)/\I64 (n_2+n_3*n_4)/\((0:Int)<=n+n_1/\n+n_1<(8:Int))/\WOk H_1 p_2 (0+Int.toNat (n+n_1)*1) 1/\∀H',H'=wr H_1 p_2 (0+Int.toNat (n+n_1)*1) (.i (n_2+n_3*n_4))->I64 (n_1+(1:Int))/\I_1 (n_1+(1:Int)) H'/\μ_1 (n_1+(1:Int)) H'<μ_1 n_1 H_1)/\(¬n+n_1<(8:Int)->I64 (n+(1:Int))/\I (n+(1:Int)) H_1/\μ (n+(1:Int)) H_1<μ n H))/\(¬n<(8:Int)->∃cs:List Value,cs.length=8/\RdL H p_2 0 cs/\Ru 361 [.agg cs.toArray] H fun r H'=>∃x,r=.u x/\R (.u x) H')):Ru 327 [.u x0,.u x1] H R:=vcr ⟨fun|5=>some [(8,.int .i64)]|8=>some [(9,.int .i64)]|_=>none,fun _=>none⟩ [.u64 x0,.u64 x1] h
theorem v355 (x0:List Value)(h:∀H' p,New H x0 74 H' p->∃(J:Heap->Prop),(∃n,rd H' p 0=some (.i n)/\(n<(0:Int)->R (.bool false) H')/\(¬n<(0:Int)->∃n,rd H' p 0=some (.i n)/\((7:Int)<n->R (.bool false) H')/\(¬(7:Int)<n->J H')))/\∀H,J H->∃n,rd H p 0=some (.i n)/\Ru 356 [.i n] H fun r H'=>∃cs:List Value,cs.length=4/\r=.agg cs.toArray/\∀H'_1 p_1,New H' [.bool false,.bool false,.bool false,.bool false] 411 H'_1 p_1->cs.length=4/\(∀v∈cs,One v)/\WOk H'_1 p_1 0 4/\∀H',H'=wrL H'_1 p_1 0 cs->∃n,rd H' p 1=some (.i n)/\∃n_1,rd H' p 2=some (.i n_1)/\∃n_2,rd H' p 3=some (.i n_2)/\∀H'_2 p_2,New H' [.i 0,.i 0,.i 0] 425 H'_2 p_2->List.length (α:=Value) [.i n,.i n_1,.i n_2]=3/\(∀(v:Value),v∈[.i n,.i n_1,.i n_2]->One v)/\WOk H'_2 p_2 0 3/\∀H',H'=wrL H'_2 p_2 0 [.i n,.i n_1,.i n_2]->∃(I:Int->Heap->Prop),∃(μ:Int->Heap->Nat),I (0:Int) H'/\∀H n,I n H->(n<(3:Int)->((0:Int)<=n/\n<(3:Int))/\∃n_3,rd H p_2 (0+n.toNat*1)=some (.i n_3)/\(n_3<(0:Int)->R (.bool false) H)/\(¬n_3<(0:Int)->((0:Int)<=n/\n<(3:Int))/\∃n_4,rd H p_2 (0+n.toNat*1)=some (.i n_4)/\((2147483647:Int)<n_4->R (.bool false) H)/\(¬(2147483647:Int)<n_4->((0:Int)<=n/\n<(4:Int))/\∃c,rd H p_1 (0+n.toNat*1)=some (.bool c)/\((!c)=true->((0:Int)<=n/\n<(3:Int))/\∃n_5,rd H p_2 (0+n.toNat*1)=some (.i n_5)/\(¬n_5=0->R (.bool false) H)/\(¬¬n_5=0->I64 (n+(1:Int))/\I (n+(1:Int)) H/\μ (n+(1:Int)) H<μ n H))/\((!c)=false->I64 (n+(1:Int))/\I (n+(1:Int)) H/\μ (n+(1:Int)) H<μ n H))))/\(¬n<(3:Int)->((0:Int)<=(3:Int)/\(3:Int)<(4:Int))/\∃c,rd H p_1 3=some (.bool c)/\(c=true->R (.bool true) H)/\(c=false->∃x,rd H p 4=some (.u x)/\R (.bool (decide (x=UInt64.ofNat (nat_lit 0)))) H))):Ru 355 [.agg x0.toArray] H R:=vcr ⟨fun|6=>some [(5,.int .i64)]|_=>none,fun|3=>some []|_=>none⟩ [.agg x0] h
theorem v356 (x0:Int)(h:∀H' p,New H [.bool false,.bool false,.bool false,.bool false] 411 H' p->∃(J:Heap->Prop),(((1:Int)<=x0->(x0<=(3:Int)->4=4/\(∀(v:Value),v∈[.bool true,.bool true,.bool true,.bool false]->One v)/\WOk H' p 0 4/\∀H'_1,H'_1=wrL H' p 0 [.bool true,.bool true,.bool true,.bool false]->∃cs:List Value,cs.length=4/\RdL H'_1 p 0 cs/\R (.agg cs.toArray) H'_1)/\(¬x0<=(3:Int)->J H'))/\(¬(1:Int)<=x0->J H'))/\∀H,J H->(x0=(4:Int)->4=4/\(∀v∈[.bool true,.bool true,.bool false,.bool false],One v)/\WOk H p 0 4/\∀H',H'=wrL H p 0 [.bool true,.bool true,.bool false,.bool false]->∃cs:List Value,cs.length=4/\RdL H' p 0 cs/\R (.agg cs.toArray) H')/\(¬x0=(4:Int)->(x0=(6:Int)->4=4/\(∀v∈[.bool true,.bool true,.bool false,.bool false],One v)/\WOk H p 0 4/\∀H',H'=wrL H p 0 [.bool true,.bool true,.bool false,.bool false]->∃cs:List Value,cs.length=4/\RdL H' p 0 cs/\R (.agg cs.toArray) H')/\(¬x0=(6:Int)->(x0=(5:Int)->4=4/\(∀v∈[.bool true,.bool false,.bool false,.bool true],One v)/\WOk H p 0 4/\∀H',H'=wrL H p 0 [.bool true,.bool false,.bool false,.bool true]->∃(cs:List Value),cs.length=4/\RdL H' p 0 cs/\R (.agg cs.toArray) H')/\(¬x0=(5:Int)->(x0=(7:Int)->4=4/\(∀v∈[.bool false,.bool false,.bool false,.bool true],One v)/\WOk H p 0 4/\∀H',H'=wrL H p 0 [.bool false,.bool false,.bool false,.bool true]->∃cs:List Value,cs.length=4/\RdL H' p 0 cs/\R (.agg cs.toArray) H')/\(¬x0=(7:Int)->4=4/\(∀v∈[.bool false,.bool false,.bool false,.bool false],One v)/\WOk H p 0 4/\∀H',H'=wrL H p 0 [.bool false,.bool false,.bool false,.bool false]->∃cs:List Value,cs.length=4/\RdL H' p 0 cs/\R (.agg cs.toArray) H'))))):Ru 356 [.i x0] H R:=vcr ⟨fun _=>none,fun|3=>some []|_=>none⟩ [.int .i64 x0] h
theorem v357 (x0:Option Addr)(l0 c0:Nat)(x1:Int)(h:∃(I:Int->Int->Heap->Prop),∃(μ:Int->Int->Heap->Nat),I (0:Int) (0:Int) H/\∀H n n_1,I n n_1 H->(n_1<x1->∃b o,At x0 b o/\((0:Int)<=n_1/\n_1<(↑l0:Int))/\∃n_2,rd H b (o+n_1.toNat*5)=some (.i n_2)/\(n_2=7->I64 (n+(1:Int))/\∃b o,At x0 b o/\((0:Int)<=n_1/\n_1<(↑l0:Int))/\∃n_3,rd H b (o+n_1.toNat*5)=some (.i n_3)/\(n_3=0->I64 (n+(1:Int)-(1:Int))/\I64 (n_1+(1:Int))/\I (n+(1:Int)-(1:Int)) (n_1+(1:Int)) H/\μ (n+(1:Int)-(1:Int)) (n_1+(1:Int)) H<μ n n_1 H)/\(¬n_3=0->I64 (n_1+(1:Int))/\I (n+(1:Int)) (n_1+(1:Int)) H/\μ (n+(1:Int)) (n_1+(1:Int)) H<μ n n_1 H))/\(¬n_2=7->∃b o,At x0 b o/\((0:Int)<=n_1/\n_1<(↑l0:Int))/\∃n_3,rd H b (o+n_1.toNat*5)=some (.i n_3)/\(n_3=0->I64 (n-(1:Int))/\I64 (n_1+(1:Int))/\I (n-(1:Int)) (n_1+(1:Int)) H/\μ (n-(1:Int)) (n_1+(1:Int)) H<μ n n_1 H)/\(¬n_3=0->I64 (n_1+(1:Int))/\I n (n_1+(1:Int)) H/\μ n (n_1+(1:Int)) H<μ n n_1 H)))/\(¬n_1<x1->R (.i n) H)):Ru 357 [.slice x0 l0 c0,.i x1] H R:=vcr ⟨fun|3=>some [(5,.int .i64),(6,.int .i64)]|_=>none,fun _=>none⟩ [.slc x0 l0 c0,.int .i64 x1] h
theorem v358 (x0:Option Addr)(l0 c0:Nat)(x1:Option Addr)(l1 c1:Nat)(x2:Int)(h:I64 (x2+(1:Int))/\∃b o,At x1 b o/\((0:Int)<=x2/\x2<(↑l1:Int))/\∃n,rd H b (o+x2.toNat)=some (.i n)/\Ru 359 [.slice x0 l0 c0,.slice x1 l1 c1,.i (x2+(1:Int)),.i n] H fun r H'=>∃n,r=.i n/\∃(J:Heap->Prop),((n=0->R (.i 0) H')/\(¬n=0->∃b o,At x0 b o/\((0:Int)<=x2/\x2<(↑l0:Int))/\∃x,rd H' b (o+x2.toNat*5+4)=some (.u x)/\(x=UInt64.ofNat (nat_lit 0)->R (.i 0) H')/\(¬x=UInt64.ofNat (nat_lit 0)->J H')))/\∀H,J H->∃b o,At x0 b o/\((0:Int)<=x2/\x2<(↑l0:Int))/\∃x,rd H b (o+x2.toNat*5+4)=some (.u x)/\(UInt64.ofNat (nat_lit 65536)<x->R (.i 65537) H)/\(¬UInt64.ofNat (nat_lit 65536)<x->∃b o,At x0 b o/\((0:Int)<=x2/\x2<(↑l0:Int))/\∃x,rd H b (o+x2.toNat*5+4)=some (.u x)/\UInt64.toNat x<=9223372036854775807/\I64 (n*(↑(UInt64.toNat x):Int))/\((65536:Int)<n*(↑(UInt64.toNat x):Int)->R (.i 65537) H)/\(¬(65536:Int)<n*(↑(UInt64.toNat x):Int)->∃b o,At x0 b o/\((0:Int)<=x2/\x2<(↑l0:Int))/\∃x,rd H b (o+x2.toNat*5+4)=some (.u x)/\UInt64.toNat x<=9223372036854775807/\I64 (n*(↑(UInt64.toNat x):Int))/\R (.i (n*(↑(UInt64.toNat x):Int))) H))):Ru 358 [.slice x0 l0 c0,.slice x1 l1 c1,.i x2] H R:=vcr ⟨fun _=>none,fun|4=>some []|_=>none⟩ [.slc x0 l0 c0,.slc x1 l1 c1,.int .i64 x2] h
theorem v359 (x0:Option Addr)(l0 c0:Nat)(x1:Option Addr)(l1 c1:Nat)(x2:Int)(x3:Int)(h:∃(I:Int->Int->Heap->Prop),∃(μ:Int->Int->Heap->Nat),I (0:Int) x2 H/\∀H n n_1,I n n_1 H->(n_1<x3->∃b o,At x0 b o/\((0:Int)<=n_1/\n_1<(↑l0:Int))/\∃n_2,rd H b (o+n_1.toNat*5)=some (.i n_2)/\(n_2=7->Ru 358 [.slice x0 l0 c0,.slice x1 l1 c1,.i n_1] H fun r H'=>∃n_3,r=.i n_3/\I64 (n+n_3)/\∃b o,At x1 b o/\((0:Int)<=n_1/\n_1<(↑l1:Int))/\∃n_4,rd H' b (o+n_1.toNat)=some (.i n_4)/\((65536:Int)<n+n_3->R (.i 65537) H')/\(¬(65536:Int)<n+n_3->I64 (n_4+(1:Int))/\I (n+n_3) (n_4+(1:Int)) H'/\μ (n+n_3) (n_4+(1:Int)) H'<μ n n_1 H))/\(¬n_2=7->∃b o,At x0 b o/\((0:Int)<=n_1/\n_1<(↑l0:Int))/\∃n_3,rd H b (o+n_1.toNat*5)=some (.i n_3)/\Ru 356 [.i n_3] H fun r H'=>∃(cs:List Value),cs.length=4/\r=.agg cs.toArray/\((0:Int)<=(0:Int)/\(0:Int)<(4:Int))/\∃v,cs[0]?=some v/\∃c,v=.bool c/\(c=true->I64 (n+(1:Int))/\((65536:Int)<n+(1:Int)->R (.i 65537) H')/\(¬(65536:Int)<n+(1:Int)->I64 (n_1+(1:Int))/\I (n+(1:Int)) (n_1+(1:Int)) H'/\μ (n+(1:Int)) (n_1+(1:Int)) H'<μ n n_1 H))/\(c=false->((65536:Int)<n->R (.i 65537) H')/\(¬(65536:Int)<n->I64 (n_1+(1:Int))/\I n (n_1+(1:Int)) H'/\μ n (n_1+(1:Int)) H'<μ n n_1 H))))/\(¬n_1<x3->R (.i n) H)):Ru 359 [.slice x0 l0 c0,.slice x1 l1 c1,.i x2,.i x3] H R:=vcr ⟨fun|3=>some [(9,.int .i64),(10,.int .i64)]|_=>none,fun _=>none⟩ [.slc x0 l0 c0,.slc x1 l1 c1,.int .i64 x2,.int .i64 x3] h
theorem v360 (x0:UInt64)(h:∀H' p,New H [.i 0,.i 0,.i 0,.i 0,.i 0,.i 0,.i 0,.i 0] 416 H' p->∀H'_1 p_1,New H' [.i 0,.i 0,.i 0,.i 0,.i 0,.i 0,.i 0,.i 0] 416 H'_1 p_1->∃(I:UInt64->Int->Heap->Prop),∃(μ:UInt64->Int->Heap->Nat),I x0 (0:Int) H'_1/\∀H x n,I x n H->(n<(8:Int)->UInt64.ofNat (nat_lit 256)≠0/\UInt64.toNat (x % UInt64.ofNat (nat_lit 256))<=9223372036854775807/\((0:Int)<=n/\n<(8:Int))/\WOk H p_1 (0+n.toNat*1) 1/\∀H',H'=wr H p_1 (0+n.toNat*1) (.i (↑(UInt64.toNat (x % UInt64.ofNat (nat_lit 256))):Int))->UInt64.ofNat (nat_lit 256)≠0/\I64 (n+(1:Int))/\I (x / UInt64.ofNat (nat_lit 256)) (n+(1:Int)) H'/\μ (x / UInt64.ofNat (nat_lit 256)) (n+(1:Int)) H'<μ x n H)/\(¬n<(8:Int)->∃cs:List Value,cs.length=8/\RdL H p_1 0 cs/\cs.length=8/\(∀v∈cs,One v)/\WOk H p 0 8/\∀H',H'=wrL H p 0 cs->∃cs:List Value,cs.length=8/\RdL H' p 0 cs/\R (.agg cs.toArray) H')):Ru 360 [.u x0] H R:=vcr ⟨fun|3=>some [(0,.u64),(4,.int .i64)]|_=>none,fun _=>none⟩ [.u64 x0] h
theorem v361 (x0:List Value)(h:∀H' p,New H x0 416 H' p->∃(I:UInt64->UInt64->Int->Int->Heap->Prop),∃(μ:UInt64->UInt64->Int->Int->Heap->Nat),I (UInt64.ofNat (nat_lit 0)) (UInt64.ofNat (nat_lit 1)) (0:Int) (0:Int) H'/\∀H x x_1 n n_1,I x x_1 n n_1 H->(n_1<(8:Int)->((0:Int)<=n_1/\n_1<(8:Int))/\∃n_2,rd H p (0+n_1.toNat*1)=some (.i n_2)/\I64 (n+n_2)/\((0:Int)<=n+n_2/\(0:Int)<(256:Int))/\((0:Int)<=n+n_2/\(0:Int)<(256:Int)/\I64 (n+n_2))/\I64 (n_1+(1:Int))/\I (x+UInt64.ofInt ((n+n_2) % (256:Int))*x_1) (x_1*UInt64.ofNat (nat_lit 256)) ((n+n_2) / (256:Int)) (n_1+(1:Int)) H/\μ (x+UInt64.ofInt ((n+n_2) % (256:Int))*x_1) (x_1*UInt64.ofNat (nat_lit 256)) ((n+n_2) / (256:Int)) (n_1+(1:Int)) H<μ x x_1 n n_1 H)/\(¬n_1<(8:Int)->R (.u x) H)):Ru 361 [.agg x0.toArray] H R:=vcr ⟨fun|5=>some [(3,.u64),(4,.u64),(5,.int .i64),(6,.int .i64)]|_=>none,fun _=>none⟩ [.agg x0] h
end Go.VC
namespace Go.VC
open Go Go.Proofs
variable {H:Heap}{R:Value->Heap->Prop}
def numOf:List Int->UInt64
 | []=>0
 | d ::ds=>UInt64.ofInt d+256*numOf ds
def pw:Nat->UInt64
 | 0=>1
 | k+1=>pw k*256
theorem pw8:pw 8=0:=by decide
def itD (x:UInt64):Nat->UInt64
 | 0=>x
 | k+1=>itD x k / UInt64.ofNat 256
def digL (x:UInt64)(k:Nat):List Int:=(List.range k).map fun i=>((itD x i % UInt64.ofNat 256).toNat:Int)
@[simp] theorem digL_length (x:UInt64)(k:Nat):(digL x k).length=k:=by simp[digL]
theorem numOf_append:∀(a b:List Int),numOf (a++b)=numOf a+pw a.length*numOf b
 | [],b=>by simp[numOf,pw]
 | x ::a,b=>by
  simp only[List.cons_append,numOf,numOf_append a b,List.length_cons,pw]
  grind
theorem digL_succ (x:UInt64)(k:Nat):digL x (k+1)=digL x k++[((itD x k % UInt64.ofNat 256).toNat:Int)]:=by
 simp[digL,List.range_succ]
theorem numOf_digL (x:UInt64):∀k,numOf (digL x k)+pw k*itD x k=x
 | 0=>by simp[digL,numOf,pw,itD]
 | k+1=>by
  have ih:=numOf_digL x k
  rw[digL_succ,numOf_append,digL_length]
  simp only[numOf,pw,itD]
  rw[ofInt_nat,UInt64.ofNat_toNat]
  have h1:itD x k=UInt64.ofNat 256*(itD x k / UInt64.ofNat 256)+itD x k % UInt64.ofNat 256:=by
   apply UInt64.toNat_inj.1
   rw[UInt64.toNat_add,UInt64.toNat_mul,UInt64.toNat_div,UInt64.toNat_mod]
   have e:(UInt64.ofNat 256).toNat=256:=rfl
   rw[e]
   have:=(itD x k).toNat_lt
   omega
  have e:UInt64.ofNat 256=256:=rfl
  rw[e] at h1 ⊢
  grind
theorem numOf_dig8 (x:UInt64):numOf (digL x 8)=x:=by
 have:=numOf_digL x 8
 rw[pw8] at this
 rw[UInt64.zero_mul,UInt64.add_zero] at this;exact this
theorem digL_bound (x:UInt64)(k:Nat):∀d∈digL x k,0<=d/\d<=255:=by
 intro d hd
 simp only[digL,List.mem_map] at hd
 obtain⟨i,_,rfl⟩:=hd
 rw[UInt64.toNat_mod]
 have e:(UInt64.ofNat 256).toNat=256:=rfl
 rw[e];omega
theorem numOf_set:∀{l:List Int} {j:Nat} (h:j<l.length) (v:Int),numOf (l.set j (l[j]+v))=numOf l+pw j*UInt64.ofInt v
 | x ::l,0,_,v=>by simp only[List.set_cons_zero,List.getElem_cons_zero,numOf,pw,UInt64.ofInt_add];grind
 | x ::l,j+1,h,v=>by
  have ih:=numOf_set (l:=l) (j:=j) (by simpa using h) v
  simp only[List.set_cons_succ,List.getElem_cons_succ,numOf,pw,ih];grind
theorem numOf_take_succ {l:List Int}{k:Nat}(h:k<l.length):numOf (l.take (k+1))=numOf (l.take k)+pw k*UInt64.ofInt l[k]:=by
 rw[List.take_succ_eq_append_getElem h,numOf_append]
 have:(l.take k).length=k:=by simp;omega
 rw[this];simp[numOf]
theorem numOf_split (l:List Int)(k:Nat)(h:k<=l.length):numOf l=numOf (l.take k)+pw k*numOf (l.drop k):=by
 conv=>lhs;rw[<-List.take_append_drop k l]
 rw[numOf_append]
 have:(l.take k).length=k:=by simp;omega
 rw[this]
theorem pw_add (i:Nat):∀k,pw (i+k)=pw i*pw k
 | 0=>by simp[pw]
 | k+1=>by rw[<-Nat.add_assoc,pw,pw,pw_add i k];grind
theorem numOf_zip:∀{a b:List Int},a.length=b.length->numOf (List.zipWith (·+·) a b)=numOf a+numOf b
 | [],[],_=>by simp[numOf]
 | [],y ::b,h=>by simp at h
 | x ::a,[],h=>by simp at h
 | x ::a,y ::b,h=>by
  have:=numOf_zip (a:=a) (b:=b) (by simpa using h)
  simp only[List.zipWith_cons_cons,numOf,this,UInt64.ofInt_add];grind
theorem numOf_turn:∀(a:List Int),numOf (a.map fun d=>255-d)+numOf a+1=pw a.length
 | []=>by simp[numOf,pw]
 | x ::a=>by
  have ih:=numOf_turn a
  simp only[List.map_cons,numOf,List.length_cons,pw]
  have e:UInt64.ofInt (255-x)=255-UInt64.ofInt x:=by
   have h1:UInt64.ofInt (255-x)+UInt64.ofInt x=255:=by rw[<-UInt64.ofInt_add];rw[show 255-x+x=255 from by omega];rfl
   grind
  rw[e]
  grind
theorem c360 (x:UInt64)(k:∀H',Ext H H'->R (.agg (i64s (digL x 8)).toArray) H'):Ru 360 [.int .u64 (x.toNat:Int)] H R:=by
 refine v360 _ fun H1 p n1 H2 q n2=>⟨fun y n H'=>∃i:Nat,n=i/\i<=8/\y=itD x i/\Own H' q (i64s (digL x i++List.replicate (8-i) 0))/\Mod [q] H2 H',fun _ n _=>(8-n).toNat,⟨0,rfl,by omega,rfl,by simpa [digL,i64s,List.replicate] using n2.own,Mod.refl⟩,?_⟩
 rintro H3 y n ⟨i,rfl,hi,rfl,o3,m3⟩
 have hlen:(digL x i++List.replicate (8-i) 0).length=8:=by simp;omega
 refine⟨fun hlt=>⟨by decide,?_,⟨by omega,hlt⟩,?_,fun H4 h4=>⟨by decide,by unfold I64;omega,?_,by dsimp only;omega⟩⟩,fun hge=>?_⟩
 ·rw[UInt64.toNat_mod]
  have e:(UInt64.ofNat 256).toNat=256:=rfl
  show _ % (UInt64.ofNat 256).toNat<=_
  rw[e];omega
 ·have h8:=o3.2;rw[i64s_length,hlen] at h8;exact wok_sub h8 (by omega) (by omega)
 ·have o4:=o3.wr (0+Int.toNat (i:Int)*1) (.int .i64 ((itD x i % UInt64.ofNat 256).toNat:Int))
  rw[<-show H4=_ from h4] at o4
  have e:Int.toNat (i:Int)=i:=by omega
  have hs:(i64s (digL x i++List.replicate (8-i) 0)).set (0+Int.toNat (i:Int)*1) (.int .i64 ((itD x i % UInt64.ofNat 256).toNat:Int))=i64s (digL x (i+1)++List.replicate (8-(i+1)) 0):=by
   rw[e,show 0+i*1=i from by omega]
   have h2:List.replicate (8-i) (0:Int)=0 ::List.replicate (8-(i+1)) 0:=by rw[<-List.replicate_succ];congr 1;omega
   unfold i64s
   rw[<-List.map_set,h2,List.set_append,if_neg (by simp),digL_length,Nat.sub_self,List.set_cons_zero,digL_succ,List.append_assoc]
   rfl
  rw[hs] at o4
  exact⟨i+1,by omega,by omega,rfl,o4,m3.trans (by rw[h4];exact Mod.refl.wr (.inl (by simp)))⟩
 ·have e:i=8:=by omega
  subst e
  have m23:Ext H1 H3:=n2.mod.trans_new m3 (by have:=n2.ge;simpa using this)
  have hc:digL x 8++List.replicate (8-8) 0=digL x 8:=by simp
  rw[hc] at o3
  have o1:=n1.own.mod m23 (by simp)
  refine⟨i64s (digL x 8),by simp,o3.1,by simp,i64s_one,o1.w 0 8 rfl,fun H4 h4=>⟨i64s (digL x 8),by simp,?_,k H4 ?_⟩⟩
  ·rw[h4];refine rdL_wrL ?_;simp only[i64s_length,digL_length];exact o1.w 0 8 rfl
  ·rw[h4];exact (n1.mod.thenExt m23).trans_new (Mod.refl.wrL (S:=[p]) (.inl (by simp))) (by have:=n1.ge;simpa using this)
theorem c361 (l:List Int)(hl:l.length=8)(hb:∀d∈l,0<=d/\d<=1099511627776)(k:∀H',Ext H H'->R (.int .u64 ((numOf l).toNat:Int)) H'):Ru 361 [.agg (i64s l).toArray] H R:=by
 refine v361 _ fun H1 p n1=>⟨fun y by_ c n H'=>∃i:Nat,n=i/\i<=8/\by_=pw i/\0<=c/\c<=1099511627776/\y+pw i*(UInt64.ofInt c+numOf (l.drop i))=numOf l/\H'=H1,fun _ _ _ n _=>(8-n).toNat,⟨0,rfl,by omega,rfl,by omega,by omega,?_,rfl⟩,?_⟩
 ·have e1:UInt64.ofNat 0=0:=rfl
  have e2:UInt64.ofInt 0=0:=rfl
  simp only[e1,e2,pw,List.drop_zero];grind
 rintro H2 y by_ c n ⟨i,rfl,hi,rfl,c0,c1,hv,rfl⟩
 refine⟨fun hlt=>?_,fun hge=>?_⟩
 ·have hil:i<l.length:=by omega
  have hd:=hb _ (List.getElem_mem hil)
  have e:Int.toNat (i:Int)=i:=by omega
  refine⟨⟨by omega,hlt⟩,l[i],?_,by unfold I64;omega,⟨by omega,by omega⟩,⟨by omega,by omega,by unfold I64;omega⟩,by unfold I64;omega,⟨i+1,by omega,by omega,rfl,by omega,by omega,?_,rfl⟩,by dsimp only;omega⟩
  ·rw[n1.rd,e,show 0+i*1=i from by omega];exact i64s_get hil
  ·rw[List.drop_eq_getElem_cons hil] at hv
   simp only[numOf] at hv
   have h1:UInt64.ofInt (c+l[i])=UInt64.ofInt c+UInt64.ofInt l[i]:=UInt64.ofInt_add _ _
   have h2:UInt64.ofInt (c+l[i])=UInt64.ofInt ((c+l[i]) % 256)+256*UInt64.ofInt ((c+l[i]) / 256):=by
    have:(c+l[i])=(c+l[i]) % 256+256*((c+l[i]) / 256):=by omega
    conv=>lhs;rw[this]
    rw[UInt64.ofInt_add,UInt64.ofInt_mul];rfl
   simp only[pw]
   grind
 ·have e:i=8:=by omega
  subst e
  rw[pw8,UInt64.zero_mul,UInt64.add_zero] at hv
  rw[hv];exact k _ n1.mod
end Go.VC
namespace Go.VC
open Go Go.Proofs
variable {H:Heap}{R:Value->Heap->Prop}
theorem Own.rdI {H:Heap}{p:Nat}{l:List Int}(o:Own H p (i64s l)){i:Nat}(h:i<l.length):VC.rd H p (0+Int.toNat (i:Int)*1)=some (.int .i64 l[i]):=by
 rw[show 0+Int.toNat (i:Int)*1=i from by omega];exact o.rd i (i64s_get h)
theorem Own.wI {H:Heap}{p:Nat}{l:List Int}(o:Own H p (i64s l)){i:Nat}(h:i<l.length):WOk H p (0+Int.toNat (i:Int)*1) 1:=by
 have:=o.2;rw[i64s_length] at this;exact wok_sub this (by omega) (by omega)
theorem Own.setI {H H':Heap}{p:Nat}{l:List Int}(o:Own H p (i64s l)){i:Nat}{v:Int}(e:H'=VC.wr H p (0+Int.toNat (i:Int)*1) (.int .i64 v)):Own H' p (i64s (l.set i v)):=by
 have:=o.wr (0+Int.toNat (i:Int)*1) (.int .i64 v)
 rw[e]
 rw[show 0+Int.toNat (i:Int)*1=i from by omega] at this ⊢
 unfold i64s at this ⊢
 rw[List.map_set];exact this
theorem wrM {H H':Heap}{p o:Nat}{v:Value}(e:H'=wr H p o v):Mod [p] H H':=by rw[e];exact Mod.refl.wr (.inl (by simp))
theorem wrLM {H H':Heap}{p o:Nat}{v:List Value}(e:H'=wrL H p o v):Mod [p] H H':=by rw[e];exact Mod.refl.wrL (.inl (by simp))
theorem numOf_zero:numOf (List.replicate 8 0)=0:=by decide
theorem c325 (x y:UInt64)(k:∀H',Ext H H'->R (.int .u64 ((x+y).toNat:Int)) H'):Ru 325 [.int .u64 (x.toNat:Int),.int .u64 (y.toNat:Int)] H R:=by
 refine v325 _ _ (c360 x fun H1 e1=>⟨i64s (digL x 8),by simp,rfl,fun H2 p n2=>⟨by simp,i64s_one,n2.own.w 0 8 rfl,fun H3 h3=>?_⟩⟩)
 obtain⟨e3,o3⟩:=tmpE (cs:=i64s (digL x 8)) n2 (by simp) h3
 refine c360 y fun H4 e4=>⟨i64s (digL y 8),by simp,rfl,fun H5 q n5=>⟨by simp,i64s_one,n5.own.w 0 8 rfl,fun H6 h6=>?_⟩⟩
 obtain⟨e6,o6⟩:=tmpE (cs:=i64s (digL y 8)) n5 (by simp) h6
 have hpq:p≠q:=by have:=n2.lt;have:=n5.ge;have:=e4.1;have h3':H3.size=H2.size:=(by rw[h3];exact wrL_size _ _ _ _);omega
 have hp0:H.size<=p:=by have:=e1.1;have:=n2.ge;omega
 have e06:=((e1.thenExt e3).thenExt e4).thenExt e6
 have op:=o3.mod (e4.thenExt e6) (by simp)
 refine⟨fun n H'=>∃i:Nat,n=i/\i<=8/\Own H' p (i64s ((List.zipWith (·+·) (digL x 8) (digL y 8)).take i++(digL x 8).drop i))/\Mod [p] H6 H',fun n _=>(8-n).toNat,⟨0,rfl,by omega,by simpa using op,Mod.refl⟩,?_⟩
 rintro H7 n ⟨i,rfl,hi,o7,m7⟩
 have hzl:(List.zipWith (·+·) (digL x 8) (digL y 8)).length=8:=by simp
 have hlen:((List.zipWith (·+·) (digL x 8) (digL y 8)).take i++(digL x 8).drop i).length=8:=by simp;omega
 have oq:=o6.mod m7 (by simpa using Ne.symm hpq)
 refine⟨fun hlt=>?_,fun hge=>?_⟩
 ·have hx:=digL_bound x 8 _ (List.getElem_mem (show i<(digL x 8).length by simp;omega))
  have hy:=digL_bound y 8 _ (List.getElem_mem (show i<(digL y 8).length by simp;omega))
  refine⟨⟨by omega,hlt⟩,(digL x 8)[i]'(by simp;omega),?_,⟨by omega,hlt⟩,_,oq.rdI (by simp;omega),by unfold I64;omega,⟨by omega,hlt⟩,o7.wI (by omega),fun H8 h8=>⟨by unfold I64;omega,⟨i+1,by omega,by omega,?_,m7.trans (wrM h8)⟩,by dsimp only;omega⟩⟩
  ·rw[o7.rdI (i:=i) (by omega)]
   congr 2
   rw[List.getElem_append_right (by rw[List.length_take,hzl];omega)]
   simp only[List.length_take,hzl,List.getElem_drop]
   congr 1;omega
  ·have o8:=o7.setI h8
   have hd:(digL x 8).drop i=(digL x 8)[i]'(by simp;omega) :: (digL x 8).drop (i+1):=List.drop_eq_getElem_cons (by simp;omega)
   rw[List.set_append,if_neg (by rw[List.length_take,hzl];omega),hd] at o8
   rw[List.take_succ_eq_append_getElem (by omega),List.append_assoc]
   simp only[List.length_take,hzl,show min i 8=i from by omega,Nat.sub_self,List.set_cons_zero] at o8
   simpa using o8
 ·have e:i=8:=by omega
  subst e
  have hc:(List.zipWith (·+·) (digL x 8) (digL y 8)).take 8++(digL x 8).drop 8=List.zipWith (·+·) (digL x 8) (digL y 8):=by
   rw[List.take_of_length_le (by omega),List.drop_of_length_le (by simp)];simp
  rw[hc] at o7
  refine⟨_,by simp,o7.1,c361 _ (by simp) ?_ fun H8 e8=>⟨_,rfl,?_⟩⟩
  ·intro d hd
   obtain⟨j,hj,rfl⟩:=List.getElem_of_mem hd
   simp only[List.getElem_zipWith]
   have h1:=digL_bound x 8 _ (List.getElem_mem (show j<(digL x 8).length by simp at hj ⊢;omega))
   have h2:=digL_bound y 8 _ (List.getElem_mem (show j<(digL y 8).length by simp at hj ⊢;omega))
   omega
  ·rw[numOf_zip (by simp),numOf_dig8,numOf_dig8]
   exact k H8 ((e06.trans_new m7 (by simpa using hp0)).thenExt e8)
theorem c326 (x:UInt64)(k:∀H',Ext H H'->R (.int .u64 ((-x).toNat:Int)) H'):Ru 326 [.int .u64 (x.toNat:Int)] H R:=by
 refine v326 _ (c360 x fun H1 e1=>⟨i64s (digL x 8),by simp,rfl,fun H2 p n2=>⟨by simp,i64s_one,n2.own.w 0 8 rfl,fun H3 h3=>?_⟩⟩)
 obtain⟨e3,o3⟩:=tmpE (cs:=i64s (digL x 8)) n2 (by simp) h3
 have hp0:H.size<=p:=by have:=e1.1;have:=n2.ge;omega
 have e03:=e1.thenExt e3
 refine⟨fun n H'=>∃i:Nat,n=i/\i<=8/\Own H' p (i64s (((digL x 8).map fun d=>255-d).take i++(digL x 8).drop i))/\Mod [p] H3 H',fun n _=>(8-n).toNat,⟨0,rfl,by omega,by simpa using o3,Mod.refl⟩,?_⟩
 rintro H7 n ⟨i,rfl,hi,o7,m7⟩
 have hzl:((digL x 8).map fun d=>255-d).length=8:=by simp
 have hlen:(((digL x 8).map fun d=>255-d).take i++(digL x 8).drop i).length=8:=by simp;omega
 refine⟨fun hlt=>?_,fun hge=>?_⟩
 ·have hx:=digL_bound x 8 _ (List.getElem_mem (show i<(digL x 8).length by simp;omega))
  refine⟨⟨by omega,hlt⟩,(digL x 8)[i]'(by simp;omega),?_,by unfold I64;omega,⟨by omega,hlt⟩,o7.wI (by omega),fun H8 h8=>⟨by unfold I64;omega,⟨i+1,by omega,by omega,?_,m7.trans (wrM h8)⟩,by dsimp only;omega⟩⟩
  ·rw[o7.rdI (i:=i) (by omega)]
   congr 2
   rw[List.getElem_append_right (by rw[List.length_take,hzl];omega)]
   simp only[List.length_take,hzl,List.getElem_drop]
   congr 1;omega
  ·have o8:=o7.setI h8
   have hd:(digL x 8).drop i=(digL x 8)[i]'(by simp;omega) :: (digL x 8).drop (i+1):=List.drop_eq_getElem_cons (by simp;omega)
   rw[List.set_append,if_neg (by rw[List.length_take,hzl];omega),hd] at o8
   rw[List.take_succ_eq_append_getElem (by omega),List.append_assoc]
   simp only[List.length_take,hzl,show min i 8=i from by omega,Nat.sub_self,List.set_cons_zero] at o8
   simpa using o8
 ·have e:i=8:=by omega
  subst e
  have hc:((digL x 8).map fun d=>255-d).take 8++(digL x 8).drop 8=(digL x 8).map fun d=>255-d:=by
   rw[List.take_of_length_le (by omega),List.drop_of_length_le (by simp)];simp
  rw[hc] at o7
  have hb:∀d∈(digL x 8).map (fun d=>255-d),0<=d/\d<=255:=by
   intro d hd
   obtain⟨z,hz,rfl⟩:=List.mem_map.1 hd
   have:=digL_bound x 8 z hz
   omega
  generalize hT:(digL x 8).map (fun d=>255-d)=T at *
  have h0:=hb _ (List.getElem_mem (show 0<T.length by omega))
  have r0:rd H7 p 0=some (.int .i64 (T[0]'(by omega))):=o7.rd 0 (i64s_get (by omega))
  refine⟨⟨by omega,by omega⟩,_,r0,by unfold I64;omega,⟨by omega,by omega⟩,by have:=o7.2;rw[i64s_length] at this;exact wok_sub this (by omega) (by omega),fun H8 h8=>?_⟩
  have o8:Own H8 p (i64s (T.set 0 (T[0]'(by omega)+1))):=o7.setI (i:=0) (by rw[h8];rfl)
  refine⟨_,by simp;omega,o8.1,c361 _ (by simp;omega) ?_ fun H9 e9=>⟨_,rfl,?_⟩⟩
  ·intro d hd
   rcases List.mem_or_eq_of_mem_set hd with h1|h1
   ·have:=hb d h1;omega
   ·omega
  ·have h1:numOf (T.set 0 (T[0]'(by omega)+1)) = -x:=by
    rw[numOf_set (by omega)]
    have h2:=numOf_turn (digL x 8)
    rw[hT,numOf_dig8,digL_length,pw8] at h2
    have e1:UInt64.ofInt 1=1:=rfl
    simp only[pw,e1]
    grind
   rw[h1]
   exact k H9 ((e03.trans_new (m7.trans (wrM h8)) (by simpa using hp0)).thenExt e9)
theorem c327 (x y:UInt64)(k:∀H',Ext H H'->R (.int .u64 ((x*y).toNat:Int)) H'):Ru 327 [.int .u64 (x.toNat:Int),.int .u64 (y.toNat:Int)] H R:=by
 refine v327 _ _ (c360 x fun H1 e1=>⟨i64s (digL x 8),by simp,rfl,fun H2 p n2=>⟨by simp,i64s_one,n2.own.w 0 8 rfl,fun H3 h3=>?_⟩⟩)
 obtain⟨e3,o3⟩:=tmpE (cs:=i64s (digL x 8)) n2 (by simp) h3
 refine c360 y fun H4 e4=>⟨i64s (digL y 8),by simp,rfl,fun H5 q n5=>⟨by simp,i64s_one,n5.own.w 0 8 rfl,fun H6 h6=>?_⟩⟩
 obtain⟨e6,o6⟩:=tmpE (cs:=i64s (digL y 8)) n5 (by simp) h6
 have h3':H3.size=H2.size:=by rw[h3];exact wrL_size _ _ _ _
 have h6':H6.size=H5.size:=by rw[h6];exact wrL_size _ _ _ _
 refine fun H7 s n7=>?_
 have hps:p≠s:=by have:=n2.lt;have:=n7.ge;have:=e4.1;have:=e6.1;omega
 have hqs:q≠s:=by have:=n5.lt;have:=n7.ge;omega
 have hp0:H.size<=s:=by have:=e1.1;have:=n2.ge;have:=n2.lt;have:=e4.1;have:=e6.1;have:=n7.ge;omega
 have e07:=(((e1.thenExt e3).thenExt e4).thenExt e6).new n7
 have op:=(o3.mod (e4.thenExt e6) (by simp)).mod n7.mod (by simp)
 have oq:=o6.mod n7.mod (by simp)
 have hX:=digL_bound x 8
 have hY:=digL_bound y 8
 have nX:=numOf_dig8 x
 have nY:=numOf_dig8 y
 have lX:=digL_length x 8
 have lY:=digL_length y 8
 generalize digL x 8=X at *
 generalize digL y 8=Y at *
 let P:List Int->Int->Prop:=fun l b=>l.length=8/\∀d∈l,0<=d/\d<=b
 refine⟨fun n H'=>∃(i:Nat) (l:List Int),n=i/\i<=8/\P l (65025*(8*i))/\numOf l=numOf (X.take i)*numOf Y/\Own H' s (i64s l)/\Mod [s] H7 H',fun n _=>(8-n).toNat,⟨0,List.replicate 8 0,rfl,by omega,⟨by simp,fun d hd=>by simp at hd;omega⟩,by rw[numOf_zero];simp[numOf],n7.own,Mod.refl⟩,?_⟩
 rintro H8 n ⟨i,l,rfl,hi,⟨hl,hb⟩,hv,o8,m8⟩
 refine⟨fun hlt=>?_,fun hge=>?_⟩
 ·have hi8:i<8:=by omega
  refine⟨fun m H'=>∃(j:Nat) (l':List Int),m=j/\i+j<=8/\P l' (65025*(8*i+j))/\numOf l'=numOf (X.take i)*numOf Y+pw i*UInt64.ofInt (X[i]'(by omega))*numOf (Y.take j)/\Own H' s (i64s l')/\Mod [s] H7 H',fun m _=>(8-m).toNat,⟨0,l,rfl,by omega,⟨hl,by simpa using hb⟩,by simp[numOf,hv],o8,m8⟩,?_⟩
  rintro H9 m ⟨j,l',rfl,hj,⟨hl',hb'⟩,hv',o9,m9⟩
  have op9:=op.mod m9 (by simpa using hps)
  have oq9:=oq.mod m9 (by simpa using hqs)
  have hc:(i:Int)+(j:Int)=((i+j:Nat):Int):=by omega
  refine⟨by unfold I64;omega,fun hlt'=>?_,fun hge'=>?_⟩
  ·have hij:i+j<8:=by omega
   have hx:=hX _ (List.getElem_mem (show i<X.length by omega))
   have hy:=hY _ (List.getElem_mem (show j<Y.length by omega))
   have hd:=hb' _ (List.getElem_mem (show i+j<l'.length by omega))
   have hm0:=Int.mul_nonneg hx.1 hy.1
   have hm1:X[i]'(by omega)*Y[j]'(by omega)<=255*255:=Int.le_trans (Int.mul_le_mul_of_nonneg_right hx.2 hy.1) (Int.mul_le_mul_of_nonneg_left hy.2 (by omega))
   rw[hc]
   refine⟨by unfold I64;omega,by unfold I64;omega,⟨by omega,by omega⟩,_,o9.rdI (i:=i+j) (by omega),⟨by omega,by omega⟩,_,op9.rdI (i:=i) (by omega),⟨by omega,by omega⟩,_,oq9.rdI (i:=j) (by omega),by unfold I64;omega,by unfold I64;omega,⟨by omega,by omega⟩,o9.wI (by omega),fun Ha ha=>⟨by unfold I64;omega,⟨j+1,l'.set (i+j) (l'[i+j]'(by omega)+X[i]'(by omega)*Y[j]'(by omega)),by omega,by omega,⟨by simpa using hl',?_⟩,?_,o9.setI ha,m9.trans (wrM ha)⟩,by dsimp only;omega⟩⟩
   ·intro d hd'
    rcases List.mem_or_eq_of_mem_set hd' with h1|h1
    ·have:=hb' d h1;omega
    ·omega
   ·rw[numOf_set (by omega),hv',numOf_take_succ (by omega),pw_add,UInt64.ofInt_mul]
    grind
  ·have hij:j=8-i:=by omega
   refine⟨by unfold I64;omega,⟨i+1,l',by omega,by omega,⟨hl',fun d hd=>by have:=hb' d hd;omega⟩,?_,o9,m9⟩,by dsimp only;omega⟩
   rw[hv',numOf_take_succ (by omega)]
   have h1:=numOf_split Y (8-i) (by omega)
   have h2:pw i*pw (8-i)=0:=by rw[<-pw_add,show i+(8-i)=8 from by omega,pw8]
   subst hij
   rw[h1]
   generalize numOf (Y.take (8-i))=a at *
   generalize numOf (Y.drop (8-i))=b at *
   generalize pw (8-i)=c at *
   generalize pw i=d at *
   generalize UInt64.ofInt X[i]=f at *
   grind
 ·have e:i=8:=by omega
  subst e
  refine⟨_,by simpa using hl,o8.1,c361 _ hl (fun d hd=>by have:=hb d hd;omega) fun H9 e9=>⟨_,rfl,?_⟩⟩
  rw[hv,List.take_of_length_le (by omega),nX,nY]
  exact k H9 ((e07.trans_new m8 (by simpa using hp0)).thenExt e9)
end Go.VC
namespace Go.VC
open Go Go.Proofs
variable {H:Heap}{R:Value->Heap->Prop}
abbrev Dual:=UInt64 × UInt64
def duC (d:Dual):List Value:=[.int .u64 (d.1.toNat:Int),.int .u64 (d.2.toNat:Int)]
theorem duC_one {d:Dual}:∀v∈duC d,One v:=by
 intro x hx;simp only[duC,List.mem_cons,List.not_mem_nil,or_false] at hx;rcases hx with rfl|rfl<;>trivial
theorem c252 (a b:Dual)(k:∀H',Ext H H'->R (.agg (duC (a.1+b.1,a.2+b.2)).toArray) H'):Ru 252 [.agg (duC a).toArray,.agg (duC b).toArray] H R:=by
 refine v252 _ _ fun H1 p n1 H2 q n2 H3 s n3=>?_
 have ep:Ext H1 H3:=n2.mod.new n3
 have op:=n1.own.mod ep (by simp)
 have oq:=n2.own.mod n3.mod (by simp)
 refine⟨a.1,op.rd 0 rfl,b.1,oq.rd 0 rfl,a.2,op.rd 1 rfl,b.2,oq.rd 1 rfl,c325 _ _ fun H4 e4=>⟨_,rfl,(oq.mod e4 (by simp)).rd 1 rfl,(op.mod e4 (by simp)).rd 1 rfl,c325 _ _ fun H5 e5=>⟨_,rfl,rfl,duC_one (d:=(a.1+b.1,a.2+b.2)),?_,fun H6 h6=>?_⟩⟩⟩
 ·exact ((n3.own.mod e4 (by simp)).mod e5 (by simp)).w 0 2 rfl
 ·have o5:=(n3.own.mod e4 (by simp)).mod e5 (by simp)
  refine⟨duC (a.1+b.1,a.2+b.2),rfl,by rw[h6];exact rdL_wrL o5.2,k H6 ?_⟩
  exact ((((n1.mod.new n2).new n3).thenExt e4).thenExt e5).trans_new (wrLM h6) (by have:=n1.mod.1;have:=n2.mod.1;have:=n3.ge;simp;omega)
theorem c253 (a:Dual)(k:∀H',Ext H H'->R (.agg (duC (-a.1,-a.2)).toArray) H'):Ru 253 [.agg (duC a).toArray] H R:=by
 refine v253 _ fun H1 p n1 H3 s n3=>?_
 have op:=n1.own.mod n3.mod (by simp)
 refine⟨a.1,op.rd 0 rfl,a.2,op.rd 1 rfl,c326 _ fun H4 e4=>⟨_,rfl,(op.mod e4 (by simp)).rd 1 rfl,c326 _ fun H5 e5=>⟨_,rfl,rfl,duC_one (d:=(-a.1,-a.2)),?_,fun H6 h6=>?_⟩⟩⟩
 ·exact ((n3.own.mod e4 (by simp)).mod e5 (by simp)).w 0 2 rfl
 ·have o5:=(n3.own.mod e4 (by simp)).mod e5 (by simp)
  refine⟨duC (-a.1,-a.2),rfl,by rw[h6];exact rdL_wrL o5.2,k H6 ?_⟩
  exact (((n1.mod.new n3).thenExt e4).thenExt e5).trans_new (wrLM h6) (by have:=n1.mod.1;have:=n3.ge;simp;omega)
theorem c254 (a b:Dual)(k:∀H',Ext H H'->R (.agg (duC (a.1*b.1,a.1*b.2+a.2*b.1)).toArray) H'):Ru 254 [.agg (duC a).toArray,.agg (duC b).toArray] H R:=by
 refine v254 _ _ fun H1 p n1 H2 q n2 H3 s n3=>?_
 have ep:Ext H1 H3:=n2.mod.new n3
 have op:=n1.own.mod ep (by simp)
 have oq:=n2.own.mod n3.mod (by simp)
 refine⟨a.1,op.rd 0 rfl,b.2,oq.rd 1 rfl,a.2,op.rd 1 rfl,b.1,oq.rd 0 rfl,c327 _ _ fun H4 e4=>⟨_,rfl,(oq.mod e4 (by simp)).rd 0 rfl,(op.mod e4 (by simp)).rd 1 rfl,c327 _ _ fun H5 e5=>⟨_,rfl,c325 _ _ fun H6 e6=>⟨_,rfl,?_⟩⟩⟩⟩
 have e46:=(e4.thenExt e5).thenExt e6
 refine⟨a.1,(op.mod e46 (by simp)).rd 0 rfl,b.1,(oq.mod e46 (by simp)).rd 0 rfl,c327 _ _ fun H7 e7=>⟨_,rfl,rfl,duC_one (d:=(a.1*b.1,a.1*b.2+a.2*b.1)),?_,fun H8 h8=>?_⟩⟩
 ·exact (n3.own.mod (e46.thenExt e7) (by simp)).w 0 2 rfl
 ·have o5:=n3.own.mod (e46.thenExt e7) (by simp)
  refine⟨duC (a.1*b.1,a.1*b.2+a.2*b.1),rfl,by rw[h8];exact rdL_wrL o5.2,k H8 ?_⟩
  exact (((n1.mod.new n2).new n3).thenExt (e46.thenExt e7)).trans_new (wrLM h8) (by have:=n1.mod.1;have:=n2.mod.1;have:=n3.ge;simp;omega)
theorem c199 (o:Op)(ho:1<=o.kind/\o.kind<=6)(a b:Dual)(k:∀H',Ext H H'->R (.agg (duC (dualOp o a b)).toArray) H'):Ru 199 [.agg (opC o).toArray,.agg (duC a).toArray,.agg (duC b).toArray] H R:=by
 refine v199 _ _ _ fun H1 p n1 H2 q n2 H3 s n3 H4 t n4=>?_
 have e14:Ext H1 H4:=(n2.mod.new n3).new n4
 have op:=n1.own.mod e14 (by simp)
 have oa:=n2.own.mod (n3.mod.new n4) (by simp)
 have ob:=n3.own.mod n4.mod (by simp)
 have e04:Ext H H4:=n1.mod.thenExt e14
 have ht:H.size<=t:=by have:=n1.mod.1;have:=n2.mod.1;have:=n3.mod.1;have:=n4.ge;omega
 have fin:∀(H5:Heap) (d:Dual),Ext H4 H5->dualOp o a b=d->(duC d).length=2/\(∀v:Value,v∈duC d->One v)/\WOk H5 t 0 2/\∀H',H'=wrL H5 t 0 (duC d)->∃cs:List Value,cs.length=2/\RdL H' t 0 cs/\R (.agg cs.toArray) H':=by
  intro H5 d e5 hd
  have o5:=n4.own.mod e5 (by simp)
  refine⟨rfl,duC_one,o5.w 0 2 rfl,fun H6 h6=>⟨duC d,rfl,by rw[h6];exact rdL_wrL o5.2,?_⟩⟩
  have:=k H6 ((e04.thenExt e5).trans_new (wrLM h6) (by simpa using ht))
  rw[hd] at this;exact this
 refine⟨_,op.rd 0 rfl,fun h1=>?_,fun h1=>⟨fun h2=>?_,fun h2=>⟨fun h3=>?_,fun h3=>⟨fun h4=>?_,fun h4=>⟨fun h5=>?_,fun h5=>?_⟩⟩⟩⟩⟩
 ·refine⟨_,rfl,oa.1,_,rfl,ob.1,c252 a b fun H5 e5=>⟨_,rfl,rfl,fin H5 _ e5 ?_⟩⟩
  simp[dualOp,h1]
 ·refine⟨_,rfl,oa.1,_,rfl,ob.1,c253 b fun H5 e5=>⟨_,rfl,rfl,(oa.mod e5 (by simp)).1,c252 a _ fun H6 e6=>⟨_,rfl,rfl,fin H6 _ (e5.thenExt e6) ?_⟩⟩⟩
  simp[dualOp,h2]
 ·refine⟨_,rfl,oa.1,_,rfl,ob.1,c254 a b fun H5 e5=>⟨_,rfl,rfl,fin H5 _ e5 ?_⟩⟩
  simp[dualOp,h3]
 ·refine⟨_,rfl,oa.1,c253 a fun H5 e5=>⟨_,rfl,rfl,fin H5 _ e5 ?_⟩⟩
  simp[dualOp,h4]
 ·refine⟨o.v,op.rd 4 rfl,fin H4 (o.v,0) Mod.refl ?_⟩
  simp[dualOp,h5]
 ·have h6:o.kind=6:=by omega
  refine⟨_,rfl,oa.1,fin H4 a Mod.refl ?_⟩
  simp[dualOp,h6]
end Go.VC
namespace Go.VC
open Go Go.Proofs
variable {H:Heap}{R:Value->Heap->Prop}
theorem c356 (n:Int)(k:∀H',Ext H H'->R (.agg #[.bool (askD n),.bool (askA n),.bool (askB n),.bool (askV n)]) H'):Ru 356 [.int .i64 n] H R:=by
 refine v356 _ fun H1 p n1=>⟨fun H'=>H'=H1/\¬(1<=n/\n<=3),?_,?_⟩
 all_goals
  have fin:∀d a b v:Bool,d=askD n->a=askA n->b=askB n->v=askV n->∀H',H'=wrL H1 p 0 [.bool d,.bool a,.bool b,.bool v]->
    ∃cs:List Value,List.length cs=4/\RdL H' p 0 cs/\R (.agg (List.toArray cs)) H':=by
   rintro d a b v rfl rfl rfl rfl _ rfl
   refine⟨_,rfl,rdL_wrL (by exact n1.wok),k _ (n1.mod.trans_new (Mod.refl.wrL (S:=[p]) (.inl (by simp))) (by simpa using n1.ge))⟩
  have one:∀d a b v:Bool,∀x:Value,x∈[Value.bool d,.bool a,.bool b,.bool v]->One x:=by
   intro d a b v x hx;simp at hx;rcases hx with rfl|rfl|rfl|rfl<;>trivial
 ·refine⟨fun h1=>⟨fun h2=>?_,fun h2=>⟨rfl,by omega⟩⟩,fun h1=>⟨rfl,by omega⟩⟩
  exact⟨rfl,one _ _ _ _,n1.wok,fin _ _ _ _ (by simp[askD];omega) (by simp[askA];omega) (by simp[askB];omega) (by simp[askV];omega)⟩
 ·rintro H2 ⟨e,hn⟩
  subst e
  refine⟨fun h4=>?_,fun h4=>⟨fun h6=>?_,fun h6=>⟨fun h5=>?_,fun h5=>⟨fun h7=>?_,fun h7=>?_⟩⟩⟩⟩
  all_goals
   refine⟨rfl,one _ _ _ _,n1.wok,fin _ _ _ _ ?_ ?_ ?_ ?_⟩
   ·simp[askD];omega
   ·simp[askA];omega
   ·simp[askB];omega
   ·simp[askV];omega
theorem right_regs {o:Op}(h:rightB o=true):0<=o.kind/\o.kind<8/\(0<=o.d/\o.d<=2147483647/\(askD o.kind=false->o.d=0))/\(0<=o.a/\o.a<=2147483647/\(askA o.kind=false->o.a=0))/\(0<=o.b/\o.b<=2147483647/\(askB o.kind=false->o.b=0))/\(askV o.kind=true\/o.v=0):=by
 unfold rightB at h
 simp only[Bool.and_eq_true,Bool.or_eq_true,decide_eq_true_eq] at h
 obtain⟨hk,hd,ha,hb,hv⟩:=h
 have key:∀(x:Int) (q:Bool),regOk x q=true->0<=x/\x<=2147483647/\(q=false->x=0):=by
  intro x q h
  cases q
  ·simp[regOk] at h;omega
  ·simp[regOk] at h;simp;omega
 exact⟨hk.1,hk.2,key _ _ hd,key _ _ ha,key _ _ hb,hv⟩
theorem c355 (o:Op)(ho:rightB o=true)(k:∀H',Ext H H'->R (.bool true) H'):Ru 355 [.agg (opC o).toArray] H R:=by
 obtain⟨k0,k1,hd,ha,hb,hv⟩:=right_regs ho
 refine v355 _ fun H1 p n1=>⟨fun H'=>H'=H1,⟨_,n1.rd 0,fun h=>by omega,fun _=>⟨_,n1.rd 0,fun h=>by omega,fun _=>rfl⟩⟩,?_⟩
 intro H2 e;subst e
 refine⟨_,n1.rd 0,c356 _ fun H3 e3=>⟨[.bool (askD o.kind),.bool (askA o.kind),.bool (askB o.kind),.bool (askV o.kind)],rfl,rfl,fun H4 q n4=>⟨rfl,?_,n4.own.w 0 4 rfl,fun H5 h5=>?_⟩⟩⟩
 ·intro x hx;simp at hx;rcases hx with rfl|rfl|rfl|rfl<;>trivial
 obtain⟨e5,o5⟩:=tmpE (cs:=[.bool (askD o.kind),.bool (askA o.kind),.bool (askB o.kind),.bool (askV o.kind)]) n4 rfl h5
 have op:=(n1.own.mod e3 (by simp)).mod e5 (by simp)
 refine⟨_,op.rd 1 rfl,_,op.rd 2 rfl,_,op.rd 3 rfl,fun H6 s n6=>⟨rfl,?_,n6.own.w 0 3 rfl,fun H7 h7=>?_⟩⟩
 ·intro x hx;simp at hx;rcases hx with rfl|rfl|rfl<;>trivial
 obtain⟨e7,o7⟩:=tmpE (cs:=i64s [o.d,o.a,o.b]) n6 rfl h7
 have oq:=o5.mod e7 (by simp)
 have op7:=op.mod e7 (by simp)
 have e07:=((n1.mod.thenExt e3).thenExt e5).thenExt e7
 refine⟨fun n H'=>H'=H7/\∃i:Nat,n=i/\i<=3,fun n _=>(3-n).toNat,⟨rfl,0,rfl,by omega⟩,?_⟩
 rintro H8 n ⟨e8,i,rfl,hi⟩
 subst e8
 refine⟨fun hlt=>?_,fun hge=>?_⟩
 ·have hc:∃(x:Int) (z:Bool),rd H8 s (0+Int.toNat (i:Int)*1)=some (.int .i64 x)/\rd H8 q (0+Int.toNat (i:Int)*1)=some (.bool z)/\0<=x/\x<=2147483647/\(z=false->x=0):=by
   have hi3:i=0\/i=1\/i=2:=by omega
   rcases hi3 with rfl|rfl|rfl
   ·exact⟨_,_,o7.rd 0 rfl,oq.rd 0 rfl,hd⟩
   ·exact⟨_,_,o7.rd 1 rfl,oq.rd 1 rfl,ha⟩
   ·exact⟨_,_,o7.rd 2 rfl,oq.rd 2 rfl,hb⟩
  obtain⟨x,z,r1,r2,x0,x1,hx⟩:=hc
  refine⟨⟨by omega,hlt⟩,x,r1,fun h=>by omega,fun _=>⟨⟨by omega,hlt⟩,x,r1,fun h=>by omega,fun _=>⟨⟨by omega,by omega⟩,z,r2,fun hq=>⟨⟨by omega,hlt⟩,x,r1,fun h=>(h (hx (by simpa using hq))).elim,fun _=>⟨by unfold I64;omega,⟨rfl,i+1,by omega,by omega⟩,by dsimp only;omega⟩⟩,fun _=>⟨by unfold I64;omega,⟨rfl,i+1,by omega,by omega⟩,by dsimp only;omega⟩⟩⟩⟩
 ·refine⟨⟨by omega,by omega⟩,_,oq.rd 3 rfl,fun _=>k _ e07,fun h=>⟨_,op7.rd 4 rfl,?_⟩⟩
  have:o.v=0:=by rcases hv with h1|h1;rw[h1] at h;cases h;exact h1
  rw[show decide (o.v=UInt64.ofNat 0)=true from by rw[this];rfl]
  exact k _ e07
end Go.VC
namespace Go.VC
open Go Go.Proofs
variable {H:Heap}{R:Value->Heap->Prop}
theorem RowO.kd {H:Heap}{a:Option Addr}{l:Nat}{ops:List Op}(h:RowO H a l ops){i:Nat}(hi:i<ops.length){K:Int->Prop}(hk:K ops[i].kind) :
  ∃b o,At a b o/\((0:Int)<=i/\(i:Int)<l)/\∃n,rd H b (o+Int.toNat (i:Int)*5)=some (.int .i64 n)/\K n:=by
 have hl:=h.len
 obtain⟨b,o,e,hr⟩:=h.rdL (i:=(i:Int)) (by omega) (by omega)
 exact⟨b,o,e,⟨by omega,by omega⟩,_,rdL_get' hr (j:=0) rfl,by simpa using hk⟩
theorem RowO.vv {H:Heap}{a:Option Addr}{l:Nat}{ops:List Op}(h:RowO H a l ops){i:Nat}(hi:i<ops.length){K:UInt64->Prop}(hk:K ops[i].v) :
  ∃b o,At a b o/\((0:Int)<=i/\(i:Int)<l)/\∃x:UInt64,rd H b (o+Int.toNat (i:Int)*5+4)=some (.int .u64 (x.toNat:Int))/\K x:=by
 have hl:=h.len
 obtain⟨b,o,e,hr⟩:=h.rdL (i:=(i:Int)) (by omega) (by omega)
 exact⟨b,o,e,⟨by omega,by omega⟩,_,rdL_get' hr (j:=4) rfl,by simpa using hk⟩
theorem c324 {a:Option Addr}{l c:Nat}{ops:List Op}(h:RowO H a l ops)(hl:l<=4398046511104)(hs:scan ops 0=some 0)(k:R (.bool true) H):Ru 324 [.slice a l c] H R:=by
 have hlen:=h.len
 refine v324 _ _ _ ⟨fun n m H'=>H'=H/\∃i d:Nat,m=i/\n=d/\i<=ops.length/\scan (ops.take i) 0=some d,fun _ m _=>(l-m).toNat,⟨rfl,0,0,rfl,rfl,by omega,by simp[scan]⟩,?_⟩
 rintro H1 n m ⟨e1,i,d,rfl,rfl,hi,hd⟩
 subst e1
 have hb:=scan_bound _ _ _ hd
 simp only[List.length_take] at hb
 refine⟨fun hlt=>⟨fun H'=>H'=H1,?_,?_⟩,fun hge=>?_⟩
 ·have hil:i<ops.length:=by omega
  have hp:=scan_prefix hil hs hd
  exact h.kd hil ⟨fun hx=>by omega,fun _=>h.kd hil ⟨fun hx=>by omega,fun _=>rfl⟩⟩
 ·intro H2 e2
  subst e2
  have hil:i<ops.length:=by omega
  have hp:=scan_prefix hil hs hd
  have hst:=scan_step hs hil hd
  refine h.kd hil ⟨fun h7=>⟨by unfold I64;omega,h.kd hil ⟨fun h0=>by omega,fun h0=>⟨fun hx=>by omega,fun _=>⟨by unfold I64;omega,⟨rfl,i+1,d+1,by omega,by omega,by omega,?_⟩,by dsimp only;omega⟩⟩⟩⟩,fun h7=>h.kd hil ⟨fun h0=>⟨by unfold I64;omega,fun hx=>by have:=hp.2.2 h0;omega,fun _=>⟨by unfold I64;omega,⟨rfl,i+1,d-1,by omega,by have:=hp.2.2 h0;omega,by omega,?_⟩,by dsimp only;omega⟩⟩,fun h0=>⟨fun hx=>by omega,fun _=>⟨by unfold I64;omega,⟨rfl,i+1,d,by omega,by omega,by omega,?_⟩,by dsimp only;omega⟩⟩⟩⟩
  ·rw[hst,if_pos h7]
  ·rw[hst,if_neg h7,if_pos h0]
  ·rw[hst,if_neg h7,if_neg h0]
 ·have e:i=ops.length:=by omega
  subst e
  rw[List.take_length,hs] at hd
  cases hd
  simpa using k
theorem c357 {a:Option Addr}{l c:Nat}{ops:List Op}(h:RowO H a l ops)(hl:l<=4398046511104)(hs:scan ops 0=some 0)(j:Nat)(hj:j<=ops.length)(k:∀d:Nat,scan (ops.take j) 0=some d->R (.int .i64 (d:Int)) H):Ru 357 [.slice a l c,.int .i64 (j:Int)] H R:=by
 have hlen:=h.len
 refine v357 _ _ _ _ ⟨fun n m H'=>H'=H/\∃i d:Nat,m=i/\n=d/\i<=j/\scan (ops.take i) 0=some d,fun _ m _=>(j-m).toNat,⟨rfl,0,0,rfl,rfl,by omega,by simp[scan]⟩,?_⟩
 rintro H1 n m ⟨e1,i,d,rfl,rfl,hi,hd⟩
 subst e1
 have hb:=scan_bound _ _ _ hd
 simp only[List.length_take] at hb
 refine⟨fun hlt=>?_,fun hge=>?_⟩
 ·have hil:i<ops.length:=by omega
  have hp:=scan_prefix hil hs hd
  have hst:=scan_step hs hil hd
  refine h.kd hil ⟨fun h7=>⟨by unfold I64;omega,h.kd hil ⟨fun h0=>by omega,fun h0=>⟨by unfold I64;omega,⟨rfl,i+1,d+1,by omega,by omega,by omega,?_⟩,by dsimp only;omega⟩⟩⟩,fun h7=>h.kd hil ⟨fun h0=>⟨by unfold I64;omega,by unfold I64;omega,⟨rfl,i+1,d-1,by omega,by have:=hp.2.2 h0;omega,by omega,?_⟩,by dsimp only;omega⟩,fun h0=>⟨by unfold I64;omega,⟨rfl,i+1,d,by omega,by omega,by omega,?_⟩,by dsimp only;omega⟩⟩⟩
  ·rw[hst,if_pos h7]
  ·rw[hst,if_neg h7,if_pos h0]
  ·rw[hst,if_neg h7,if_neg h0]
 ·have e:i=j:=by omega
  subst e
  exact k d hd
theorem c321 {a:Option Addr}{l c:Nat}{t:Tree}(h:RowO H a l t.flat)(hl:l<=4398046511104)(ok:t.Ok)(k:∀d:Int,d<=t.depth->R (.tuple #[.int .i64 d,.int .i64 0]) H):Ru 321 [.slice a l c] H R:=by
 have hs:=scan_tree ok 0
 have hlen:=h.len
 refine v321 _ _ _ (c324 h hl hs ⟨_,rfl,by simp,fun _=>⟨fun n m H'=>H'=H/\∃i:Nat,m=i/\i<=l+1/\n<=t.depth,fun _ m _=>(l+1-m).toNat,⟨rfl,0,rfl,by omega,by omega⟩,?_⟩⟩)
 rintro H1 n m ⟨e1,i,rfl,hi,hn⟩
 subst e1
 refine⟨fun hle=>?_,fun hgt=>k n hn⟩
 refine c357 h hl hs i (by omega) fun d hd=>⟨_,rfl,by unfold I64;omega,⟨rfl,i+1,by omega,by omega,?_⟩,by dsimp only;omega⟩
 have:=scan_take_le ok i 0 d hd
 show maxI true n (d:Int)<=_
 simp only[maxI,cond_true]
 omega
end Go.VC
namespace Go.VC
open Go Go.Proofs
theorem Buf.setI {H:Heap}{n:Nat}{a:Option Addr}{l c:Nat}{xs:List Int}(h:Buf 1 H n a l c (i64s xs)){i:Nat}(hi:i<l){v:Int}{K:Heap->Prop}
  (k:∀H' b,n<=b->Buf 1 H' n a l c (i64s (xs.set i v))->Mod [b] H H'->K H') :
  ∃b o,At a b o/\((0:Int)<=i/\(i:Int)<l)/\WOk H b (o+Int.toNat (i:Int)) 1/\∀H',H'=VC.wr H b (o+Int.toNat (i:Int)) (.int .i64 v)->K H':=by
 have hle:=h.le
 rcases h.ok with h0|⟨b,e,hb,hr,hw⟩
 ·omega
 ·refine⟨b,0,e,⟨by omega,by omega⟩,wok_sub hw (by omega) (by omega),fun H' h'=>k H' b hb ⟨?_,hle,.inr ⟨b,e,hb,?_,?_⟩⟩ ?_⟩
  ·have:=h.len;simpa using this
  ·rw[h',<-i64s_set,show Int.toNat (i:Int)=i from by omega];exact rdL_wr_set hr
  ·rw[h'];exact wok_wr hw
  ·rw[h'];exact Mod.refl.wr (.inl (by simp))
def OutAt (m:List Int)(i:Nat)(out:List Int):Prop:=out.length=m.length/\∀(j:Nat) (x:Int),m[j]?=some x->out[j]?=some (if 0<=x/\((j:Int)<i\/x<i) then x else -1)
theorem c250 {H:Heap}{R:Value->Heap->Prop}{a:Option Addr}{l c:Nat}{t:Tree}(h:RowO H a l t.flat)(hl:l<=65536)(ok:t.Ok)
  (k:∀a' c' H',Buf 1 H' H.size a' l c' (i64s (matchT t 0))->Ext H H'->R (.tuple #[.slice a' l c',.int .i64 0]) H'):Ru 250 [.slice a l c] H R:=by
 have hs:=scan_tree ok 0
 have hlen:=h.len
 have seg:=Seg.top t
 have hml:=matchT_length t 0
 generalize matchT t 0=m at *
 refine v250 _ _ _ (c324 h (by omega) hs ⟨_,rfl,by simp,fun _ H1 q n1=>?_⟩)
 refine⟨fun a' l' c' H'=>l'=l/\Buf 1 H' H.size a' l c' (i64s (List.replicate l (-1)))/\Ext H H',⟨fun a' l' c' n H'=>∃i:Nat,n=i/\l'=i/\i<=l/\Buf 1 H' H.size a' i c' (i64s (List.replicate i (-1)))/\Ext H H',fun _ _ _ n _=>(l-n).toNat,⟨0,rfl,rfl,by omega,Buf.nil,n1.mod⟩,?_⟩,?_⟩
 ·rintro H2 a2 i c2 n ⟨_,rfl,rfl,hi,hB,e2⟩
  refine⟨fun hlt H3 q3 n3=>⟨i64s [-1],rfl,.inr ⟨q3,0,rfl,n3.rdL⟩,(hB.ext n3.mod).app (by have:=e2.1;have:=n3.mod.1;omega) rfl rfl i64s_one (by omega) (by omega) fun a4 c4 H4 S hB4 m4 hS=>⟨by unfold I64;omega,⟨i+1,by omega,rfl,by omega,?_,(e2.new n3).trans_new m4 fun b hb=>.inr (hS b hb)⟩,by dsimp only;omega⟩⟩,fun hge=>?_⟩
  ·rw[<-i64s_append] at hB4;rw[List.replicate_succ'];exact hB4
  ·have e:i=l:=by omega
   subst e;exact⟨rfl,hB,e2⟩
 ·rintro H2 a2 l2 c2 ⟨rfl,hB,e2⟩
  refine⟨fun n H'=>∃(i:Nat) (out:List Int),n=i/\i<=t.flat.length/\OutAt m i out/\Buf 1 H' H.size a2 l2 c2 (i64s out)/\Ext H H',fun n _=>(l2-n).toNat,⟨0,_,rfl,by omega,⟨by simp;omega,?_⟩,hB,e2⟩,?_⟩
  ·intro j x hj
   have hjl:=(List.getElem?_eq_some_iff.1 hj).1
   rw[if_neg (by omega),List.getElem?_replicate,if_pos (by omega)]
  rintro H3 n ⟨i,out,rfl,hi,⟨ol,hout⟩,hB3,e3⟩
  have h3:=Ext.row e3 h
  refine⟨fun hlt=>?_,fun hge=>?_⟩
  ·have hil:i<t.flat.length:=by omega
   refine RowO.kd h3 hil ⟨fun h7=>⟨by unfold I64;omega,⟨i+1,out,by omega,by omega,⟨ol,fun j x hj=>?_⟩,hB3,e3⟩,by dsimp only;omega⟩,fun h7=>?_⟩
   ·rw[hout j x hj]
    have hjl:=(List.getElem?_eq_some_iff.1 hj).1
    rcases seg.pair ok (Nat.zero_le j) (by omega) hj with rfl|⟨y,rfl,hy,hyl,hc⟩
    ·rw[if_neg (by omega),if_neg (by omega)]
    ·have:((j:Int)<i\/(y:Int)<i)<->((j:Int)<(i+1:Nat)\/(y:Int)<(i+1:Nat)):=by
      constructor
      ·omega
      ·intro hx
       by_cases hji:j=i
       ·subst hji
        rcases hc with ⟨_,o,ho,hk⟩|⟨hlt',_⟩
        ·rw[List.getElem?_eq_getElem hil] at ho;cases ho;exact (h7 hk).elim
        ·omega
       ·by_cases hyi:y=i
        ·subst hyi
         rcases hc with ⟨hlt',_⟩|⟨_,o,ho,hk⟩
         ·omega
         ·rw[List.getElem?_eq_getElem hil] at ho;cases ho;exact (h7 hk).elim
        ·omega
     simp only[this]
   ·have hk7:t.flat[i].kind=7:=Classical.not_not.1 h7
    obtain⟨b,e,r,sg,okr,_,_⟩:=seg.at7 ok (Nat.zero_le i) (by omega) (List.getElem?_eq_getElem hil) hk7
    obtain⟨_,mi,sb,he,mk,_⟩:=sg.rep
    have hek:i+1+b.flat.length<t.flat.length:=(List.getElem?_eq_some_iff.1 he).1
    have hsb:=scan_tree okr.2.1 0
    refine⟨fun x y H'=>H'=H3/\∃j:Nat,y=((i+j:Nat):Int)/\((j<=b.flat.length/\∃d:Nat,scan (b.flat.take j) 0=some d/\x=d+1)\/(j=b.flat.length+1/\x=0)),fun _ y _=>(l2-y).toNat,⟨rfl,0,by simp,.inl ⟨by omega,0,by simp[scan],by omega⟩⟩,?_⟩
    rintro H4 x y ⟨e4,j,rfl,hj⟩
    subst e4
    refine⟨fun hx=>?_,fun hx=>?_⟩
    ·obtain⟨hjl,d,hd,rfl⟩:j<=b.flat.length/\∃d:Nat,scan (b.flat.take j) 0=some d/\x=d+1:=by
      rcases hj with h1|h1
      ·exact h1
      ·omega
     have hc:((i+j:Nat):Int)+1=((i+j+1:Nat):Int):=by omega
     rw[hc]
     have hdb:=scan_bound _ _ _ hd
     simp only[List.length_take] at hdb
     have hij:i+j+1<t.flat.length:=by omega
     refine⟨by unfold I64;omega,RowO.kd h3 hij ?_⟩
     rcases Nat.lt_or_ge j b.flat.length with hjb|hjb
     ·have hst:=scan_step hsb hjb hd
      have hp:=scan_prefix hjb hsb hd
      have hel:t.flat[i+j+1]=b.flat[j]:=by
       obtain⟨⟨p,s,eo,hpl⟩,_⟩:=sb
       have:t.flat[i+j+1]?=some b.flat[j]:=by
        rw[eo,List.getElem?_append_right (by omega),show i+j+1-p.length=j from by omega,List.getElem?_append_left hjb,List.getElem?_eq_getElem hjb]
       rw[List.getElem?_eq_getElem hij] at this;exact Option.some.inj this
      rw[<-hel] at hst hp
      refine⟨fun q7=>⟨by unfold I64;omega,RowO.kd h3 hij ⟨fun q0=>by omega,fun q0=>⟨⟨rfl,j+1,by omega,.inl ⟨by omega,d+1,?_,by omega⟩⟩,by dsimp only;omega⟩⟩⟩,fun q7=>RowO.kd h3 hij ⟨fun q0=>⟨by unfold I64;omega,⟨rfl,j+1,by omega,.inl ⟨by omega,d-1,?_,by have:=hp.2.2 q0;omega⟩⟩,by dsimp only;omega⟩,fun q0=>⟨⟨rfl,j+1,by omega,.inl ⟨by omega,d,?_,by omega⟩⟩,by dsimp only;omega⟩⟩⟩
      ·rw[hst,if_pos q7]
      ·rw[hst,if_neg q7,if_pos q0]
      ·rw[hst,if_neg q7,if_neg q0]
     ·have hjb':j=b.flat.length:=by omega
      have hel:t.flat[i+j+1]=e:=by
       have h1:t.flat[i+1+b.flat.length]?=some e:=he
       rw[show i+1+b.flat.length=i+j+1 from by omega,List.getElem?_eq_getElem hij] at h1
       exact Option.some.inj h1
      have he0:=okr.2.2.1
      have hd0:d=0:=by
       rw[hjb',List.take_length,hsb] at hd;cases hd;rfl
      rw[hel]
      refine⟨fun q7=>by omega,fun q7=>RowO.kd h3 hij ?_⟩
      rw[hel]
      exact⟨fun q0=>⟨by unfold I64;omega,⟨rfl,j+1,by omega,.inr ⟨by omega,by omega⟩⟩,by dsimp only;omega⟩,fun q0=>(q0 he0).elim⟩
    ·obtain⟨hjl,rfl⟩:j=b.flat.length+1/\x=0:=by
      rcases hj with ⟨_,d,_,h1⟩|h1
      ·omega
      ·exact h1
     have hkk:i+j=i+1+b.flat.length:=by omega
     rw[hkk]
     have hkl:i+1+b.flat.length<l2:=by omega
     refine hB3.setI (i:=i) (by omega) fun H5 b5 hb5 hB5 m5=>hB5.setI (i:=i+1+b.flat.length) (by omega) fun H6 b6 hb6 hB6 m6=>⟨by unfold I64;omega,⟨i+1,_,by omega,by omega,⟨by simpa using ol,fun z x hz=>?_⟩,hB6,(e3.trans_new m5 (by simpa using hb5)).trans_new m6 (by simpa using hb6)⟩,by dsimp only;omega⟩
     have hzl:=(List.getElem?_eq_some_iff.1 hz).1
     by_cases hzk:z=i+1+b.flat.length
     ·subst hzk
      rw[mk] at hz;cases hz
      rw[List.getElem?_set_self (by simp;omega),if_pos (by omega)]
     ·rw[List.getElem?_set_ne (by omega)]
      by_cases hzi:z=i
      ·subst hzi
       rw[mi] at hz;cases hz
       rw[List.getElem?_set_self (by omega),if_pos (by omega)]
      ·rw[List.getElem?_set_ne (by omega),hout z x hz]
       rcases seg.pair ok (Nat.zero_le z) (by omega) hz with rfl|⟨y,rfl,hy,hyl,hc⟩
       ·rw[if_neg (by omega),if_neg (by omega)]
       ·have hyi:y≠i:=by
         rintro rfl
         rw[mi] at hy;cases hy;omega
        have:((z:Int)<i\/(y:Int)<i)<->((z:Int)<(i+1:Nat)\/(y:Int)<(i+1:Nat)):=by omega
        simp only[this]
  ·have e:i=t.flat.length:=by omega
   subst e
   have ho:out=m:=by
    apply List.ext_getElem?
    intro j
    cases hm:m[j]? with
    | none=>
     rw[List.getElem?_eq_none_iff] at hm ⊢;omega
    | some x=>
     have hjl:=(List.getElem?_eq_some_iff.1 hm).1
     rw[hout j x hm]
     rcases seg.pair ok (Nat.zero_le j) (by omega) hm with rfl|⟨y,rfl,_⟩
     ·rw[if_neg (by omega)]
     ·rw[if_pos (by omega)]
   rw[ho] at hB3
   exact k a2 c2 H3 hB3 e3
end Go.VC
namespace Go.VC
open Go Go.Proofs
variable {H:Heap}{R:Value->Heap->Prop}
theorem RowO.kdn {H:Heap}{a:Option Addr}{l:Nat}{ops:List Op}(h:RowO H a l ops){i:Nat}{o:Op}(hi:ops[i]?=some o){K:Int->Prop}(hk:K o.kind) :
  ∃b q,At a b q/\((0:Int)<=i/\(i:Int)<l)/\∃n,rd H b (q+Int.toNat (i:Int)*5)=some (.int .i64 n)/\K n:=by
 obtain⟨h1,h2⟩:=List.getElem?_eq_some_iff.1 hi
 exact RowO.kd h h1 (by rw[h2];exact hk)
theorem RowO.vvn {H:Heap}{a:Option Addr}{l:Nat}{ops:List Op}(h:RowO H a l ops){i:Nat}{o:Op}(hi:ops[i]?=some o){K:UInt64->Prop}(hk:K o.v) :
  ∃b q,At a b q/\((0:Int)<=i/\(i:Int)<l)/\∃x:UInt64,rd H b (q+Int.toNat (i:Int)*5+4)=some (.int .u64 (x.toNat:Int))/\K x:=by
 obtain⟨h1,h2⟩:=List.getElem?_eq_some_iff.1 hi
 exact RowO.vv h h1 (by rw[h2];exact hk)
def Within (t:Tree):Prop:=∀(ops:List Op) (m:List Int) (a a':Option Addr) (l c l' c' i:Nat) (e:Int) (H:Heap) (R:Value->Heap->Prop),RowO H a l ops->RowI H a' l' m->l<=65536->Seg ops m i t->t.Ok->t.SizeOk->t.size<=65536->e=((i+t.flat.length:Nat):Int)->
  (∀H',Ext H H'->R (.int .i64 (t.size:Int)) H')->Ru 359 [.slice a l c,.slice a' l' c',.int .i64 (i:Int),.int .i64 e] H R
theorem size_bound {o e:Op}{b r:Tree}(h:(Tree.rep o b e r).SizeOk):b.size<=65536/\(b.size≠0->o.v.toNat<=65536)/\o.v.toNat*b.size<=65536:=by
 rcases h.2.1 with h0|⟨h1,h2⟩
 ·rw[h0];omega
 ·refine⟨h1,fun hb=>Nat.le_trans h2 (Nat.div_le_self _ _),?_⟩
  exact Nat.le_trans (Nat.mul_le_mul_right _ h2) (Nat.div_mul_le_self _ _)
theorem c358 {ops:List Op}{m:List Int}{a a':Option Addr}{l c l' c' i:Nat}{o e:Op}{b r:Tree}{H:Heap}{R:Value->Heap->Prop}(W:Within b)(h:RowO H a l ops)(h':RowI H a' l' m)(hl:l<=65536)(sg:Seg ops m i (.rep o b e r))
  (ok:(Tree.rep o b e r).Ok) (so:(Tree.rep o b e r).SizeOk) (k:∀H',Ext H H'->R (.int .i64 ((o.v.toNat*b.size:Nat):Int)) H'):Ru 358 [.slice a l c,.slice a' l' c',.int .i64 (i:Int)] H R:=by
 obtain⟨oi,mi,sb,_,_,_⟩:=sg.rep
 obtain⟨s1,s2,s3⟩:=size_bound so
 have hlen:=h.len
 have hil:=(List.getElem?_eq_some_iff.1 oi).1
 refine v358 _ _ _ _ _ _ _ ⟨by unfold I64;omega,h'.idxn mi ?_⟩
 have hc:(i:Int)+1=((i+1:Nat):Int):=by omega
 rw[hc]
 refine W _ _ _ _ _ _ _ _ _ _ _ _ h h' hl sb ok.2.1 so.1 s1 (by omega) fun H1 e1=>⟨_,rfl,fun H'=>H'=H1/\b.size≠0/\o.v≠0,⟨fun h0=>?_,fun h0=>?_⟩,?_⟩
 ·have:b.size=0:=by omega
  have:=k H1 e1;simp only[*,Nat.mul_zero] at this;exact this
 ·refine RowO.vvn (Ext.row e1 h) oi ⟨fun hv=>?_,fun hv=>⟨rfl,by omega,fun he=>hv (by rw[he];rfl)⟩⟩
  have:=k H1 e1
  have hv0:o.v.toNat=0:=by rw[hv];rfl
  simp only[hv0,Nat.zero_mul] at this;exact this
 ·rintro H2 ⟨e2,hb,hv⟩
  subst e2
  have hr:=Ext.row e1 h
  have hle:=s2 hb
  have e6:(UInt64.ofNat 65536).toNat=65536:=rfl
  have hm:(b.size:Int)*(o.v.toNat:Int)=((o.v.toNat*b.size:Nat):Int):=by push_cast;rw[Int.mul_comm]
  refine RowO.vvn hr oi ⟨fun hx=>?_,fun _=>RowO.vvn hr oi ⟨by omega,by rw[hm];unfold I64;omega,fun hx=>by rw[hm] at hx;omega,fun _=>RowO.vvn hr oi ⟨by omega,by rw[hm];unfold I64;omega,by rw[hm];exact k H2 e1⟩⟩⟩
  rw[UInt64.lt_iff_toNat_lt,e6] at hx;omega
theorem c359:∀(N:Nat) (t:Tree),t.flat.length<N->Within t
 | 0,t,hN=>by omega
 | N+1,t,hN=>by
  intro ops m a a' l c l' c' i e H R h h' hl sg ok so hsz he k
  subst he
  have hlen:=h.len
  have hsl:=sg.lt
  refine v359 _ _ _ _ _ _ _ _ ⟨fun n x H'=>∃(rest:Tree) (j:Nat),x=j/\Seg ops m j rest/\rest.Ok/\rest.SizeOk/\j+rest.flat.length=i+t.flat.length/\rest.flat.length<=t.flat.length/\0<=n/\n+rest.size=t.size/\Ext H H',fun _ x _=>(((i+t.flat.length:Nat):Int)-x).toNat,⟨t,i,rfl,sg,ok,so,rfl,Nat.le_refl _,by omega,by omega,Mod.refl⟩,?_⟩
  rintro H1 n x ⟨rest,j,rfl,sr,okr,sor,hj,hle,n0,hn,e1⟩
  have h1:=Ext.row e1 h
  have h1':=Ext.row e1 h'
  refine⟨fun hlt=>?_,fun hge=>?_⟩
  ·match rest,sr,okr,sor,hj,hle,hn with
   | .nil,_,_,_,hj,_,_=>simp[Tree.flat] at hj;omega
   | .op o r,sr,okr,sor,hj,hle,hn=>
    obtain⟨oj,_,sr'⟩:=sr.op
    simp only[Tree.flat,List.length_cons,Tree.size] at hj hle hn
    refine RowO.kdn h1 oj ⟨fun h7=>by have:=okr.2.1;omega,fun h7=>RowO.kdn h1 oj (c356 _ fun H2 e2=>⟨_,rfl,rfl,⟨by omega,by omega⟩,_,rfl,_,rfl,fun _=>⟨by unfold I64;omega,fun hx=>by omega,fun _=>⟨by unfold I64;omega,⟨r,j+1,by omega,sr',okr.2.2,sor,by omega,by omega,by omega,by omega,e1.thenExt e2⟩,by dsimp only;omega⟩⟩,fun hx=>?_⟩)⟩
    have h1:=okr.1;have h2:=okr.2.1
    simp[askD] at hx;omega
   | .rep o b e r,sr,okr,sor,hj,hle,hn=>
    have srr:=sr
    obtain⟨oj,mj,_,_,_,sr'⟩:=sr.rep
    obtain⟨s1,s2,s3⟩:=size_bound sor
    simp only[Tree.flat,List.length_cons,List.length_append,Tree.size] at hj hle hn
    refine RowO.kdn h1 oj ⟨fun h7=>?_,fun h7=>(h7 okr.1).elim⟩
    refine c358 (c359 N b (by omega)) h1 h1' hl srr okr sor fun H2 e2=>⟨_,rfl,by unfold I64;omega,RowI.idxn (Ext.row e2 h1') mj ⟨fun hx=>by omega,fun _=>⟨by unfold I64;omega,⟨r,j+2+b.flat.length,by omega,sr',okr.2.2.2,sor.2.2,by omega,by omega,by omega,by omega,e1.thenExt e2⟩,by dsimp only;omega⟩⟩⟩
  ·match rest,hj,hn with
   | .nil,_,hn=>
    simp only[Tree.size] at hn
    have:n=t.size:=by omega
    rw[this];exact k H1 e1
   | .op o r,hj,_=>simp[Tree.flat] at hj;omega
   | .rep o b e r,hj,_=>simp[Tree.flat] at hj;omega
theorem within (t:Tree):Within t:=c359 (t.flat.length+1) t (by omega)
theorem c322 {a:Option Addr}{l c:Nat}{t:Tree}(h:RowO H a l t.flat)(hl:l<=65536)(ok:t.Ok)(so:t.SizeOk)(hz:t.size<=65536)
  (k:∀H',Ext H H'->R (.tuple #[.int .i64 (t.size:Int),.int .i64 0]) H'):Ru 322 [.slice a l c] H R:=by
 have hlen:=h.len
 have sg:=Seg.top t
 refine v322 _ _ _ (c250 h hl ok fun a1 c1 H1 hB e1=>⟨_,_,_,_,rfl,by simp,fun _=>⟨fun n H'=>∃i:Nat,n=i/\i<=l/\Ext H1 H',fun n _=>(l-n).toNat,⟨0,rfl,by omega,Mod.refl⟩,?_⟩⟩)
 rintro H2 n ⟨i,rfl,hi,e2⟩
 have h2:=Ext.row (e1.thenExt e2) h
 have hB2:=hB.ext e2
 refine⟨fun hlt=>?_,fun hge=>?_⟩
 ·have hil:i<t.flat.length:=by omega
  refine RowO.kd h2 hil ⟨fun h7=>?_,fun h7=>⟨by unfold I64;omega,⟨i+1,by omega,by omega,e2⟩,by dsimp only;omega⟩⟩
  obtain⟨b,e,r,sgr,okr,sor,_⟩:=sg.at7 ok (Nat.zero_le i) (by omega) (List.getElem?_eq_getElem hil) h7
  obtain⟨oi,mi,sb,_,_,_⟩:=sgr.rep
  obtain⟨s1,s2,s3⟩:=size_bound (sor so)
  refine c358 (within b) h2 hB2.row hl sgr okr (sor so) fun H3 e3=>⟨_,rfl,fun hx=>by omega,fun _=>⟨by unfold I64;omega,RowI.idxn (hB2.ext e3).row mi ?_⟩⟩
  have hc:(i:Int)+1=((i+1:Nat):Int):=by omega
  rw[hc]
  exact within b _ _ _ _ _ _ _ _ _ _ _ _ (Ext.row e3 h2) (hB2.ext e3).row hl sb okr.2.1 (sor so).1 s1 (by omega) fun H4 e4=>⟨_,rfl,fun hx=>by omega,fun _=>⟨by unfold I64;omega,⟨i+1,by omega,by omega,(e2.thenExt e3).thenExt e4⟩,by dsimp only;omega⟩⟩
 ·have e:i=l:=by omega
  exact within t _ _ _ _ _ _ _ _ 0 _ _ _ h2 hB2.row hl sg ok so hz (by omega) fun H3 e3=>⟨_,rfl,fun hx=>by omega,fun _=>k H3 ((e1.thenExt e2).thenExt e3)⟩
end Go.VC
