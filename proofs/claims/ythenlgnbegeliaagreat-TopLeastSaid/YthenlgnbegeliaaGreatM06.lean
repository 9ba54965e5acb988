/- TOPLEAST returns true, whatever came in, and what came in reads as it did. No condition. -/
import Derived.OpenShut
import Derived.ProofKit
import Derived.Test.YthenlgnbegeliaaGreatRows
import Derived.WalkKit
import Derived.Test.YthenlgnbegeliaaGreatM05
namespace Go.VC
open Go Go.Proofs
theorem agg3_one {w : Int} {a b : Option Addr} {l m c d : Nat} : ∀ x ∈ [Value.int .u64 w, .slice a l c, .slice b m d], One x := by
  intro x hx; simp only [List.mem_cons, List.not_mem_nil, or_false] at hx; rcases hx with rfl | rfl | rfl <;> trivial
def cntL (d : DS) : List Int := [d.plain, d.tapd, d.losses, d.sweeps]
theorem c87 {H : Heap} {R : Value → Heap → Prop} {b : DB} {h : Hdr} {d : DS} {P : List (List UInt64)} {K post : List UInt64} (v : DrvM H b h d P K post) (k : ∀ H', Ext H H' → R (.agg (i64s (cntL d)).toArray) H') : Ru 87 [.pointer (some ⟨b.d, 0, none⟩)] H R := by
  refine v87 _ _ fun H2 q n2 => ⟨i64s (cntL d), rfl, ?_, ?_⟩
  · have v2 := v.ext n2.mod
    exact ⟨v2.top.rd 20 rfl, v2.top.rd 21 rfl, v2.top.rd 22 rfl, v2.top.rd 23 rfl, trivial⟩
  · exact cpy (f := fun cs => .agg cs.toArray) n2.own rfl rfl i64s_one n2.mod n2.ge k
theorem c42 {H : Heap} {R : Value → Heap → Prop} {be : Nat} {b : DB} {h : Hdr} {d : DS} {tags : List Int} {ended failed : Bool} {s : PS} {K post : List UInt64} (e : EngG H be b h d tags ended failed s K post)
    (k : ∀ H', Ext H H' → R (.agg (i64s (cntL d)).toArray) H') : Ru 42 [.pointer (some ⟨be, 0, none⟩)] H R := by
  refine v42 _ _ fun H1 p n1 => c54 (e.ext n1.mod).top (c87 (e.ext n1.mod).drv fun H2 e2 => ⟨i64s (cntL d), rfl, rfl, ?_⟩)
  exact cpy (f := fun cs => .agg cs.toArray) (n1.own.mod e2 (by simp)) rfl rfl i64s_one (n1.mod.thenExt e2) n1.ge k
theorem ahead_inv {h : Hdr} (hm : h.mode = 2) : RunInv h false Ahead (fun d tags => aM d.l d.at_ tags) := by
  refine ⟨fun d tags ah => (aM_bound ah.inv).1, fun d tags ah => ?_⟩
  have hnx : enext h d tags false = strideNext d.l false d.at_ (-1) tags := enext_ahead hm ah.pd false
  rcases a_step ah.inv with hfull | ⟨kk, nn, m, s1, s2, s3, s4, s5⟩
  · left; rw [hnx, hfull.next]; rfl
  · have s2' : mstep (dMS d tags) kk nn = some m := by
      have : dMS d tags = ⟨d.at_, -1, d.l, 0, tags⟩ := by simp only [dMS, ah.pd]
      rw [this]; exact s2
    exact .inr ⟨kk, nn, m, by rw [hnx]; exact s1 false, s2', ah.step s2' s3 s4 s5, s5⟩
theorem ahead_full {h : Hdr} (hm : h.mode = 2) {d : DS} {tags : List Int} (ah : Ahead d tags) (hn : enext h d tags false = none) : AFull d.l d.at_ tags := by
  rcases a_step ah.inv with hfull | ⟨kk, nn, m, s1, _⟩
  · exact hfull
  · rw [enext_ahead hm ah.pd false, s1 false] at hn; cases hn
structure EDone (H : Heap) (be : Nat) (b : DB) (h : Hdr) (l : Nat) (d : DS) (tags : List Int) (ended : Bool) (s : PS) (K post : List UInt64) : Prop where
  eng : EngG H be b h d tags ended false s K post
  pend : d.pend = 0
  stop : gnext h d tags ended = none
  len : d.l = l
  end_ : h.mode ≠ 2 ∨ ended = true
theorem EDone.grad {H : Heap} {be : Nat} {b : DB} {h : Hdr} {l : Nat} {d : DS} {tags : List Int} {ended : Bool} {s : PS} {K post : List UInt64} (w : EDone H be b h l d tags ended s K post) :
    s.ax = (grad h l l).1 ∧ s.ag = (grad h l l).2 ∧ d.loss = lossOf h l := by
  have hp := w.pend
  have hg : s.ax = (VC.grad h d.l.toNat (d.l - d.pend).toNat).1 ∧ s.ag = (VC.grad h d.l.toNat (d.l - d.pend).toNat).2 ∧ d.loss = lossOf h d.l.toNat := by
    rcases w.eng.sem with ⟨_, _, q⟩ | ⟨_, _, q⟩
    · exact q.gr (by omega)
    · exact q.gr (by omega)
  obtain ⟨g1, g2, g3⟩ := hg
  rw [w.len, w.pend] at g1 g2
  rw [w.len] at g3
  have hs : ((l : Int) - 0).toNat = l := by omega
  rw [hs] at g1 g2
  rw [Int.toNat_natCast] at g1 g2 g3
  exact ⟨g1, g2, g3⟩
theorem gnext_s {h : Hdr} (hm : h.mode ≠ 3) (d : DS) (tags : List Int) (ended : Bool) : gnext h d tags ended = enext h d tags ended := by unfold gnext; rw [if_neg hm]
theorem c22 {H : Heap} {R : Value → Heap → Prop} (h : Hdr) (hp : HAt) (r : HRows H h hp) (ok : PlanOk h) (x1 : Int) (hx1 : 0 ≤ x1 ∧ x1 ≤ 65535) (l : Nat) (hl : (l : Int) = if h.mode = 2 then x1 else h.len)
    (k : ∀ H' a1 c1 a2 c2 d, (h.mode = 1 → ∃ tags, ERun h false (d0 h (fixedOf h)) (tags0 h) d tags) → RowU H' a1 (nX h) (grad h l l).1 → RowU H' a2 (nT h) (grad h l l).2 → Ext H H' →
      R (.tuple #[.agg [.int .u64 ((lossOf h l).toNat : Int), .slice a1 (nX h) c1, .slice a2 (nT h) c2].toArray, .agg (i64s (cntL d)).toArray, .bool true]) H') : Ru 22 [.agg (hdrC h hp).toArray, .int .i64 x1] H R := by
  have hm := ok.1.mode
  refine v22 (hdrC h hp) x1 fun H1 p n1 H2 p1 n2 H3 p2 n3 => ⟨hdrC h hp, rfl, (n2.mod.new n3).rdL (by simp) n1.rdL, g9 h hp (r.ext ((n1.mod.new n2).new n3)) (fun _ H4 be b tg htg eng di hbe0 hbe1 e4 offA => ⟨_, _, rfl, ?_⟩) fun n H' _ hno _ => (hno ok).elim⟩
  refine ⟨fun H' => H' = H4, ⟨fun h' => (h' rfl).elim, fun _ => ⟨_, rfl, fun h' => by simp at h', fun _ => rfl⟩⟩, ?_⟩
  intro H4' h4
  subst h4
  have hS : ∀ x ∈ [b.d, b.m, b.w, be], H3.size ≤ x := by
    intro x hx
    simp only [List.mem_cons, List.not_mem_nil, or_false] at hx
    rcases hx with rfl | rfl | rfl | rfl
    · exact di.d
    · exact di.m
    · exact di.w
    · exact hbe0
  have hp1 : p1 < H2.size := n2.lt
  have hp2 : p2 < H3.size := n3.lt
  have hz23 := n3.mod.1
  have hp12 : p1 < p2 := by have := n3.ge; omega
  have e03 : Ext H H3 := (n1.mod.new n2).new n3
  have e04 : Ext H H4' := e03.thenExt e4
  have keep : ∀ {x : Nat} {cs : List Value} {H' : Heap}, x < H3.size → Own H4' x cs → Mod [b.d, b.m, b.w, be] H4' H' → Own H' x cs := fun hx o m => o.mod m fun hmem => by have := hS _ hmem; omega
  have toExt : ∀ {H' : Heap}, Mod [b.d, b.m, b.w, be] H4' H' → Ext H H' := fun m => e04.trans_new m fun x hx => .inr (Nat.le_trans e03.1 (hS x hx))
  have o1 : Own H4' p1 [.int .u64 0, .slice none 0 0, .slice none 0 0] := (n2.own.mod n3.mod (by simp)).mod e4 (by simp)
  have o2 : Own H4' p2 [.int .i64 0, .int .i64 0, .int .i64 0, .int .i64 0] := n3.own.mod e4 (by simp)
  have sub3 : ∀ x ∈ [b.d, b.m, b.w], x ∈ [b.d, b.m, b.w, be] := by simp +contextual
  generalize hpA : post0 h = pa at *
  let D : Heap → Prop := fun H' => ∃ d tags s K ended, EDone H' be b h l d tags ended s K pa ∧ (h.mode = 1 → ERun h false (d0 h (fixedOf h)) (tags0 h) d tags) ∧ Mod [b.d, b.m, b.w, be] H4' H'
  let W : Int → Heap → Prop := fun n H' => ∃ d tags s, EngS H' be b h d tags false false s pa ∧ d.l = n ∧ Ahead d tags ∧ AFull d.l d.at_ tags ∧ enext h d tags false = none ∧ Mod [b.d, b.m, b.w, be] H4' H'
  have ahead_run : ∀ {Q : Value → Heap → Prop} {d tags s H'}, h.mode = 2 → EngS H' be b h d tags false false s pa → Ahead d tags → Mod [b.d, b.m, b.w, be] H4' H' → (∀ n H'', W d.l H'' → Q (.tuple #[.int .i64 n, .int .i64 0]) H'') → Ru 17 [.pointer (some ⟨be, 0, none⟩)] H' Q := by
    intro Q d tags s H' hm2 eg ah m kk
    have ab := aM_bound ah.inv
    have l1 := ah.inv.mok.l1
    have l0 := ah.inv.mok.l0
    dsimp only at l1 l0
    refine c17 eg (.inr hm2) (ahead_inv hm2) ah ah.cnt (by omega) (by omega) fun n d' tags' s' H'' stop inv run eg' m' => kk n H'' ⟨d', tags', s', eg', run.l, inv, ahead_full hm2 inv stop, stop, m.trans (m'.mono sub3)⟩
  have first : Ru 17 [.pointer (some ⟨be, 0, none⟩)] H4' (fun r H' => ∃ n, r = .tuple #[.int .i64 n, .int .i64 0] ∧ ((h.mode ≠ 2 ∧ D H') ∨ (h.mode = 2 ∧ W 0 H'))) := by
    have hm' : h.mode = 1 ∨ h.mode = 2 ∨ h.mode = 3 := by omega
    rcases hm' with hm1 | hm2 | hm3
    · have engs := eng.s (by omega)
      rw [htg (by omega)] at engs
      have hmu := offM_bound (off_first ok hm1)
      have hle : (d0 h (fixedOf h)).l = h.len := rfl
      have hlen := ok.1.len
      unfold lenOk at hlen
      rw [if_neg (by omega)] at hlen
      rw [hle] at hmu
      have hb1 : h.len * (3 * h.len + 10) ≤ 65536 * 200000 := Int.mul_le_mul (by omega) (by omega) (by omega) (by omega)
      refine c17 engs (.inl hm1) (off_inv hm1 false) (off_first ok hm1) (B := 0) (d0_cnt _ _) (by rw [hle]; omega) (by omega) fun n d' tags' s' H5 stop inv run eg m5 => ⟨n, rfl, .inl ⟨by omega, d', tags', s', _, false, ⟨eg.g (by omega), off_end hm1 inv stop, by rw [gnext_s (by omega)]; exact stop, ?_, .inl (by omega)⟩, fun _ => run, m5.mono sub3⟩⟩
      rw [run.l, hl, if_neg (by omega)]; rfl
    · have engs := eng.s (by omega)
      rw [htg (by omega)] at engs
      have h0l : (d0 h (fixedOf h)).l = 0 := (str_first ok hm2).1
      refine ahead_run hm2 engs (Ahead.first ok hm2) Mod.refl fun n H5 w => ⟨n, rfl, .inr ⟨hm2, ?_⟩⟩
      rwa [h0l] at w
    · obtain ⟨f1, f2, f3, _⟩ := base_facts ok hm3
      refine c17b eng hm3 (d0_cnt _ _) (by omega) fun n d' s' K' H5 stop hl5 eg m5 => ⟨n, rfl, .inl ⟨by omega, d', tg, s', K', false, ⟨eg, ?_, by unfold gnext; rw [if_pos hm3, stop]; rfl, ?_, .inl (by omega)⟩, fun h1 => by omega, m5.mono sub3⟩⟩
      · have sem := (eg.b hm3).2
        have := sem.at1; have := sem.p0; have := sem.p1
        unfold bnext at stop
        split at stop
        · split at stop <;> cases stop
        · split at stop
          · cases stop
          · omega
      · rw [hl5, hl, if_neg (by omega)]; rfl
  refine Runs.mono first ?_
  rintro _ H5 ⟨n, rfl, hs⟩
  refine ⟨n, 0, rfl, fun f H' => f = 0 ∧ D H', ⟨fun f fed H' => f = 0 ∧ 1 ≤ fed ∧ fed ≤ x1 + 2 ∧ (D H' ∨ (h.mode = 2 ∧ fed ≤ x1 + 1 ∧ W (fed - 1) H')), fun _ fed _ => (x1 + 3 - fed).toNat, ⟨rfl, by omega, by omega, ?_⟩, ?_⟩, ?_⟩
  · rcases hs with ⟨_, hd⟩ | ⟨hm2, hw⟩
    · exact .inl hd
    · exact .inr ⟨hm2, by omega, hw⟩
  · rintro H6 f fed ⟨rfl, hf1, hf2, hs⟩
    refine ⟨fun H' => W (fed - 1) H' ∧ h.mode = 2 ∧ fed ≤ x1 + 1, ⟨fun _ => ?_, fun h' => (h' rfl).elim⟩, ?_⟩
    · rcases hs with ⟨d, tags, s, K, ended, dn, run, m⟩ | ⟨hm2, hle, d, tags, s, eg, hdl, ah, full, stop, m⟩
      · refine g11 dn.eng fun H7 e7 => ⟨_, rfl, fun hc => ?_, fun _ => ⟨rfl, d, tags, s, K, ended, ⟨dn.eng.ext e7, dn.pend, dn.stop, dn.len, dn.end_⟩, run, m.thenExt e7⟩⟩
        rcases dn.end_ with h1 | h1
        · simp [h1] at hc
        · simp [h1] at hc
      · refine c11 eg (.inr hm2) fun H7 e7 => ⟨_, rfl, fun _ => ⟨by unfold I64; omega, fun _ => ⟨⟨d, tags, s, eg.ext e7, hdl, ah, full, stop, m.thenExt e7⟩, hm2, hle⟩, fun h' => by omega⟩, fun hc => ?_⟩
        rw [stop] at hc; simp [hm2] at hc
    · rintro H7 ⟨⟨d, tags, s, eg, hdl, ah, full, stop, m⟩, hm2, hle⟩
      refine c14 eg hm2 ah.pd stop (decide (fed ≤ x1)) (fun hmore H8 eg8 m8 => ⟨0, rfl, fun h' => (h' rfl).elim, fun _ => ?_⟩) (fun hmore hl65 H8 eg8 m8 => ⟨0, rfl, fun h' => (h' rfl).elim, fun _ => ?_⟩) (fun hmore hl65 => ?_)
      · have hfed : ¬ fed ≤ x1 := by simpa using hmore
        have sinv : SInv d.l d.at_ d.pend tags := .inl ⟨ah.pd, full⟩
        have sb := sM_bound sinv
        have ab := aM_bound full.inv
        have l1 := ah.inv.mok.l1
        have l0 := ah.inv.mok.l0
        dsimp only at l1 l0
        have hc : DCnt d 288230376151711744 := ah.cnt.mono (by omega)
        refine c17 eg8 (.inr hm2) (str_inv hm2) sinv hc (by omega) (by omega) fun nA dA tA sA H9 stopA invA runA eg9 m9 => ⟨_, _, rfl, by unfold I64; omega, ⟨rfl, by omega, by omega, .inl ⟨dA, tA, sA, _, true, ⟨eg9.g (by omega), str_end hm2 invA stopA, by rw [gnext_s (by omega)]; exact stopA, ?_, .inr rfl⟩, fun h1 => by omega, ?_⟩⟩, by dsimp only; omega⟩
        · rw [runA.l, hdl, hl, if_pos hm2]; omega
        · exact (m.trans (m8.mono (by simp))).trans (m9.mono sub3)
      · have hfed : fed ≤ x1 := by simpa using hmore
        refine ahead_run hm2 eg8 (ah.more full hl65) (m.trans (m8.mono (by simp +contextual))) fun nA H9 w9 => ⟨_, _, rfl, by unfold I64; omega, ⟨rfl, by omega, by omega, .inr ⟨hm2, by omega, ?_⟩⟩, by dsimp only; omega⟩
        have e : ({ d with l := d.l + 1 } : DS).l = fed + 1 - 1 := by show d.l + 1 = _; omega
        rwa [e] at w9
      · have hfed : fed ≤ x1 := by simpa using hmore
        omega
  · rintro H6 f ⟨rfl, d, tags, s, K, ended, dn, run, m⟩
    obtain ⟨g1, g2, g3⟩ := dn.grad
    refine g18 dn.eng dn.pend fun H7 a1 c1 a2 c2 bx bt e7 => ⟨_, rfl, _, rfl, fun H8 q n8 => ⟨rfl, agg3_one, n8.own.w 0 3 rfl, fun H9 h9 => ?_⟩⟩
    obtain ⟨e9, o9⟩ := tmpE (cs := [.int .u64 (d.loss.toNat : Int), .slice a1 (nX h) c1, .slice a2 (nT h) c2]) n8 rfl h9
    have e79 := e7.thenExt e9
    refine ⟨_, rfl, o9.1, c42 (dn.eng.ext e79) fun H10 e10 => ⟨_, rfl, rfl, e10.rdL (by simp) o9.1, fun _ => ⟨fun _ => ?_, fun h' => (h' rfl).elim⟩, fun h' => (h' rfl).elim⟩⟩
    refine g31 (dn.eng.ext (e79.thenExt e10)) fun H11 e11 => ⟨_, rfl, (e10.thenExt e11).rdL (by simp) o9.1, rfl, agg3_one, ?_, fun H12 h12 => ?_⟩
    · exact ((keep (by omega) o1 m).mod ((e79.thenExt e10).thenExt e11) (by simp)).w 0 3 rfl
    have m11 := m.thenExt ((e79.thenExt e10).thenExt e11)
    have w1 := (keep (by omega) o1 m11).swrL (vs := [.int .u64 (d.loss.toNat : Int), .slice a1 (nX h) c1, .slice a2 (nT h) c2]) rfl
    rw [← h12] at w1
    have m12 : Mod [p1] H11 H12 := by rw [h12]; exact Mod.refl.wrL (.inl (by simp))
    have w2 := (keep hp2 o2 m11).mod m12 (by simp; omega)
    refine ⟨rfl, i64s_one, w2.w 0 4 rfl, fun H13 h13 => ?_⟩
    have w2' := w2.swrL (vs := i64s (cntL d)) rfl
    rw [← h13] at w2'
    have m13 : Mod [p2] H12 H13 := by rw [h13]; exact Mod.refl.wrL (.inl (by simp))
    have w1' := w1.mod m13 (by simp; omega)
    have m13' : Mod [p1, p2] H11 H13 := (m12.mono (by simp)).trans (m13.mono (by simp))
    have hp1g := n2.ge
    have hp2g := n3.ge
    have hz12 := n1.mod.1
    have hz22 := n2.mod.1
    have fin : Ext H H13 := (toExt m11).trans_new m13' (by simp; omega)
    have hz3 := toExt m
    have big : H3.size ≤ H6.size := Nat.le_trans e4.1 m.1
    refine ⟨_, rfl, w1'.1, _, rfl, w2'.1, ?_⟩
    rw [dn.stop, dn.pend]
    rw [g1] at bx
    rw [g2] at bt
    have bx' := (bx.ext (e9.thenExt (e10.thenExt e11))).mod m13' (by simp; omega)
    have bt' := (bt.ext (e9.thenExt (e10.thenExt e11))).mod m13' (by simp; omega)
    have kk := k H13 a1 c1 a2 c2 d (fun h1 => ⟨tags, run h1⟩) bx'.row bt'.row fin
    rw [g3]
    simpa using kk
end Go.VC
namespace Go.VC
open Go Go.Proofs
theorem up_run {h : Hdr} (hm : h.mode = 1) {R s : Nat} {c : Int} {ended : Bool} {d : DS} {tags : List Int} {d' : DS} {tags' : List Int} (r : ERun h ended d tags d' tags') :
    d.l ≤ R → OffInv d.l d.at_ d.pend tags → Up R s c d.l d.at_ d.pend d.plain tags → Up R s c d'.l d'.at_ d'.pend d'.plain tags' := by
  induction r with
  | refl => intro _ _ u; exact u
  | @step d tags k n m d' tags' e1 e2 _ ih =>
    intro hR hi hu
    have hx : revNext d.l d.at_ d.pend tags = some (k, n) := by unfold enext at e1; rw [if_pos hm] at e1; exact e1
    rcases off_step hi with ⟨h0, _⟩ | ⟨k', n', m', h1, h2, h3, _⟩
    · rw [hx] at h0; cases h0
    rw [hx] at h1
    cases h1
    have e2' : mstep ⟨d.at_, d.pend, d.l, 0, tags⟩ k n = some m := e2
    rw [e2'] at h2
    cases h2
    exact ih hR h3 (up_step hR hi hu hx e2')
theorem least_all {h : Hdr} (ok : PlanOk h) (hm : h.mode = 1) {d : DS} {tags : List Int} (r : ERun h false (d0 h (fixedOf h)) (tags0 h) d tags) {acs : List (Int × Int)} {m : MS1} (q : MRun ⟨0, -1, h.len, 0, List.replicate (slotsOf h).toNat (-1)⟩ acs m) (hp : m.pend = 0) : d.plain ≤ m.total := by
  have sem := dsem0 ok (show h.mode ≠ 3 by omega)
  have hmok : MOk ⟨0, -1, h.len, 0, List.replicate (slotsOf h).toNat (-1)⟩ := sem.mok
  have hl0 : 0 ≤ h.len := hmok.l0
  obtain ⟨L, hL⟩ : ∃ L : Nat, h.len = L := ⟨h.len.toNat, by omega⟩
  have hu := up_run hm r (R := L) (s := (slotsOf h).toNat) (c := if 0 < h.len then bst L h.len.toNat (slotsOf h).toNat else 0) (by show h.len ≤ L; omega) (off_first ok hm) (Up.first L _ hl0)
  have hle := hu.le
  rw [hL] at q hmok
  by_cases h0 : 0 < L
  · have := low_all L h0 hmok q hp
    rw [if_pos (by omega), hL, Int.toNat_natCast] at hle
    omega
  · rw [if_neg (by omega)] at hle
    obtain ⟨_, K, _, hc⟩ := low_left L L q hmok hp (Int.le_refl _)
    have := segs_nonneg L (List.replicate (slotsOf h).toNat (-1 : Int)).length K (endN ⟨0, -1, L, 0, List.replicate (slotsOf h).toNat (-1)⟩)
    dsimp only at hc
    omega
theorem c4 {H : Heap} {R : Value → Heap → Prop} (h : Hdr) (hp : HAt) (r : HRows H h hp) {a : Option Addr} {n c : Nat} {acs : List (Int × Int)} (hr : RowA H a n acs) (hn : n ≤ 17592186044416) (k : ∀ H', Ext H H' → R (.bool true) H') : Ru 4 [.agg (hdrC h hp).toArray, .slice a n c] H R := by
  refine v4 (hdrC h hp) _ _ _ fun H1 p n1 => ⟨hdrC h hp, rfl, n1.rdL, ?_⟩
  have e1 := n1.mod
  refine c8 h hp (r.ext e1) (fun ok H2 e2 => ⟨i64s (planL h), rfl, _, rfl, fun H3 p1 n3 => ⟨rfl, i64s_one, n3.own.w 0 4 rfl, fun H4 h4 => ?_⟩⟩) (fun n H2 hn hno e2 => ⟨i64s [0, 0, 0, 0], rfl, _, rfl, fun H3 p1 n3 => ⟨rfl, i64s_one, n3.own.w 0 4 rfl, fun H4 h4 => ?_⟩⟩)
  rotate_left
  · obtain ⟨e4, o4⟩ := tmpE (cs := i64s [0, 0, 0, 0]) n3 rfl h4
    exact ⟨fun _ => False, ⟨fun _ => c10 fun H7 e7 => ⟨_, rfl, k H7 ((e1.thenExt (e2.thenExt e4)).thenExt e7)⟩, fun h' => (h' hn).elim⟩, fun _ h' => h'.elim⟩
  obtain ⟨e4, o4⟩ := tmpE (cs := i64s (planL h)) n3 rfl h4
  have e14 := e2.thenExt e4
  have e04 := e1.thenExt e14
  have rp : ∀ {H' : Heap}, Ext H4 H' → ∀ i v, (hdrC h hp)[i]? = some v → rd H' p i = some v := fun e i v hv => (e14.thenExt e).rd (by simp) (by rw [n1.rd]; exact hv)
  refine ⟨fun H' => H' = H4 ∧ h.mode = 1, ⟨fun h' => (h' rfl).elim, fun _ => ⟨_, rp Mod.refl 0 _ rfl, fun _ => c10 fun H7 e7 => ⟨_, rfl, k H7 (e04.thenExt e7)⟩, fun hm => ⟨rfl, Classical.not_not.1 hm⟩⟩⟩, ?_⟩
  rintro H4' ⟨h4', hm⟩
  subst h4'
  have slots := slots_small ok
  have hlen := ok.1.len
  unfold lenOk at hlen
  rw [if_neg (by omega)] at hlen
  obtain ⟨L, hL⟩ : ∃ L : Nat, h.len = L := ⟨h.len.toNat, by omega⟩
  refine ⟨hdrC h hp, rfl, e14.rdL (by simp) n1.rdL, c22 h hp (r.ext e04) ok 0 (by omega) L (by rw [if_neg (by omega)]; exact hL.symm) fun H5 a1 c1 a2 c2 d run _ _ e05 => ⟨_, rfl, _, rfl, _, rfl, fun H6 p2 n6 H7 p3 n7 => ⟨rfl, agg3_one, ?_, fun H8 h8 => ⟨rfl, i64s_one, ?_, fun H9 h9 => ?_⟩⟩⟩⟩
  · exact (n6.own.mod n7.mod (by simp)).w 0 3 rfl
  · have m8 : Mod [p2] H7 H8 := by rw [h8]; exact Mod.refl.wrL (.inl (by simp))
    exact (n7.own.mod m8 (by have := n6.lt; have := n7.ge; simp; omega)).w 0 4 rfl
  have m8 : Mod [p2] H7 H8 := by rw [h8]; exact Mod.refl.wrL (.inl (by simp))
  have o8 := n7.own.mod m8 (by have := n6.lt; have := n7.ge; simp; omega)
  have o9 := o8.swrL (vs := i64s (cntL d)) rfl
  rw [← h9] at o9
  have m9 : Mod [p3] H8 H9 := by rw [h9]; exact Mod.refl.wrL (.inl (by simp))
  have e59 : Ext H5 H9 := (n6.mod.new n7).trans_new ((m8.mono (by simp)).trans (m9.mono (by simp)) : Mod [p2, p3] H7 H9) (by have := n6.ge; have := n7.ge; have := n6.mod.1; simp; omega)
  have e49 := e05.thenExt e59
  have o49 := o4.mod e49 (by simp)
  obtain ⟨tags, run⟩ := run hm
  refine ⟨_, rp e49 7 _ rfl, _, o49.rd 3 rfl, c23 h.len (slotsOf h) (by omega) (by omega) (Ext.row (e04.thenExt e49) hr) hn (fun e n H10 he e10 => ⟨_, _, _, rfl, fun _ => ⟨fun _ => c10 fun H11 e11 => ⟨_, rfl, k H11 (((e04.thenExt e49).thenExt e10).thenExt e11)⟩, fun h' => (h' he).elim⟩, fun h' => by cases h'⟩) fun m n H10 q hpend e10 => ⟨_, _, _, rfl, fun _ => ⟨fun h' => (h' rfl).elim, fun _ => ⟨d.plain, (o9.mod e10 (by simp)).rd 0 rfl, fun _ => c10 fun H11 e11 => ⟨_, rfl, k H11 (((e04.thenExt e49).thenExt e10).thenExt e11)⟩, fun h' => (h' (least_all ok hm run q hpend)).elim⟩⟩, fun h' => by cases h'⟩⟩
end Go.VC
namespace Go.Proofs.YthenlgnbegeliaaGreat
open Go Go.VC Go.ChangeShapes Go.WideShapes Go.ChangeAt Go.RowKit Go.WideElems
set_option linter.unusedVariables false
theorem typs4 : ∀ t ∈ [27, 62], Tryz.prog.readableRec t = true ∧ t < Tryz.prog.types.size := by
  intro t ht
  simp only [List.mem_cons, List.not_mem_nil, or_false] at ht
  rcases ht with rfl | rfl
  · exact ⟨by kernel_rfl, of_decide_eq_true (by kernel_rfl)⟩
  · exact ⟨by kernel_rfl, of_decide_eq_true (by kernel_rfl)⟩
set_option maxRecDepth 100000 in
theorem lifted4 (os : Os) (started : os.Started) (H : Type) (enc : TypeId × Value → H) :
    ReturnsInHanded {} Tryz.checked os 4 .any (Rows.topLeastSpec.pre6 enc Tryz.prog Tryz.f4 Rows.topLeastRow.domain false) (Rows.topLeastSpec.post enc Tryz.prog Tryz.f4 false true false false) := by
  refine lift_gen started Tryz.func4 (by kernel_rfl)
    (ChangeSpec.witness6 (enc := enc) (C := Tryz.checked) false ⟨#[], #[.agg #[.int .i64 0, .slice none 0 0, .slice none 0 0, .int .i64 0, .slice none 0 0, .int .i64 0, .slice none 0 0, .int .i64 0, .int .i64 0], .slice none 0 0], []⟩ 8 (by kernel_rfl) (by kernel_rfl) (by kernel_rfl) (by kernel_rfl))
    rfl (by kernel_rfl) (by rw [Tryz.params4]; exact typs4) (fun ds hl => ?_) ?_
  · rw [Tryz.params4] at hl
    match ds, hl with
    | [d1, d2], _ => rfl
  intro W base args ds before hA hval hwt
  rw [Tryz.params4] at hA hwt
  obtain ⟨v0, vs0, d0, ds0, p0, q0, hargs, rfl, rfl, h0, r0⟩ := trodAll_cons hA
  obtain ⟨v1, vs1, d1, ds1, p1, q1, rfl, rfl, rfl, h1, r1⟩ := trodAll_cons r0
  obtain ⟨rfl, rfl, rfl⟩ := trodAll_nil r1
  obtain rfl : args = #[v0, v1] := by cases args; simp_all
  obtain ⟨hd, hp, rfl, hrows⟩ := open_hdr (fun t ht => hval 0 t v0 (by rw [Tryz.params4, ht]; rfl) rfl) h0
  obtain ⟨a1, l1, c1, rfl⟩ := ok_slice und62 (fun t ht => hval 1 t v1 (by rw [Tryz.params4, ht]; rfl) rfl)
  simp only [DataW.weightsEach, List.all_append, Bool.and_eq_true] at hwt
  obtain ⟨fuel, hf⟩ := h1
  obtain ⟨a, l, c, acs, e1, hr, hw⟩ := open_acts hf
  have e2 : Value.slice a1 l1 c1 = .slice a l c := by
    have : (Value.slice a1 l1 c1).cells.toList = [Value.slice a1 l1 c1] := rfl
    rw [this] at e1
    simpa using e1
  cases e2
  exact c4 (R := fun r H' => r = .bool true ∧ Ext W.heap H') hd hp (hrows hwt.1) hr (hw hwt.2.1) fun H' e => ⟨rfl, e⟩
end Go.Proofs.YthenlgnbegeliaaGreat
namespace Go.Proofs.YthenlgnbegeliaaGreat
open Go
theorem name4 : Tryz.pinned.checked.prog.funcNamed Rows.topLeastRow.func = some 4 := by kernel_rfl
theorem ft1_4 : Rows.topLeastRow.wf (OpenSpec.ofChange Rows.topLeastSpec) = true := by kernel_rfl
theorem ft2_4 : laidOutB Tryz.prog = true := by kernel_rfl
theorem ft3_4 : mapsRowed Tryz.prog = true := by kernel_rfl
theorem ft4_4 : Tryz.f4.params.all (Tryz.prog.readableRec ·) = true := by kernel_rfl
theorem ft5_4 : namedTie Tryz.prog Rows.topLeastRow.named Rows.topLeastSpec.vars = true := by kernel_rfl
theorem ft6_4 : (Tryz.prog.stops == []) = true := by kernel_rfl
theorem ft7_4 : (Tryz.prog.stopKnobs == []) = true := by kernel_rfl
theorem ft12_4 : Tryz.prog.stopsHeard = true := by kernel_rfl
theorem ft13_4 : Tryz.prog.mayEnter = true := by kernel_rfl
theorem ft14_4 : (Rows.topLeastRow.plainKeys == Tryz.prog.plainKeys) = true := by kernel_rfl
theorem ft15_4 : (Rows.topLeastRow.lifted == Tryz.prog.liftsFinal) = true := by kernel_rfl
theorem ft16_4 : (Tryz.prog.make == some Rows.topLeastRow.make) = true := by kernel_rfl
end Go.Proofs.YthenlgnbegeliaaGreat
namespace Go.Proofs.YthenlgnbegeliaaGreat
open Go
theorem unf4 : Tryz.prog.unfollowed 4 = true := by kernel_rfl
theorem ft8_4 : (Rows.topLeastRow.inPlace == Tryz.prog.inPlace 4) = true := by kernel_rfl
theorem ft9_4 : (Rows.topLeastRow.unfollowed == Tryz.prog.unfollowed 4) = true := by rw [unf4]; rfl
theorem ft10_4 : (Rows.topLeastRow.recurses == Tryz.prog.recurses 4) = true := by
  have h : Tryz.prog.recurses 4 = true := by unfold Program.recurses; rw [unf4, Bool.true_or]
  rw [h]; rfl
theorem ft11_4 : (Rows.topLeastRow.named == Tryz.prog.varsNamed 4) = true := by kernel_rfl
end Go.Proofs.YthenlgnbegeliaaGreat
namespace Go.Proofs.YthenlgnbegeliaaGreat
open Go
theorem facts4 : joinedFacts Tryz.prog 4 Tryz.f4 Rows.topLeastSpec Rows.topLeastRow = true := by
  simp only [joinedFacts, Bool.and_eq_true]
  exact ⟨⟨⟨⟨⟨⟨⟨⟨⟨⟨⟨⟨⟨⟨⟨⟨⟨⟨⟨⟨⟨⟨⟨⟨⟨⟨⟨⟨⟨⟨⟨ft1_4, ft2_4⟩, ft3_4⟩, ft4_4⟩, ft5_4⟩, rfl⟩, ft6_4⟩, rfl⟩, ft7_4⟩, ft8_4⟩, ft9_4⟩, ft10_4⟩, ft11_4⟩, (by kernel_rfl)⟩, (by kernel_rfl)⟩, (by kernel_rfl)⟩, (by kernel_rfl)⟩, (by kernel_rfl)⟩, (by kernel_rfl)⟩, (by kernel_rfl)⟩, (by kernel_rfl)⟩, (by kernel_rfl)⟩, ft14_4⟩, rfl⟩, ft12_4⟩, ft13_4⟩, ft15_4⟩, ft16_4⟩, (by kernel_rfl)⟩, (by kernel_rfl)⟩, (by kernel_rfl)⟩, (by kernel_rfl)⟩
theorem inst4 : decide (Tryz.f4.isInstance Tryz.prog Rows.topLeastRow.origin Rows.topLeastRow.targs) = true := by kernel_rfl
theorem wrap4 : Tryz.f4.isWrapper Tryz.prog Rows.topLeastRow.wrapper Rows.topLeastRow.mainSum := by
  unfold Func.isWrapper; first | (rw [if_pos (by decide +kernel)]; kernel_rfl) | (rw [if_neg (by decide +kernel)]; exact ⟨rfl, rfl⟩)
theorem over4 : Rows.topLeastRow.holds Tryz.pinned (OpenSpec.ofChange Rows.topLeastSpec) :=
  OpenClaim.holds_of_wide 4 Tryz.f4 rfl rfl rfl rfl rfl rfl rfl ⟨rfl, rfl, rfl, rfl, rfl⟩ rfl rfl rfl rfl rfl name4 Tryz.func4 facts4
    (of_decide_eq_true inst4) wrap4
    (fun os started H enc _ => lifted4 os started H enc)
theorem topLeast : Rows.TopLeastSaid := over4
end Go.Proofs.YthenlgnbegeliaaGreat
