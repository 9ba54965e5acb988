/- Texts that the claim rests on: CNew3, CEng, CEng2, POff, PStr, CEng3, VRef, CRef1, CRef2, CRef3, CRef8, CRef11, CRef12, PAlong, VTop, CWakes, CPlain, PBest, PLow, PUp, CLst1, CRowA, CStr1, CBase. No condition. -/
import Derived.Test.YthenlgnbegeliaaGreatM04
namespace Go.VC
open Go Go.Proofs
theorem k0_slots (h : Hdr) (hp : PlanOk h) (hm : h.mode ≠ 3) : k0 h = slotsW (nX h) (heldOf h (List.replicate (slotsOf h).toNat (-1))) := by
  obtain ⟨a, b, c, d⟩ := slots_small hp
  have hs := slot_eq hm
  have e : heldOf h (List.replicate (slotsOf h).toNat (-1)) = List.replicate (slotsOf h).toNat none := by
    unfold heldOf; rw [List.map_replicate]; simp
  rw [e]
  have key : ∀ n : Nat, slotsW (nX h) (List.replicate n none) = zeros (n * (nX h + 1)) := by
    intro n
    induction n with
    | zero => simp [slotsW, zeros]
    | succ n ih =>
      rw [List.replicate_succ]
      simp only [slotsW, List.flatMap_cons] at ih ⊢
      rw [ih]
      simp only [slotW, zeros, List.replicate_append_replicate, Nat.add_mul, Nat.one_mul]
      congr 1; omega
  rw [key]
  unfold k0
  congr 1
  have h1 : slotOf h * slotsOf h = (((slotsOf h).toNat * (nX h + 1) : Nat) : Int) := by
    push_cast
    rw [hs, Int.mul_comm]
    congr 1; omega
  omega
theorem drvL_eq (h : Hdr) (b : DB) (d : DS) (s : Value) (hs : s = slotsPtr h b) : drvL (i64s (planL h)) (hdrC h b.hp) (.slice b.pa 10 b.pc) (.pointer (some ⟨b.a, 0, none⟩)) s (.pointer (some ⟨b.m, 0, none⟩)) d = drvC h b d := by
  subst hs; rfl
theorem c49 {H : Heap} {R : Value → Heap → Prop} (h : Hdr) (p : HAt) (r : HRows H h p)
    (k1 : PlanOk h → ∀ H' b, Drv H' b h (d0 h (fixedOf h)) (s0 h) (k0 h) (post0 h) → DIn h b H.size → Ext H H' → R (.tuple #[.pointer (some ⟨b.d, 0, none⟩), .int .i64 0]) H')
    (k2 : ∀ n H', n ≠ 0 → ¬ PlanOk h → Ext H H' → R (.tuple #[.pointer none, .int .i64 n]) H') : Ru 49 [.agg (hdrC h p).toArray] H R := by
  refine v49 (hdrC h p) fun H1 q n1 => ⟨_, rfl, n1.rdL, c105 h p (r.ext n1.mod) (fun hp H2 bd hq pa pc o2 rr2 rp2 e2 hbd lx lt ls ll lp nx nt ns nl np => ⟨_, _, rfl, by simp, fun _ => ?_⟩) (fun n H2 hn hno e2 => ⟨_, _, rfl, fun _ => k2 n H2 hn hno (n1.mod.thenExt e2), fun h' => (h' hn).elim⟩)⟩
  have ok := hp.1
  obtain ⟨sl0, sl1, sl2, sl3⟩ := slots_small hp
  have htp := parts_small ok (tapeOf h) (List.getElem_mem _)
  have hfx := fixed_eq h ok
  obtain ⟨rg1, rg2⟩ := ok_regs ok
  obtain ⟨d1, d2, d3, d4, d5⟩ := ok.dims
  have hwd := ok.words
  have hnS : nS h = h.step.regs.toNat := rfl
  have hw1 : 1 ≤ h.words := by omega
  have e02 := n1.mod.thenExt e2
  have rq : ∀ {H'} (e : Ext H2 H') j v, (hdrC h p)[j]? = some v → rd H' q j = some v := fun e j v hj => e.rd (by simp) (e2.rd (by simp) ((n1.rd j).trans hj))
  have hqd : q ≠ bd := by have := n1.lt; omega
  refine ⟨_, rq Mod.refl 8 _ rfl, ?_⟩
  have hww : h.words = (h.words.toNat : Int) := by omega
  have hc106 : ∀ R', (∀ H' b bw, Arena H' b bw (List.replicate h.words.toNat 0) 0 → Ext H2 H' → H2.size ≤ b → H2.size ≤ bw → R' (.tuple #[.pointer (some ⟨b, 0, none⟩), .int .i64 0]) H') → Ru 106 [.int .i64 h.words] H2 R' := by
    intro R' hk
    have := c106 (R := R') h.words.toNat (by omega) (by omega) hk
    rwa [← hww] at this
  refine hc106 _ fun H3 ba bw ar3 e3 ha hb => ⟨_, _, rfl, bd, 0, rfl, trivial, ?_, fun H4 h4 => ?_⟩
  · rw [Nat.zero_add]; exact (o2.mod e3 (by simp)).w 14 1 rfl
  rw [Nat.zero_add] at h4
  have hbdl : bd < H2.size := o2.lt (by simp [drvL, i64s, planL])
  have o4 := (o2.mod e3 (by simp)).wr 14 (.pointer (some ⟨ba, 0, none⟩))
  rw [← h4] at o4
  have m4 : Mod [bd] H3 H4 := by rw [h4]; exact Mod.refl.wr (.inl (by simp))
  clear h4
  have o4' : Own H4 bd (drvL (i64s (planL h)) (hdrC h hq) (.slice pa 10 pc) (.pointer (some ⟨ba, 0, none⟩)) (.pointer none) (.pointer none) (d0 h 0)) := o4
  have ar4 := ar3.mod m4 (by simp; omega) (by simp; omega)
  have m24 : Mod [bd] H2 H4 := (Mod.ext e3).trans m4
  have rq4 : ∀ j v, (hdrC h p)[j]? = some v → rd H4 q j = some v := fun j v hj => m4.rd (by simpa using hqd) (rq e3 j v hj)
  refine ⟨_, rq4 8 _ rfl, c107 h.words (by omega) fun H5 bm n5 => ⟨_, _, rfl, bd, 0, rfl, trivial, ?_, fun H6 h6 => ?_⟩⟩
  · rw [Nat.zero_add]; exact (o4'.mod n5.mod (by simp)).w 16 1 rfl
  rw [Nat.zero_add] at h6
  have o6 := (o4'.mod n5.mod (by simp)).wr 16 (.pointer (some ⟨bm, 0, none⟩))
  rw [← h6] at o6
  have m6 : Mod [bd] H5 H6 := by rw [h6]; exact Mod.refl.wr (.inl (by simp))
  clear h6
  have o6' : Own H6 bd (drvL (i64s (planL h)) (hdrC h hq) (.slice pa 10 pc) (.pointer (some ⟨ba, 0, none⟩)) (.pointer none) (.pointer (some ⟨bm, 0, none⟩)) (d0 h 0)) := o6
  have hbm := n5.ge; have hbml := n5.lt; have z24 := m24.1; have z3 := e3.1; have z4 := m4.1
  have hal3 : ba < H4.size := ar4.top.lt (by simp)
  have hbl3 : bw < H4.size := ar4.row.lt (u64s_ne (by simp; omega))
  have met6 : Own H6 bm (meterC 0 0 h.words) := n5.own.mod m6 (by simp; omega)
  have ar6 := (ar4.mod n5.mod (by simp) (by simp)).mod m6 (by simp; omega) (by simp; omega)
  refine ⟨bd, 0, rfl, _, by rw [Nat.zero_add]; exact o6'.rd 16 rfl, bd, 0, rfl, fixedOf h, o6'.rd 0 rfl, ?_⟩
  refine c108 (fixedOf h) met6 (by omega) (by omega) (by omega) (by omega) fun H7 met7 m7 => ⟨_, rfl, ?_⟩
  have hf0 : max 0 (0 + fixedOf h) = fixedOf h := by omega
  rw [Int.zero_add, show max 0 (fixedOf h) = fixedOf h from by omega] at met7
  have o7 := o6'.mod m7 (by simp; omega)
  have ar7 := ar6.mod m7 (by simp; omega) (by simp; omega)
  have m27 : Mod [bd] H2 H7 := (m24.trans ((Mod.ext n5.mod).trans m6)).trans_new m7 (by simp; omega)
  have rp7 := Mod.row m27 (fun b o e hb => by simp at hb; exact np b o e hb) rp2
  have kept : ((partsOf h).take 8).sum = (((z0 h).l.flatten.length : Nat) : Int) := by rw [take8, z0_flat h hp]; simp; omega
  obtain ⟨pb, po, pe, pr⟩ := rp7.at (by omega)
  have r8 : rd H7 pb (po + 8) = some (.int .i64 (((z0 h).l.flatten.length : Nat) : Int)) := by
    refine rdL_get' pr ?_
    simp only [i64s, List.getElem?_map, places_get h (show 8 ≤ 8 by omega), Option.map_some, kept]
  have hzl : (z0 h).l.flatten.length = (fixedOf h + tapeOf h).toNat := by rw [z0_flat h hp]; simp
  refine ⟨bd, 0, rfl, _, by rw [Nat.zero_add]; exact o7.rd 14 rfl, bd, 0, rfl, pa, 10, pc, by rw [Nat.zero_add]; exact o7.rd 13 rfl, pb, po, pe, ⟨by omega, by omega⟩, _, r8, ?_⟩
  refine c109 _ ar7 (by rw [Nat.zero_add, List.length_replicate]; omega) fun H8 ar8 m8 => ⟨_, _, rfl, ?_⟩
  rw [Nat.zero_add] at ar8
  have o8 := o7.mod m8 (by simp; omega)
  have z7 := m27.1; have z8 := m8.1
  refine v110 _ _ ⟨_, by rw [Nat.zero_add]; exact o8.rd 4 rfl, ?_⟩
  have m28 : Mod [bd] H2 H8 := m27.trans_new m8 (by simp; omega)
  have rq8 : ∀ j v, (hdrC h p)[j]? = some v → rd H8 q j = some v := fun j v hj => m28.rd (by simpa using hqd) (rq Mod.refl j v hj)
  have met8 := met7.mod m8 (by simp; omega)
  have e08 : Ext H H8 := e02.trans_new m28 (by simp; have := n1.mod.1; omega)
  have hg := n1.mod.1; have z02 := e02.1; have z08 := e08.1; have z45 := n5.mod.1; have z56 := m6.1; have z67 := m7.1
  have aw := ar8.ne
  have fin : ∀ (H9 : Heap) (bs : Nat), Own H9 bd (drvL (i64s (planL h)) (hdrC h hq) (.slice pa 10 pc) (.pointer (some ⟨ba, 0, none⟩)) (if h.mode = 3 then .pointer none else .pointer (some ⟨bs, 0, none⟩)) (.pointer (some ⟨bm, 0, none⟩)) (d0 h (fixedOf h))) →
      Arena H9 ba bw (List.replicate h.words.toNat 0) ((z0 h).l.flatten.length + (k0 h).length) → (h.mode ≠ 3 → RdL H9 bs 0 (slotsC (z0 h).l.flatten.length (slotsOf h).toNat (nX h) ba)) → Mod [bd, ba, bw] H8 H9 → H8.size ≤ bs →
      (∃ a l c, rd H9 q 2 = some (.slice a l c) ∧ Ru 112 [.pointer (some ⟨bd, 0, none⟩), .int .i64 0, .slice a l c] H9 fun r H' => ∃ a l c, rd H' q 1 = some (.slice a l c) ∧ Ru 112 [.pointer (some ⟨bd, 0, none⟩), .int .i64 1, .slice a l c] H' fun r H' => R (.tuple #[.pointer (some ⟨bd, 0, none⟩), .int .i64 0]) H') := by
    intro H9 bs o9 ar9 sl9 m9 hbs
    have m29 : Mod [bd, ba, bw] H2 H9 := (m28.mono (by simp)).trans m9
    have hqS : q ∉ [bd, ba, bw] := by have := n1.lt; simp; omega
    have rq9 : ∀ j v, (hdrC h p)[j]? = some v → rd H9 q j = some v := fun j v hj => m29.rd hqS (rq Mod.refl j v hj)
    have off : ∀ {a : Option Addr} {l : Nat}, (0 < l → ∀ b o, a = some ⟨b, o, none⟩ → b ≠ bd) → (0 < l → ∀ b o, a = some ⟨b, o, none⟩ → b < H2.size) → 0 < l → Off [bd, ba, bw, bm] a := by
      intro a l h1 h2 hl b o e hb
      have := h1 hl b o e; have := h2 hl b o e
      simp at hb; omega
    have rlt : ∀ {sz l : Nat} {a : Option Addr} {cells : List Value}, Row sz H2 a l cells → 0 < sz → 0 < l → ∀ b o, a = some ⟨b, o, none⟩ → b < H2.size := by
      intro sz l a cells hr hz hl b o e
      apply Classical.byContradiction
      intro hn
      exact hr.fresh (S := [b]) hz hl (by simp; omega) b o e (by simp)
    have of : ROff h ⟨bd, ba, bw, bm, bs, hq, pa, pc⟩ [bd, ba, bw, bm] :=
      ⟨fun h0 => off (fun h1 b o e => nx b o h1 e) (fun h1 => rlt rr2.x (by omega) h1) h0, fun h0 => off (fun h1 b o e => nt b o h1 e) (fun h1 => rlt rr2.th (by omega) h1) h0, fun h0 => off (fun h1 b o e => ns b o h1 e) (fun h1 => rlt rr2.s (by omega) h1) h0,
       fun h0 => off (fun h1 b o e => nl b o h1 e) (fun h1 => rlt rr2.l (by omega) h1) h0, off (l := 10) (fun h1 b o e => np b o e) (fun h1 => rlt rp2 (by omega) h1) (by omega)⟩
    have of' := of.mono (T := [bd, ba, bw]) (by simp)
    have hdb : drvL (i64s (planL h)) (hdrC h hq) (.slice pa 10 pc) (.pointer (some ⟨ba, 0, none⟩)) (if h.mode = 3 then .pointer none else .pointer (some ⟨bs, 0, none⟩)) (.pointer (some ⟨bm, 0, none⟩)) (d0 h (fixedOf h)) = drvC h ⟨bd, ba, bw, bm, bs, hq, pa, pc⟩ (d0 h (fixedOf h)) :=
      drvL_eq h ⟨bd, ba, bw, bm, bs, hq, pa, pc⟩ _ _ rfl
    rw [hdb] at o9
    have v9 : Drv H9 ⟨bd, ba, bw, bm, bs, hq, pa, pc⟩ h (d0 h (fixedOf h)) (z0 h) (k0 h) (post0 h) := by
      refine ⟨o9, by rw [← words_eq h hp]; exact ar9, met8.mod m9 (by simp; omega), ?_, Mod.row m29 of'.p rp2, rfl, z0_lens h ok, ?_, ?_, sl9, hp, by dsimp only; omega, by dsimp only; omega, by dsimp only; omega, by dsimp only; omega, by dsimp only; omega, ⟨by dsimp only; omega, by dsimp only; omega, by dsimp only; omega, by dsimp only; omega⟩, of⟩
      · exact HRows.mod (b := ⟨bd, ba, bw, bm, bs, hq, pa, pc⟩) rr2 m29 of'
      · simp [k0]; omega
      · rw [← words_eq h hp]; simp; omega
    have e09 : Ext H H9 := e08.trans_new m9 (by simp; omega)
    refine ⟨_, _, _, rq9 2 _ rfl, c112 v9 0 (by omega) (Ext.row e09 r.th) (by simp [z0, PS.l, nT]) fun H10 v10 m10 => ⟨_, _, _, m10.rd (by have := n1.lt; simp; omega) (rq9 1 _ rfl), ?_⟩⟩
    have e010 : Ext H H10 := e09.trans_new m10 (by simp; omega)
    refine c112 v10 1 (by omega) (Ext.row e010 r.x) (by simp [z0, PS.l, putP, nX]) fun H11 v11 m11 => ?_
    have hP : putP (putP (z0 h).l 0 h.th) 1 h.x = (s0 h).l := by
      have e1 : (zeros (nT h)).drop h.th.length = [] := List.drop_of_length_le (by simp [nT])
      have e2 : (zeros (nX h)).drop h.x.length = [] := List.drop_of_length_le (by simp [nX])
      have e3 : putP (putP (z0 h).l 0 h.th) 1 h.x = [h.th ++ (zeros (nT h)).drop h.th.length, h.x ++ (zeros (nX h)).drop h.x.length, zeros (nS h), zeros (nL h), zeros (max (nS h) (nL h)), zeros (nX h), zeros (nT h), zeros (tapeOf h).toNat] := rfl
      rw [e3, e1, e2, List.append_nil, List.append_nil]; rfl
    rw [hP] at v11
    refine k1 hp H11 _ v11 ⟨by dsimp only; omega, by dsimp only; omega, by dsimp only; omega, by dsimp only; omega, by dsimp only; omega, lx.down hg, lt.down hg, ls.down hg, ll.down hg, lp.down hg⟩ (e010.trans_new m11 (by simp; omega))
  refine ⟨_, rfl, fun hb => ?_, fun hb => ?_⟩
  · simp at hb
    have hsl : slotsOf h * slotOf h = (((k0 h).length : Nat) : Int) := by simp [k0]; rw [Int.mul_comm]; omega
    refine ⟨bd, 0, rfl, _, by rw [Nat.zero_add]; exact o8.rd 14 rfl, bd, 0, rfl, slotsOf h, by rw [Nat.zero_add]; exact o8.rd 3 rfl, bd, 0, rfl, slotOf h, by rw [Nat.zero_add]; exact o8.rd 2 rfl, ⟨by rw [hsl]; simp [k0]; omega, by rw [hsl]; simp [k0]; omega⟩, ?_⟩
    rw [hsl]
    have hkl : (k0 h).length = (slotOf h * slotsOf h).toNat := by simp [k0]
    refine c109 _ ar8 (by rw [List.length_replicate, hkl, hzl]; omega) fun H9 ar9 m9 => ⟨_, _, rfl, ?_⟩
    have o9 := o8.mod m9 (by simp; omega)
    refine fin H9 H9.size ?_ ar9 (fun h' => (h' hb).elim) (m9.mono (by simp)) m9.1
    rw [if_pos hb]; exact o9
  · simp at hb
    refine ⟨bd, 0, rfl, _, by rw [Nat.zero_add]; exact o8.rd 14 rfl, bd, 0, rfl, slotsOf h, by rw [Nat.zero_add]; exact o8.rd 3 rfl, _, _, _, rq8 1 _ rfl, ?_⟩
    have hse := slot_eq hb
    have hmul : (slotsOf h).toNat * (nX h + 1) = (k0 h).length := by
      rw [k0_slots h hp hb, slotsW_length (by intro x hx; simp [heldOf] at hx; rw [hx.2]; trivial), heldOf_length, List.length_replicate]
    have hkl : (k0 h).length = (slotOf h * slotsOf h).toNat := by simp [k0]
    have hsn : slotsOf h = ((slotsOf h).toNat : Int) := by omega
    have hc111 : ∀ R', (∀ H' bs, Arena H' ba bw (List.replicate h.words.toNat 0) ((z0 h).l.flatten.length + (slotsOf h).toNat * (nX h + 1)) → Own H' bs (slotsC (z0 h).l.flatten.length (slotsOf h).toNat (nX h) ba) → Mod [ba, bw] H8 H' → H8.size ≤ bs → R' (.tuple #[.pointer (some ⟨bs, 0, none⟩), .int .i64 0]) H') →
        Ru 111 [.pointer (some ⟨ba, 0, none⟩), .int .i64 (slotsOf h), .int .i64 (h.x.length : Int)] H8 R' := by
      intro R' hk
      have := c111 (R := R') ar8 (slotsOf h).toNat (nX h) (by omega) (by omega) (by simp only [nX]; omega) (by simp only [nX]; omega) (by rw [hmul, hkl]; omega) hk
      rw [← hsn] at this; exact this
    refine hc111 _ fun H9 bs ar9 o9s m9 hbs => ⟨_, _, rfl, bd, 0, rfl, trivial, ?_, fun H10 h10 => ?_⟩
    · rw [Nat.zero_add]; exact (o8.mod m9 (by simp; omega)).w 15 1 rfl
    rw [Nat.zero_add] at h10
    have o10 := (o8.mod m9 (by simp; omega)).wr 15 (.pointer (some ⟨bs, 0, none⟩))
    rw [← h10] at o10
    have m10 : Mod [bd] H9 H10 := by rw [h10]; exact Mod.refl.wr (.inl (by simp))
    clear h10
    rw [hmul] at ar9
    refine fin H10 bs ?_ (ar9.mod m10 (by simp; omega) (by simp; omega)) (fun _ => (o9s.mod m10 (by simp; omega)).1) ((m9.mono (by simp)).trans (m10.mono (by simp))) hbs
    rw [if_neg hb]; exact o10
end Go.VC
namespace Go.VC
open Go Go.Proofs
def nextF (m : Int) : Value := .func (.func (if m = 1 then 113 else if m = 2 then 114 else 115)) #[] #[]
def engC (h : Hdr) (bd : Nat) (ended failed : Bool) : List Value := [.pointer (some ⟨bd, 0, none⟩), .int .i64 h.mode, nextF h.mode, .bool ended, .bool failed]
structure EngS (H : Heap) (be : Nat) (b : DB) (h : Hdr) (d : DS) (tags : List Int) (ended failed : Bool) (s : PS) (post : List UInt64) : Prop where
  top : Own H be (engC h b.d ended failed)
  drv : Drv H b h d s (slotsW (nX h) (heldOf h tags)) post
  sem : DSem h d tags s
  off : DOff h b [be]
theorem slots_pos {h : Hdr} (hp : PlanOk h) (hm : h.mode ≠ 3) : 1 ≤ slotsOf h := by
  obtain ⟨ok, hfit⟩ := hp
  have hs := slot_eq hm
  have hl1 : leastOf h = 1 := by unfold leastOf; rw [if_neg hm]
  rw [hl1, Int.mul_one] at hfit
  unfold slotsOf
  rw [if_neg hm]
  exact Int.le_ediv_of_mul_le (by omega) (by omega)
theorem EngS.keep {S : List Nat} {H H' : Heap} {be : Nat} {b : DB} {h : Hdr} {d : DS} {tags : List Int} {ended failed : Bool} {s : PS} {post : List UInt64} (e : EngS H be b h d tags ended failed s post) (m : Mod S H H') (h1 : be ∉ S) (h2 : DOff h b S) : EngS H' be b h d tags ended failed s post :=
  ⟨e.top.mod m h1, e.drv.keep m h2, e.sem, e.off⟩
theorem EngS.ext {H H' : Heap} {be : Nat} {b : DB} {h : Hdr} {d : DS} {tags : List Int} {ended failed : Bool} {s : PS} {post : List UInt64} (e : EngS H be b h d tags ended failed s post) (m : Ext H H') : EngS H' be b h d tags ended failed s post := e.keep m (by simp) (DOff.nil h b)
theorem EngS.ne {H : Heap} {be : Nat} {b : DB} {h : Hdr} {d : DS} {tags : List Int} {ended failed : Bool} {s : PS} {post : List UInt64} (e : EngS H be b h d tags ended failed s post) : be ∉ [b.d, b.m, b.w] := by
  simp; exact ⟨fun h => e.off.d (by simp [h]), fun h => e.off.m (by simp [h]), fun h => e.off.w (by simp [h])⟩
theorem c54 {H : Heap} {R : Value → Heap → Prop} {be : Nat} {h : Hdr} {bd : Nat} {ended failed : Bool} (t : Own H be (engC h bd ended failed)) (k : R (.pointer (some ⟨bd, 0, none⟩)) H) : Ru 54 [.pointer (some ⟨be, 0, none⟩)] H R :=
  v54 _ _ ⟨_, t.rd 0 rfl, k⟩
theorem c13 {H : Heap} {R : Value → Heap → Prop} {be : Nat} {b : DB} {h : Hdr} {d : DS} {P : List (List UInt64)} {K post : List UInt64} {ended failed : Bool} (t : Own H be (engC h b.d ended failed)) (v : DrvM H b h d P K post) (k : R (.int .i64 d.l) H) : Ru 13 [.pointer (some ⟨be, 0, none⟩)] H R :=
  v13 _ _ (c54 t (v55 _ _ ⟨_, by rw [Nat.zero_add]; exact v.rd 17 rfl, _, rfl, k⟩))
theorem cpy {H : Heap} {p : Nat} {old cs : List Value} {n : Nat} {R : Value → Heap → Prop} {f : List Value → Value} {H0 : Heap} (ho : Own H p old) (hn : cs.length = n) (hl : old.length = n) (hone : ∀ x ∈ cs, One x) (e : Ext H0 H) (hp : H0.size ≤ p) (k : ∀ H', Ext H0 H' → R (f cs) H') :
    cs.length = n ∧ (∀ v : Value, v ∈ cs → One v) ∧ WOk H p 0 n ∧ ∀ H', H' = wrL H p 0 cs → ∃ cs : List Value, cs.length = n ∧ RdL H' p 0 cs ∧ R (f cs) H' := by
  refine ⟨hn, hone, by have := ho.2; rwa [hl] at this, fun H' h' => ⟨cs, hn, ?_, ?_⟩⟩
  · rw [h']; refine rdL_wrL ?_; rw [hn]; have := ho.2; rwa [hl] at this
  · exact k H' (by rw [h']; exact e.trans_new (Mod.refl.wrL (S := [p]) (.inl (by simp))) (by simpa using hp))
theorem spot_one {at_ pend : Int} {a : Option Addr} {l c : Nat} : ∀ x ∈ spotC at_ pend a l c, One x := by
  intro x hx; simp only [spotC, List.mem_cons, List.not_mem_nil, or_false] at hx; rcases hx with rfl | rfl | rfl <;> trivial
theorem act_one {k n : Int} : ∀ x ∈ actC k n, One x := by
  intro x hx; simp only [actC, List.mem_cons, List.not_mem_nil, or_false] at hx; rcases hx with rfl | rfl <;> trivial
theorem c16 {H : Heap} {R : Value → Heap → Prop} {be : Nat} {b : DB} {h : Hdr} {d : DS} {tags : List Int} {ended failed : Bool} {s : PS} {post : List UInt64} (e : EngS H be b h d tags ended failed s post) (hm : h.mode ≠ 3)
    (k : ∀ a c H', Buf 1 H' H.size a tags.length c (i64s tags) → Ext H H' → R (.agg (spotC d.at_ d.pend a tags.length c).toArray) H') : Ru 16 [.pointer (some ⟨be, 0, none⟩)] H R := by
  refine v16 _ _ fun H1 p n1 => c54 (e.ext n1.mod).top (c57 (e.ext n1.mod).drv hm e.sem.mok e.sem.len fun a c H2 hB e2 => ⟨_, rfl, rfl, ?_⟩)
  have o2 := n1.own.mod e2 (by simp)
  refine ⟨rfl, spot_one, o2.w 0 3 rfl, fun H3 h3 => ⟨spotC d.at_ d.pend a tags.length c, rfl, by rw [h3]; exact rdL_wrL o2.2, ?_⟩⟩
  have m3 : Mod [p] H2 H3 := by rw [h3]; exact Mod.refl.wrL (.inl (by simp))
  exact k a c H3 ((hB.mod m3 (by simpa using n1.lt)).down n1.mod.1) ((n1.mod.thenExt e2).trans_new m3 (by simpa using n1.ge))
noncomputable def enext (h : Hdr) (d : DS) (tags : List Int) (ended : Bool) : Option (Int × Int) :=
  if h.mode = 1 then revNext d.l d.at_ d.pend tags else strideNext d.l ended d.at_ d.pend tags
theorem actR_shape (o : Option (Int × Int)) : ∃ k n c, actR o = .tuple #[.agg (actC k n).toArray, .bool c] ∧ c = o.isSome ∧ (∀ q, o = some q → q = (k, n)) ∧ (o = none → k = 0 ∧ n = 0) := by
  cases o with
  | none => exact ⟨0, 0, false, rfl, rfl, by simp, by simp⟩
  | some q => obtain ⟨k, n⟩ := q; exact ⟨k, n, true, rfl, rfl, by simp, by simp⟩
theorem EngS.pos {H : Heap} {be : Nat} {b : DB} {h : Hdr} {d : DS} {tags : List Int} {ended failed : Bool} {s : PS} {post : List UInt64} (e : EngS H be b h d tags ended failed s post) (hm : h.mode ≠ 3) : 1 ≤ tags.length := by
  have := slots_pos e.drv.ok hm; have := e.sem.len; omega
theorem cnext {H : Heap} {be : Nat} {b : DB} {h : Hdr} {d : DS} {tags : List Int} {ended failed : Bool} {s : PS} {post : List UInt64} (e : EngS H be b h d tags ended failed s post) (hm : h.mode = 1 ∨ h.mode = 2) :
    ∃ g, nextF h.mode = .func (.func g) #[] #[] ∧ callable Tryz.prog g = true ∧ ∀ R : Value → Heap → Prop, (∀ H', Ext H H' → R (actR (enext h d tags ended)) H') → Ru g [.pointer (some ⟨be, 0, none⟩)] H R := by
  have hpos := e.pos (by omega)
  have hmok := e.sem.mok
  have hl0 : 0 ≤ d.l := hmok.l0
  rcases hm with hm | hm
  · refine ⟨113, by unfold nextF; rw [if_pos hm], by kernel_rfl, fun R K => ?_⟩
    unfold enext at K
    rw [if_pos hm] at K
    refine v113 _ _ fun H1 p n1 => c13 (e.ext n1.mod).top (e.ext n1.mod).drv ⟨_, rfl, c16 (e.ext n1.mod) (by omega) fun a c H2 hB e2 => ⟨_, rfl, rfl, c178 d.l d.at_ d.pend hB.row hmok hpos fun H3 e3 => ?_⟩⟩
    exact actEnd (n1.own.mod e2 (by simp)) _ n1.ge (n1.mod.thenExt e2) K e3 rfl
  · refine ⟨114, by unfold nextF; rw [if_neg (by omega), if_pos hm], by kernel_rfl, fun R K => ?_⟩
    unfold enext at K
    rw [if_neg (by omega)] at K
    have hdl : d.l = (d.l.toNat : Int) := by omega
    refine v114 _ _ fun H1 p n1 => ⟨ended, (e.ext n1.mod).top.rd 3 rfl, c13 (e.ext n1.mod).top (e.ext n1.mod).drv ⟨_, rfl, (e.ext n1.mod).top.rd 3 rfl, c16 (e.ext n1.mod) (by omega) fun a c H2 hB e2 => ⟨_, rfl, rfl, ((e.ext n1.mod).ext e2).top.rd 3 rfl, ?_⟩⟩⟩
    have key := c179 (c := c) (R := fun r H' => ∃ cs : List Value, List.length cs = 2 ∧ ∃ c, r = .tuple #[.agg (List.toArray cs), .bool c] ∧ List.length cs = 2 ∧ (∀ v : Value, v ∈ cs → One v) ∧ WOk H' p 0 2 ∧ ∀ H'_1, H'_1 = wrL H' p 0 cs → ∃ cs : List Value, List.length cs = 2 ∧ RdL H'_1 p 0 cs ∧ R (.tuple #[.agg (List.toArray cs), .bool c]) H'_1) d.l.toNat ended d.at_ d.pend hB.row (by rw [← hdl]; exact hmok) hpos fun H3 e3 => actEnd (n1.own.mod e2 (by simp)) _ n1.ge (n1.mod.thenExt e2) (by rw [← hdl]; exact K) e3 rfl
    rw [← hdl] at key
    exact key
theorem c52 {H : Heap} {R : Value → Heap → Prop} {be : Nat} {b : DB} {h : Hdr} {d : DS} {tags : List Int} {ended : Bool} {s : PS} {post : List UInt64} (e : EngS H be b h d tags ended false s post) (hm : h.mode = 1 ∨ h.mode = 2)
    (k : ∀ H', Ext H H' → R (.bool (enext h d tags ended).isNone) H') : Ru 52 [.pointer (some ⟨be, 0, none⟩)] H R := by
  obtain ⟨g, hg, hc, hr⟩ := cnext e hm
  refine v52 _ _ ⟨false, e.top.rd 4 rfl, by simp, fun _ => ⟨_, e.top.rd 2 rfl, g, _, _, hg, hc, hr _ fun H1 e1 => ?_⟩⟩
  obtain ⟨x, y, c, hs, hcc, _⟩ := actR_shape (enext h d tags ended)
  refine ⟨actC x y, rfl, c, hs, fun H2 p n2 => ⟨rfl, act_one, n2.own.w 0 2 rfl, fun H3 h3 => ?_⟩⟩
  have : (!c) = (enext h d tags ended).isNone := by rw [hcc]; cases enext h d tags ended <;> rfl
  rw [this]
  refine k H3 ?_
  rw [h3]; exact (e1.new n2).trans_new (Mod.refl.wrL (S := [p]) (.inl (by simp))) (by simp; have := n2.ge; have := e1.1; omega)
theorem c11 {H : Heap} {R : Value → Heap → Prop} {be : Nat} {b : DB} {h : Hdr} {d : DS} {tags : List Int} {ended : Bool} {s : PS} {post : List UInt64} (e : EngS H be b h d tags ended false s post) (hm : h.mode = 1 ∨ h.mode = 2)
    (k : ∀ H', Ext H H' → R (.bool ((enext h d tags ended).isNone && decide (h.mode = 2) && !ended)) H') : Ru 11 [.pointer (some ⟨be, 0, none⟩)] H R := by
  refine v11 _ _ (c52 e hm fun H1 e1 => ⟨_, rfl, fun h1 => ⟨_, (e.ext e1).top.rd 1 rfl, fun h2 => ⟨ended, (e.ext e1).top.rd 3 rfl, ?_⟩, fun h2 => ?_⟩, fun h1 => ?_⟩)
  · have := k H1 e1; simp only [h1, h2, decide_true, Bool.true_and] at this; exact this
  · have := k H1 e1; simp only [h2, decide_false, Bool.and_false, Bool.false_and] at this; exact this
  · have := k H1 e1; simp only [h1, Bool.false_and] at this; exact this
theorem c31 {H : Heap} {R : Value → Heap → Prop} {be : Nat} {b : DB} {h : Hdr} {d : DS} {tags : List Int} {ended : Bool} {s : PS} {post : List UInt64} (e : EngS H be b h d tags ended false s post) (hm : h.mode = 1 ∨ h.mode = 2)
    (k : ∀ H', Ext H H' → R (.bool ((enext h d tags ended).isNone && decide (d.pend = 0))) H') : Ru 31 [.pointer (some ⟨be, 0, none⟩)] H R := by
  refine v31 _ _ (c52 e hm fun H1 e1 => ⟨_, rfl, fun h1 => c16 (e.ext e1) (by omega) fun a c H2 hB e2 => ⟨_, rfl, rfl, trivial, _, rfl, _, rfl, ?_⟩, fun h1 => ?_⟩)
  · have := k H2 (e1.thenExt e2); simp only [h1, Bool.true_and] at this; exact this
  · have := k H1 e1; simp only [h1, Bool.false_and] at this; exact this
theorem c12 {H : Heap} {R : Value → Heap → Prop} {be : Nat} {b : DB} {h : Hdr} {d : DS} {tags : List Int} {ended : Bool} {s : PS} {post : List UInt64} (e : EngS H be b h d tags ended false s post) (hm : h.mode = 1 ∨ h.mode = 2)
    (cnt : DCnt d 2305843009213693952) (hleg : ∀ k n, enext h d tags ended = some (k, n) → ∃ m, mstep (dMS d tags) k n = some m)
    (k1 : enext h d tags ended = none → ∀ H', Ext H H' → R (.tuple #[.agg (actC 0 0).toArray, .bool false, .int .i64 0]) H')
    (k2 : ∀ k n m, enext h d tags ended = some (k, n) → mstep (dMS d tags) k n = some m → ∀ H' s', EngS H' be b h (dact h d k n m) m.tags ended false s' post → Mod [b.d, b.m, b.w] H H' → R (.tuple #[.agg (actC k n).toArray, .bool true, .int .i64 0]) H') :
    Ru 12 [.pointer (some ⟨be, 0, none⟩)] H R := by
  refine v12 _ _ fun H1 p n1 => ⟨false, (e.ext n1.mod).top.rd 4 rfl, by simp, fun _ => ?_⟩
  have e1 := e.ext n1.mod
  obtain ⟨g, hg, hc, hr⟩ := cnext e1 hm
  refine ⟨_, e1.top.rd 2 rfl, g, _, _, hg, hc, hr _ fun H2 x2 => ?_⟩
  obtain ⟨x, y, c, hs, hcc, hso, hno⟩ := actR_shape (enext h d tags ended)
  refine ⟨actC x y, rfl, c, hs, fun H3 q n3 => ⟨rfl, act_one, n3.own.w 0 2 rfl, fun H4 h4 => ?_⟩⟩
  have oq : Own H4 q (actC x y) := by rw [h4]; exact n3.own.swrL rfl
  have x24 : Ext H2 H4 := by rw [h4]; exact n3.mod.trans_new (Mod.refl.wrL (S := [q]) (.inl (by simp))) (by simpa using n3.ge)
  clear h4
  have x14 := x2.thenExt x24
  have op := n1.own.mod x14 (by simp)
  have x04 := n1.mod.thenExt x14
  have hp := n1.ge
  have hql := oq.lt (by simp [actC])
  refine ⟨fun hc' => ?_, fun hc' => ?_⟩
  · have hnone : enext h d tags ended = none := by rw [hcc] at hc'; cases hh : enext h d tags ended <;> simp_all
    refine ⟨rfl, act_one, op.w 0 2 rfl, fun H5 h5 => ⟨actC 0 0, rfl, by rw [h5]; exact rdL_wrL op.2, k1 hnone H5 ?_⟩⟩
    rw [h5]; exact x04.trans_new (Mod.refl.wrL (S := [p]) (.inl (by simp))) (by simpa using hp)
  · have hsome : enext h d tags ended = some (x, y) := by
      rw [hcc] at hc'
      cases hh : enext h d tags ended with
      | none => rw [hh] at hc'; simp at hc'
      | some q => rw [hso q hh]
    obtain ⟨m, hms⟩ := hleg x y hsome
    have e4 := e.ext x04
    refine ⟨_, e4.top.rd 0 rfl, actC x y, rfl, oq.1, c53 e4.drv (by omega) e.sem cnt hms fun H5 s' v5 sem5 m5 => ⟨_, rfl, by simp, fun _ => ?_⟩⟩
    have hlow : ∀ z ∈ [b.d, b.m, b.w], z < H.size := by
      intro z hz
      simp only [List.mem_cons, List.not_mem_nil, or_false] at hz
      rcases hz with rfl | rfl | rfl
      · exact e.drv.top.lt (by unfold drvC; simp [i64s, planL])
      · exact e.drv.met.lt (by simp [meterC])
      · exact e.drv.ar.row.lt (u64s_ne e.drv.words)
    have hqS : q ∉ [b.d, b.m, b.w] := fun hz => by have := hlow q hz; have := n3.ge; have := x2.1; have := n1.mod.1; omega
    have hpS : p ∉ [b.d, b.m, b.w] := fun hz => by have := hlow p hz; omega
    have e5 : EngS H5 be b h (dact h d x y m) m.tags ended false s' post := ⟨e4.top.mod m5 e.ne, v5, sem5, e.off⟩
    have op5 := op.mod m5 hpS
    refine ⟨actC x y, rfl, (oq.mod m5 hqS).1, rfl, act_one, op5.w 0 2 rfl, fun H6 h6 => ⟨actC x y, rfl, by rw [h6]; exact rdL_wrL op5.2, ?_⟩⟩
    have m6 : Mod [p] H5 H6 := by rw [h6]; exact Mod.refl.wrL (.inl (by simp))
    have hpb : be ≠ p := by have := e.top.lt (by simp [engC]); omega
    refine k2 x y m hsome hms H6 s' (e5.keep m6 (by simpa using hpb) (e.drv.fresh (by simpa using hp))) ?_
    exact ((Mod.ext x04).trans m5).trans_new m6 (by simp; omega)
end Go.VC
namespace Go.VC
open Go Go.Proofs
noncomputable def tags0 (h : Hdr) : List Int := List.replicate (slotsOf h).toNat (-1)
theorem heldN_tags0 (h : Hdr) : heldN (tags0 h) = 0 := by simp [heldN, tags0, List.countP_replicate]
theorem dsem0 {h : Hdr} (hp : PlanOk h) (hm : h.mode ≠ 3) : DSem h (d0 h (fixedOf h)) (tags0 h) (s0 h) := by
  obtain ⟨a, b, c, d⟩ := slots_small hp
  have hl := hp.1.len
  have ht := parts_small hp.1 (tapeOf h) (List.getElem_mem _)
  unfold lenOk at hl
  refine ⟨rfl, rfl, ⟨hl.1, ?_, by simp [dMS, d0], hl.1, by simp [dMS, d0], by simp only [dMS, d0]; omega, ?_, by simp [dMS, tags0]; omega⟩, by simp [tags0], fun _ => rfl, fun h0 => by simp [d0] at h0, ?_, Int.le_refl _, ?_⟩
  · show h.len < 65536
    have := hl.2
    split at this <;> omega
  · intro t ht'
    simp only [dMS, tags0, List.mem_replicate] at ht'
    rw [ht'.2]
    exact ⟨by omega, by simp only [dMS, d0]; omega⟩
  · show fixedOf h = fixedOf h + slotOf h * (heldN (tags0 h) : Int)
    rw [heldN_tags0]; simp
  · show fixedOf h ≤ h.words
    omega
theorem c9g {H : Heap} {R : Value → Heap → Prop} (h : Hdr) (p : HAt) (r : HRows H h p)
    (k1 : PlanOk h → ∀ H' be b, Own H' be (engC h b.d false false) → Drv H' b h (d0 h (fixedOf h)) (s0 h) (k0 h) (post0 h) → DOff h b [be] → DIn h b H.size → H.size ≤ be → be < H'.size → Ext H H' → (∀ S, (∀ x ∈ S, H'.size ≤ x) → DOff h b S) → R (.tuple #[.pointer (some ⟨be, 0, none⟩), .int .i64 0]) H')
    (k2 : ∀ n H', n ≠ 0 → ¬ PlanOk h → Ext H H' → R (.tuple #[.pointer none, .int .i64 n]) H') : Ru 9 [.agg (hdrC h p).toArray] H R := by
  refine v9 (hdrC h p) fun H1 q n1 => ⟨_, rfl, n1.rdL, c49 h p (r.ext n1.mod) (fun hp H2 b v2 di e2 => ⟨_, _, rfl, by simp, fun _ => ⟨_, rfl, e2.rdL (by simp) n1.rdL, ?_⟩⟩) (fun n H2 hn hno e2 => ⟨_, _, rfl, fun _ => k2 n H2 hn hno (n1.mod.thenExt e2), fun h' => (h' hn).elim⟩)⟩
  have hm := hp.1.mode
  refine v50 (hdrC h p) _ _ fun H3 q3 n3 => ⟨trivial, fun H4 q4 n4 => ⟨rfl, ?_, n4.own.w 0 4 rfl, fun H5 h5 => ?_⟩⟩
  · intro x hx; simp only [List.mem_cons, List.not_mem_nil, or_false] at hx; rcases hx with rfl | rfl | rfl | rfl <;> trivial
  have o5 : Own H5 q4 [Value.nilFunc, .func (.func 113) #[] #[], .func (.func 114) #[] #[], .func (.func 115) #[] #[]] := by rw [h5]; exact n4.own.swrL rfl
  have e25 : Ext H2 H5 := by rw [h5]; exact (n3.mod.new n4).trans_new (Mod.refl.wrL (S := [q4]) (.inl (by simp))) (by simp; have := n3.mod.1; have := n4.ge; omega)
  have r5 : rd H5 q3 0 = some (.int .i64 h.mode) := by
    have : q3 ∉ [q4] := by have := n3.lt; have := n4.ge; simp; omega
    rw [h5]; exact (Mod.refl.wrL (S := [q4]) (.inl (by simp))).rd this (n4.mod.rd (by simp) (n3.rd 0))
  clear h5
  have hcell : rd H5 q4 (0 + h.mode.toNat * 1) = some (nextF h.mode) := by
    have hc : h.mode = 1 ∨ h.mode = 2 ∨ h.mode = 3 := by omega
    rcases hc with hc | hc | hc
    · rw [hc]; exact o5.rd 1 rfl
    · rw [hc]; exact o5.rd 2 rfl
    · rw [hc]; exact o5.rd 3 rfl
  refine ⟨_, r5, _, r5, ⟨by omega, by omega⟩, _, hcell, trivial, fun H6 be n6 => ?_⟩
  have e26 := e25.new n6
  have v6 := v2.ext e26
  have hz := n1.mod.1; have hz2 := e2.1; have hz5 := e25.1; have hbe := n6.ge
  exact k1 hp H6 be b n6.own v6 (v2.fresh (by simp; omega)) (di.down hz) (by omega) n6.lt ((n1.mod.thenExt e2).thenExt e26) (fun S hS => v6.fresh hS)
theorem c9 {H : Heap} {R : Value → Heap → Prop} (h : Hdr) (p : HAt) (r : HRows H h p)
    (k1 : PlanOk h → ∀ H' be b, (h.mode ≠ 3 → EngS H' be b h (d0 h (fixedOf h)) (tags0 h) false false (s0 h) (post0 h)) → DIn h b H.size → H.size ≤ be → be < H'.size → Ext H H' → (∀ S, (∀ x ∈ S, H'.size ≤ x) → DOff h b S) → R (.tuple #[.pointer (some ⟨be, 0, none⟩), .int .i64 0]) H')
    (k2 : ∀ n H', n ≠ 0 → ¬ PlanOk h → Ext H H' → R (.tuple #[.pointer none, .int .i64 n]) H') : Ru 9 [.agg (hdrC h p).toArray] H R := by
  refine c9g h p r (fun hp H' be b o v f di h1 h2 e hS => k1 hp H' be b (fun h3 => ⟨o, ?_, dsem0 hp h3, f⟩) di h1 h2 e hS) k2
  rw [k0_slots h hp h3] at v
  exact v
theorem c56 {H : Heap} {R : Value → Heap → Prop} {b : DB} {h : Hdr} {d : DS} {P : List (List UInt64)} {K post : List UInt64} (v : DrvM H b h d P K post) (hm : h.mode = 2) (hpend : d.pend < 0) (hl : 0 ≤ d.l ∧ d.l ≤ 65535)
    (k1 : d.l = 65535 → R (.int .i64 14) H) (k2 : d.l < 65535 → ∀ H', DrvM H' b h { d with l := d.l + 1 } P K post → Mod [b.d] H H' → R (.int .i64 0) H') : Ru 56 [.pointer (some ⟨b.d, 0, none⟩)] H R := by
  refine v56 _ _ ⟨_, by rw [Nat.zero_add]; exact v.rd 4 rfl, fun h' => (h' hm).elim, fun _ => ⟨_, by rw [Nat.zero_add]; exact v.rd 19 rfl, fun h' => by omega, fun _ => ⟨_, by rw [Nat.zero_add]; exact v.rd 17 rfl, k1, fun hne => ⟨_, by rw [Nat.zero_add]; exact v.rd 17 rfl, ⟨by omega, by omega⟩, by rw [Nat.zero_add]; exact v.top.w 17 1 rfl, fun H1 h1 => ?_⟩⟩⟩⟩
  have o1 := v.top.wr 17 (.int .i64 (d.l + 1))
  rw [Nat.zero_add] at h1
  rw [← h1] at o1
  have m1 : Mod [b.d] H H1 := by rw [h1]; exact Mod.refl.wr (.inl (by simp))
  exact k2 (by omega) H1 (v.setD { d with l := d.l + 1 } o1 m1 rfl rfl) m1
theorem c14 {H : Heap} {R : Value → Heap → Prop} {be : Nat} {b : DB} {h : Hdr} {d : DS} {tags : List Int} {s : PS} {post : List UInt64} (e : EngS H be b h d tags false false s post) (hm : h.mode = 2) (hpend : d.pend = -1) (hw : enext h d tags false = none) (more : Bool)
    (k1 : more = false → ∀ H', EngS H' be b h d tags true false s post → Mod [be] H H' → R (.int .i64 0) H')
    (k2 : more = true → d.l < 65535 → ∀ H', EngS H' be b h { d with l := d.l + 1 } tags false false s post → Mod [be, b.d] H H' → R (.int .i64 0) H')
    (k3 : more = true → d.l = 65535 → ∀ H', EngS H' be b h d tags false true s post → Mod [be] H H' → R (.int .i64 14) H') : Ru 14 [.pointer (some ⟨be, 0, none⟩), .bool more] H R := by
  have hmok := e.sem.mok
  have hl0 := hmok.l0; have hl1 := hmok.l1
  simp only [dMS] at hl0 hl1
  refine v14 _ _ _ ⟨false, e.top.rd 4 rfl, by simp, fun _ => c11 e (.inr hm) fun H1 e1 => ⟨_, rfl, fun h' => by rw [hw] at h'; simp [hm] at h', fun _ => ⟨fun hmo => ⟨(e.ext e1).top.w 3 1 rfl, fun H2 h2 => ?_⟩, fun hmo => ⟨_, (e.ext e1).top.rd 0 rfl, ?_⟩⟩⟩⟩
  · simp at hmo
    have x1 := e.ext e1
    have o2 := x1.top.wr 3 (.bool true)
    rw [Nat.zero_add] at h2
    rw [← h2] at o2
    have m2 : Mod [be] H1 H2 := by rw [h2]; exact Mod.refl.wr (.inl (by simp))
    exact k1 hmo H2 ⟨o2, x1.drv.keep m2 e.off, e.sem, e.off⟩ ((Mod.ext e1).trans m2)
  · simp at hmo
    have x1 := e.ext e1
    have hbed : be ≠ b.d := fun h => e.off.d (by simp [h])
    refine c56 x1.drv hm (by omega) ⟨hl0, by omega⟩ (fun hl => ⟨_, rfl, x1.top.w 4 1 rfl, fun H2 h2 => ?_⟩) (fun hl H2 v2 m2 => ⟨_, rfl, ?_, fun H3 h3 => ?_⟩)
    · have o2 := x1.top.wr 4 (.bool (decide ((14 : Int) = 14)))
      rw [Nat.zero_add] at h2
      rw [← h2] at o2
      have m2 : Mod [be] H1 H2 := by rw [h2]; exact Mod.refl.wr (.inl (by simp))
      exact k3 hmo hl H2 ⟨o2, x1.drv.keep m2 e.off, e.sem, e.off⟩ ((Mod.ext e1).trans m2)
    · exact (x1.top.mod m2 (by simpa using hbed)).w 4 1 rfl
    · have o3 := (x1.top.mod m2 (by simpa using hbed)).wr 4 (.bool (decide ((0 : Int) = 14)))
      rw [Nat.zero_add] at h3
      rw [← h3] at o3
      have m3 : Mod [be] H2 H3 := by rw [h3]; exact Mod.refl.wr (.inl (by simp))
      refine k2 hmo hl H3 ⟨o3, v2.keep m3 e.off, ?_, e.off⟩ ((Mod.ext e1).trans ((m2.mono (by simp)).trans (m3.mono (by simp))))
      obtain ⟨sth, sst, mok, slen, sz, sgr, slive, spk, spk2⟩ := e.sem
      exact ⟨sth, sst, ⟨by simp only [dMS]; omega, by simp only [dMS]; omega, mok.at0, by have := mok.at1; simp only [dMS] at this ⊢; omega, mok.p0, by have := mok.p1; simp only [dMS] at this ⊢; omega, fun t ht => by have := mok.tg t ht; simp only [dMS] at this ⊢; omega, mok.few⟩, slen, sz, fun h0 => by dsimp only at h0; omega, slive, spk, spk2⟩
theorem c18c {H : Heap} {R : Value → Heap → Prop} {be : Nat} {b : DB} {h : Hdr} {d : DS} {ended failed : Bool} {s : PS} {K post : List UInt64} (et : Own H be (engC h b.d ended failed)) (ed : Drv H b h d s K post) (hp : d.pend = 0)
    (k : ∀ H' a1 c1 a2 c2, Buf 1 H' H.size a1 (nX h) c1 (u64s s.ax) → Buf 1 H' H.size a2 (nT h) c2 (u64s s.ag) → Ext H H' → R (.tuple #[.agg [.int .u64 (d.loss.toNat : Int), .slice a1 (nX h) c1, .slice a2 (nT h) c2].toArray, .int .i64 0]) H') : Ru 18 [.pointer (some ⟨be, 0, none⟩)] H R := by
  have hlen := ed.lens
  refine v18 _ _ fun H1 p n1 => c54 (et.mod n1.mod (by simp)) (v58 _ _ fun H2 p2 n2 => ?_)
  have x2 := (ed.ext n1.mod).ext n2.mod
  refine ⟨_, by rw [Nat.zero_add]; exact x2.rd 19 rfl, fun h' => (h' hp).elim, fun _ => ⟨d.loss, by rw [Nat.zero_add]; exact x2.rd 24 rfl, c121 x2 5 (by omega) fun a1 c1 H3 hB3 e3 => ⟨_, _, _, rfl, by rw [Nat.zero_add]; exact (x2.ext e3).rd 24 rfl, c121 (x2.ext e3) 6 (by omega) fun a2 c2 H4 hB4 e4 => ⟨_, _, _, rfl, by rw [Nat.zero_add]; exact ((x2.ext e3).ext e4).rd 24 rfl, rfl, ?_, ?_, fun H5 h5 => ?_⟩⟩⟩⟩
  · intro x hx; simp only [List.mem_cons, List.not_mem_nil, or_false] at hx; rcases hx with rfl | rfl | rfl <;> trivial
  · exact ((n2.own.mod e3 (by simp)).mod e4 (by simp)).w 0 3 rfl
  have o4 := (n2.own.mod e3 (by simp)).mod e4 (by simp)
  have e24 := e3.thenExt e4
  refine ⟨_, rfl, by rw [h5]; exact rdL_wrL o4.2, _, rfl, _, rfl, rfl, ?_, ?_, fun H6 h6 => ?_⟩
  · intro x hx; simp only [List.mem_cons, List.not_mem_nil, or_false] at hx; rcases hx with rfl | rfl | rfl <;> trivial
  · have m5 : Mod [p2] H4 H5 := by rw [h5]; exact Mod.refl.wrL (.inl (by simp))
    have := ((n1.own.mod n2.mod (by simp)).mod e24 (by simp)).mod m5 (by have := n1.lt; have := n2.ge; simp; omega)
    exact this.w 0 3 rfl
  have m5 : Mod [p2] H4 H5 := by rw [h5]; exact Mod.refl.wrL (.inl (by simp))
  have o1 := ((n1.own.mod n2.mod (by simp)).mod e24 (by simp)).mod m5 (by have := n1.lt; have := n2.ge; simp; omega)
  have m6 : Mod [p] H5 H6 := by rw [h6]; exact Mod.refl.wrL (.inl (by simp))
  have h1 := n1.ge; have h2 := n1.lt; have h3 := n2.ge; have h4 := n2.lt; have z3 := e3.1; have z4 := e4.1; have z1 := n1.mod.1
  have m46 : Mod [p2, p] H4 H6 := (m5.mono (by simp)).trans (m6.mono (by simp))
  have b3 : Buf 1 H6 H2.size a1 s.ax.length c1 (u64s s.ax) := (hB3.ext e4).mod m46 (by simp; omega)
  have b4 : Buf 1 H6 H3.size a2 s.ag.length c2 (u64s s.ag) := hB4.mod m46 (by simp; omega)
  have q1 : Buf 1 H6 H.size a1 (nX h) c1 (u64s s.ax) := by rw [← hlen.ax]; exact b3.down (by omega)
  have q2 : Buf 1 H6 H.size a2 (nT h) c2 (u64s s.ag) := by rw [← hlen.ag]; exact b4.down (by omega)
  have hk := k H6 a1 c1 a2 c2 q1 q2 (((n1.mod.new n2).thenExt e24).trans_new m46 (by simp; omega))
  rw [← hlen.ax, ← hlen.ag] at hk
  exact ⟨_, rfl, by rw [h6]; exact rdL_wrL o1.2, hk⟩
theorem c18b {H : Heap} {R : Value → Heap → Prop} {be : Nat} {b : DB} {h : Hdr} {d : DS} {tags : List Int} {ended failed : Bool} {s : PS} {post : List UInt64} (e : EngS H be b h d tags ended failed s post) (hp : d.pend = 0)
    (k : ∀ H' a1 c1 a2 c2, Buf 1 H' H.size a1 (nX h) c1 (u64s s.ax) → Buf 1 H' H.size a2 (nT h) c2 (u64s s.ag) → Ext H H' → R (.tuple #[.agg [.int .u64 (d.loss.toNat : Int), .slice a1 (nX h) c1, .slice a2 (nT h) c2].toArray, .int .i64 0]) H') : Ru 18 [.pointer (some ⟨be, 0, none⟩)] H R := c18c e.top e.drv hp k
theorem c18 {H : Heap} {R : Value → Heap → Prop} {be : Nat} {b : DB} {h : Hdr} {d : DS} {tags : List Int} {ended failed : Bool} {s : PS} {post : List UInt64} (e : EngS H be b h d tags ended failed s post) (hp : d.pend = 0)
    (k : ∀ H' a1 c1 a2 c2, RowU H' a1 (nX h) s.ax → RowU H' a2 (nT h) s.ag → Ext H H' → R (.tuple #[.agg [.int .u64 (d.loss.toNat : Int), .slice a1 (nX h) c1, .slice a2 (nT h) c2].toArray, .int .i64 0]) H') : Ru 18 [.pointer (some ⟨be, 0, none⟩)] H R :=
  c18b e hp fun H' a1 c1 a2 c2 b1 b2 e' => k H' a1 c1 a2 c2 b1.row b2.row e'
end Go.VC
namespace Go.VC
open Go Go.Proofs
def gt (tags : List Int) (i : Nat) : Int := tags.getD i (-1)
theorem gt_set (tags : List Int) (i j : Nat) (x : Int) : gt (tags.set i x) j = if i = j ∧ i < tags.length then x else gt tags j := by
  unfold gt
  simp only [List.getD_eq_getElem?_getD, List.getElem?_set]
  split
  · rename_i e; subst e
    by_cases h : i < tags.length
    · simp [h]
    · simp [h]
  · rename_i e; simp [e]
theorem gt_mem {tags : List Int} {i : Nat} (h : i < tags.length) : gt tags i ∈ tags := by
  unfold gt; rw [List.getD_eq_getElem?_getD, List.getElem?_eq_getElem h]; exact List.getElem_mem h
def Dist (tags : List Int) : Prop := ∀ i j, i < tags.length → j < tags.length → gt tags i = gt tags j → 0 ≤ gt tags i → i = j
theorem dist_free {tags : List Int} (h : Dist tags) (k : Nat) : Dist (tags.set k (-1)) := by
  intro i j hi hj e h0
  simp only [List.length_set] at hi hj
  rw [gt_set] at e h0
  rw [gt_set] at e
  split at h0
  · omega
  · rename_i h1
    rw [if_neg h1] at e
    split at e
    · omega
    · exact h i j hi hj e h0
theorem dist_store {tags : List Int} (h : Dist tags) (k : Nat) {x : Int} (hx : ∀ j, j < tags.length → gt tags j ≠ x) : Dist (tags.set k x) := by
  intro i j hi hj e h0
  simp only [List.length_set] at hi hj
  rw [gt_set] at e h0
  rw [gt_set] at e
  by_cases h1 : k = i ∧ k < tags.length
  · rw [if_pos h1] at e
    by_cases h2 : k = j ∧ k < tags.length
    · omega
    · rw [if_neg h2] at e; exact absurd e.symm (hx j hj)
  · rw [if_neg h1] at e h0
    by_cases h2 : k = j ∧ k < tags.length
    · rw [if_pos h2] at e; exact absurd e (hx i hi)
    · rw [if_neg h2] at e; exact h i j hi hj e h0
def baseOf (tags : List Int) : Int := (lookF tags).base
theorem seen_of {tags : List Int} (ht : ∀ t ∈ tags, -1 ≤ t) : Seen tags tags.length (lookF tags) := lookF_seen ht
theorem base_eq {tags : List Int} (ht : ∀ t ∈ tags, -1 ≤ t) {x : Int} (h0 : 0 ≤ x) {j : Nat} (hj : j < tags.length) (hx : gt tags j = x) (hall : ∀ j, j < tags.length → gt tags j ≤ x) : baseOf tags = x := by
  have s := seen_of ht
  have h1 : gt tags j ≤ baseOf tags := s.top j hj
  have h2 := s.at_ (show 0 ≤ (lookF tags).base by unfold baseOf at h1; omega)
  have h3 := hall (lookF tags).slot.toNat (by have := s.slot0; omega)
  unfold gt at h3; rw [h2.2] at h3
  unfold baseOf at h1 ⊢; omega
theorem base_none {tags : List Int} (ht : ∀ t ∈ tags, -1 ≤ t) (hall : ∀ j, j < tags.length → gt tags j < 0) : baseOf tags = -1 := by
  have s := seen_of ht
  have hb := s.b0
  unfold baseOf
  apply Classical.byContradiction
  intro hn
  have h2 := s.at_ (by omega)
  have h3 := hall (lookF tags).slot.toNat (by have := s.slot0; omega)
  unfold gt at h3; rw [h2.2] at h3; omega
structure OffInv (l at_ pend : Int) (tags : List Int) : Prop where
  mok : MOk ⟨at_, pend, l, 0, tags⟩
  dist : Dist tags
  n1 : 1 ≤ tags.length
  start : baseOf tags = -1 → (at_ = 0 ∧ pend = -1) ∨ pend = 0
  has0 : 0 ≤ baseOf tags → 0 < endOf l pend → ∃ i, i < tags.length ∧ gt tags i = 0
  top : baseOf tags ≤ endOf l pend
  pos : 0 ≤ baseOf tags → (baseOf tags ≤ at_ ∧ at_ < endOf l pend) ∨ (0 ≤ pend ∧ at_ = pend)
def offPhi (l at_ pend : Int) (tags : List Int) : Int :=
  let e := endOf l pend
  let b := baseOf tags
  if b < 0 then (if pend < 0 then 3 * l + 5 else 0)
  else if e ≤ b then 3 * e + 3
  else if at_ = e - 1 then 0
  else if e ≤ at_ then 3 * (e - b) + 1
  else if b < at_ then 3 * (e - at_) + 1
  else 3 * (e - b)
def offM (l at_ pend : Int) (tags : List Int) : Int := endOf l pend * (3 * l + 10) + offPhi l at_ pend tags
theorem offPhi_bound {l at_ pend : Int} {tags : List Int} (h : OffInv l at_ pend tags) : 0 ≤ offPhi l at_ pend tags ∧ offPhi l at_ pend tags ≤ 3 * l + 5 := by
  obtain ⟨⟨l0, l1, at0, at1, p0, p1, tg, few⟩, dist, n1, start, has0, top, pos⟩ := h
  dsimp only at l0 l1 at0 at1 p0 p1 tg
  have he : 0 ≤ endOf l pend ∧ endOf l pend ≤ l := by unfold endOf; split <;> omega
  unfold offPhi
  dsimp only
  generalize endOf l pend = e at *
  generalize baseOf tags = b at *
  split
  · split <;> omega
  · split
    · omega
    · split
      · omega
      · split
        · omega
        · split <;> omega
theorem offM_bound {l at_ pend : Int} {tags : List Int} (h : OffInv l at_ pend tags) : 0 ≤ offM l at_ pend tags ∧ offM l at_ pend tags ≤ l * (3 * l + 10) + (3 * l + 5) := by
  have hp := offPhi_bound h
  obtain ⟨⟨l0, l1, at0, at1, p0, p1, tg, few⟩, _⟩ := h
  dsimp only at l0 l1 at0 at1 p0 p1
  have he : 0 ≤ endOf l pend ∧ endOf l pend ≤ l := by unfold endOf; split <;> omega
  unfold offM
  have h1 := Int.mul_nonneg he.1 (show 0 ≤ 3 * l + 10 by omega)
  have h2 := Int.mul_le_mul_of_nonneg_right he.2 (show 0 ≤ 3 * l + 10 by omega)
  omega
theorem split_le {n c : Nat} (hn : 2 ≤ n) (hc : 1 ≤ c) : 1 ≤ splitOf n c ∧ splitOf n c ≤ n - 1 := by
  have hsp := repsOf_spec (l := n) hc
  have hr1 : 1 ≤ repsOf n c := by
    apply Nat.pos_of_ne_zero
    intro e
    have := hsp.enough
    rw [e] at this; simp at this; omega
  have hlow : ch (c + (repsOf n c - 1)) c < n := by
    rcases hsp.least with e | e
    · omega
    · exact e
  have h1 : ch (c + repsOf n c - 2) c ≤ n - 1 := by
    have := ch_mono (show c + repsOf n c - 2 ≤ c + (repsOf n c - 1) by omega) c
    omega
  have h2 : 1 ≤ ch (c + repsOf n c - 1) (c - 1) := ch_pos (by omega)
  unfold splitOf
  omega
theorem mst1 {s : MS1} {n : Int} (h1 : 1 ≤ n) (h2 : n < 65536) (h3 : n ≤ s.l - s.at_) : mstep s 1 n = some { s with at_ := s.at_ + n, total := s.total + n } := by
  have hr : rightA 1 n := ⟨by omega, by omega, fun _ => ⟨h1, h2⟩, by omega, by omega⟩
  unfold mstep mstepR
  rw [if_neg (by rintro (h | h); exact h hr; omega), if_pos rfl, if_neg (by omega)]
theorem mst2 {s : MS1} {n : Int} (h1 : 0 ≤ n) (h2 : n < s.tags.length) (h3 : tagAt s n < 0) (hf : s.tags.length ≤ 1048576) : mstep s 2 n = some { s with tags := s.tags.set n.toNat s.at_ } := by
  have hr : rightA 2 n := ⟨by omega, by omega, by omega, fun _ _ => ⟨h1, by omega⟩, by omega⟩
  unfold mstep mstepR
  rw [if_neg (by rintro (h | h); exact h hr; omega), if_neg (by omega), if_pos rfl, if_neg (by omega)]
theorem mst3 {s : MS1} {n : Int} (h1 : 0 ≤ n) (h2 : n < s.tags.length) (h3 : 0 ≤ tagAt s n) (hf : s.tags.length ≤ 1048576) : mstep s 3 n = some { s with at_ := tagAt s n } := by
  have hr : rightA 3 n := ⟨by omega, by omega, by omega, fun _ _ => ⟨h1, by omega⟩, by omega⟩
  unfold mstep mstepR
  rw [if_neg (by rintro (h | h); exact h hr; omega), if_neg (by omega), if_neg (by omega), if_pos rfl, if_neg (by omega)]
theorem mst4 {s : MS1} {n : Int} (h1 : 0 ≤ n) (h2 : n < s.tags.length) (h3 : 0 ≤ tagAt s n) (hf : s.tags.length ≤ 1048576) : mstep s 4 n = some { s with tags := s.tags.set n.toNat (-1) } := by
  have hr : rightA 4 n := ⟨by omega, by omega, by omega, fun _ _ => ⟨h1, by omega⟩, by omega⟩
  unfold mstep mstepR
  rw [if_neg (by rintro (h | h); exact h hr; omega), if_neg (by omega), if_neg (by omega), if_neg (by omega), if_pos rfl, if_neg (by omega)]
theorem mst5 {s : MS1} (h1 : s.pend = -1) (h2 : s.at_ = s.l) : mstep s 5 0 = some { s with pend := s.at_ } := by
  have hr : rightA 5 0 := ⟨by omega, by omega, by omega, by omega, by omega⟩
  unfold mstep mstepR
  rw [if_neg (by rintro (h | h); exact h hr; omega), if_neg (by omega), if_neg (by omega), if_neg (by omega), if_neg (by omega), if_pos rfl, if_pos ⟨h1, h2⟩]
theorem mst6 {s : MS1} (h1 : s.pend = -1) (h2 : s.at_ = s.l - 1) : mstep s 6 0 = some { s with pend := s.at_ } := by
  have hr : rightA 6 0 := ⟨by omega, by omega, by omega, by omega, by omega⟩
  unfold mstep mstepR
  rw [if_neg (by rintro (h | h); exact h hr; omega), if_neg (by omega), if_neg (by omega), if_neg (by omega), if_neg (by omega), if_neg (by omega), if_pos rfl, if_pos ⟨h1, h2⟩]
theorem mst7 {s : MS1} (h1 : 0 < s.pend) (h2 : s.at_ = s.pend - 1) : mstep s 7 0 = some { s with pend := s.at_ } := by
  have hr : rightA 7 0 := ⟨by omega, by omega, by omega, by omega, by omega⟩
  unfold mstep mstepR
  rw [if_neg (by rintro (h | h); exact h hr; omega), if_neg (by omega), if_neg (by omega), if_neg (by omega), if_neg (by omega), if_neg (by omega), if_neg (by omega), if_pos ⟨h1, h2⟩]
theorem revNext_eq (l at_ pend : Int) (tags : List Int) : revNext l at_ pend tags =
    if 0 ≤ pend ∧ endOf l pend ≤ baseOf tags then some (4, (lookF tags).slot) else if pend = 0 then none else if pend < 0 ∧ at_ = l then some (5, 0)
    else if at_ = endOf l pend - 1 then (if 0 ≤ pend then some (7, 0) else some (6, 0)) else if baseOf tags < 0 then (if endOf l pend ≤ at_ then none else some (2, 0))
    else if at_ < baseOf tags ∨ endOf l pend ≤ at_ then some (3, (lookF tags).slot) else if baseOf tags < at_ ∧ 0 < (lookF tags).free then some (2, (lookF tags).vac)
    else if baseOf tags < at_ then some (1, endOf l pend - 1 - at_) else some (1, (splitOf (endOf l pend - baseOf tags).toNat ((lookF tags).free + 1).toNat : Nat)) := by
  simp only [revNext, ruleFrom, ruleIs, ruleDo, baseOf, Bool.and_eq_true, Bool.or_eq_true, decide_eq_true_eq]
  repeat' (refine ite_congr rfl (fun _ => ?_) (fun _ => ?_))
  all_goals rfl
theorem mok_total {a p l k k' : Int} {t : List Int} (h : MOk ⟨a, p, l, k, t⟩) : MOk ⟨a, p, l, k', t⟩ := by
  obtain ⟨l0, l1, at0, at1, p0, p1, tg, few⟩ := h; exact ⟨l0, l1, at0, at1, p0, p1, tg, few⟩
theorem off_step {l at_ pend : Int} {tags : List Int} (h : OffInv l at_ pend tags) :
    (revNext l at_ pend tags = none ∧ pend = 0) ∨ ∃ k n m, revNext l at_ pend tags = some (k, n) ∧ mstep ⟨at_, pend, l, 0, tags⟩ k n = some m ∧ OffInv l m.at_ m.pend m.tags ∧ offM l m.at_ m.pend m.tags < offM l at_ pend tags := by
  have hh := h
  obtain ⟨mok, dist, n1, start, has0, top, pos⟩ := h
  have ⟨l0, l1, at0, at1, p0, p1, tg, few⟩ := mok
  dsimp only at l0 l1 at0 at1 p0 p1 tg few
  have tg1 : ∀ t ∈ tags, -1 ≤ t := fun t ht => (tg t ht).1
  have seen := seen_of tg1
  have hb : baseOf tags = (lookF tags).base := rfl
  have he : 0 ≤ endOf l pend ∧ endOf l pend ≤ l := by unfold endOf; split <;> omega
  have hpe : 0 ≤ pend → endOf l pend = pend := by intro hp; unfold endOf; rw [if_neg (by omega)]
  have hne : pend < 0 → endOf l pend = l := by intro hp; unfold endOf; rw [if_pos hp]
  have b0 := seen.b0
  have hs0 := seen.slot0
  have hphi := offPhi_bound hh
  have hM : offM l at_ pend tags = endOf l pend * (3 * l + 10) + offPhi l at_ pend tags := rfl
  rw [revNext_eq]
  have ta : ∀ n : Int, tagAt ⟨at_, pend, l, 0, tags⟩ n = gt tags n.toNat := fun n => rfl
  have hslot : 0 ≤ baseOf tags → (lookF tags).slot < tags.length ∧ gt tags (lookF tags).slot.toNat = baseOf tags := fun h0 => seen.at_ h0
  have htop : ∀ j, j < tags.length → gt tags j ≤ baseOf tags := seen.top
  have tgm : ∀ j, j < tags.length → -1 ≤ gt tags j := fun j hj => tg1 _ (gt_mem hj)
  have keep : ∀ {a' : Int} {t' : List Int}, offPhi l a' pend t' < offPhi l at_ pend tags → offM l a' pend t' < offM l at_ pend tags := by
    intro a' t' hlt; unfold offM; omega
  by_cases c1 : 0 ≤ pend ∧ endOf l pend ≤ baseOf tags
  · rw [if_pos c1]
    have hp := hpe c1.1
    have hbe : baseOf tags = pend := by omega
    obtain ⟨hsl, hsg⟩ := hslot (by omega)
    have hat : at_ = pend := by
      rcases pos (by omega) with h1 | h1
      · omega
      · exact h1.2
    have hst := mst4 (s := ⟨at_, pend, l, 0, tags⟩) hs0 hsl (by rw [ta, hsg]; omega) few
    refine .inr ⟨_, _, _, rfl, hst, ?_, ?_⟩
    all_goals
      have mok2 := mstep_ok mok hst
      have hless : ∀ j, j < tags.length → gt (tags.set (lookF tags).slot.toNat (-1)) j < pend ∨ pend = 0 ∧ gt (tags.set (lookF tags).slot.toNat (-1)) j = -1 := by
        intro j hj
        rw [gt_set]
        split
        · omega
        · rename_i hne'
          have h1 := htop j hj
          have h2 : gt tags j ≠ baseOf tags := by
            intro e
            have := dist j (lookF tags).slot.toNat hj (by omega) (by omega) (by omega)
            exact hne' ⟨by omega, by omega⟩
          left; omega
      have tg2 : ∀ t ∈ tags.set (lookF tags).slot.toNat (-1), -1 ≤ t := fun t ht => (mok2.tg t ht).1
      have seen2 := seen_of tg2
      have hb2 : -1 ≤ baseOf (tags.set (lookF tags).slot.toNat (-1)) := seen2.b0
      have hb2lt : 0 < pend → baseOf (tags.set (lookF tags).slot.toNat (-1)) < pend := by
        intro hp0
        by_cases hneg : 0 ≤ baseOf (tags.set (lookF tags).slot.toNat (-1))
        · have h1 := seen2.at_ hneg
          have h2 := hless (lookF (tags.set (lookF tags).slot.toNat (-1))).slot.toNat (by have := h1.1; simp at this; have := seen2.slot0; omega)
          have h3 : gt (tags.set (lookF tags).slot.toNat (-1)) (lookF (tags.set (lookF tags).slot.toNat (-1))).slot.toNat = baseOf (tags.set (lookF tags).slot.toNat (-1)) := h1.2
          omega
        · omega
      have hb2z : pend = 0 → baseOf (tags.set (lookF tags).slot.toNat (-1)) = -1 := by
        intro hp0
        refine base_none tg2 fun j hj => ?_
        simp at hj
        rcases hless j hj with h1 | h1 <;> omega
      have h0has : 0 < pend → ∃ i, i < (tags.set (lookF tags).slot.toNat (-1)).length ∧ gt (tags.set (lookF tags).slot.toNat (-1)) i = 0 := by
        intro hp0
        obtain ⟨i, hi, hi0⟩ := has0 (by omega) (by omega)
        refine ⟨i, by simpa using hi, ?_⟩
        rw [gt_set, if_neg (by rintro ⟨e, _⟩; rw [e] at hsg; omega)]; exact hi0
    · refine ⟨mok2, dist_free dist _, by simpa using n1, fun hb' => ?_, fun hb' he' => ?_, ?_, fun hb' => .inr ⟨c1.1, hat⟩⟩
      · rcases Int.lt_or_le 0 pend with h1 | h1
        · obtain ⟨i, hi, hi0⟩ := h0has h1
          have := seen2.top i hi
          have h2 : gt (tags.set (lookF tags).slot.toNat (-1)) i ≤ baseOf (tags.set (lookF tags).slot.toNat (-1)) := this
          dsimp only at hb'
          omega
        · exact .inr (by dsimp only; omega)
      · exact h0has (by dsimp only at he'; omega)
      · dsimp only
        rcases Int.lt_or_le 0 pend with h1 | h1
        · have := hb2lt h1; omega
        · have := hb2z (by omega); omega
    · apply keep
      unfold offPhi
      dsimp only
      rw [if_neg (show ¬ baseOf tags < 0 by omega), if_pos c1.2]
      by_cases hp0 : 0 < pend
      · have h1 := hb2lt hp0
        split
        · split <;> omega
        · rw [if_neg (by omega), if_neg (by omega), if_pos (by omega)]; omega
      · rw [if_pos (by have := hb2z (by omega); omega), if_neg (by omega)]; omega
  rw [if_neg c1]
  by_cases c2 : pend = 0
  · rw [if_pos c2]; exact .inl ⟨rfl, c2⟩
  rw [if_neg c2]
  by_cases c3 : pend < 0 ∧ at_ = l
  · rw [if_pos c3]
    have hbn : baseOf tags = -1 := by
      apply Classical.byContradiction
      intro hn
      rcases pos (by omega) with h1 | h1
      · have := hne c3.1; omega
      · omega
    have hl : l = 0 := by rcases start hbn with h1 | h1 <;> omega
    have hst := mst5 (s := ⟨at_, pend, l, 0, tags⟩) (by dsimp only; omega) c3.2
    refine .inr ⟨_, _, _, rfl, hst, ⟨mstep_ok mok hst, dist, n1, fun _ => .inr (by dsimp only; omega), fun h0 => by dsimp only at h0; omega, by dsimp only; unfold endOf; rw [if_neg (by omega)]; omega, fun h0 => by dsimp only at h0; omega⟩, ?_⟩
    have e1 : endOf l at_ = 0 := by unfold endOf; rw [if_neg (by omega)]; omega
    have e2 : endOf l pend = 0 := by rw [hne c3.1]; exact hl
    dsimp only
    unfold offM offPhi
    dsimp only
    rw [e1, e2, hbn]
    simp only [show ((-1 : Int) < 0) = True from by simp, if_true]
    rw [if_neg (by omega), if_pos c3.1]; omega
  rw [if_neg c3]
  by_cases c4 : at_ = endOf l pend - 1
  · rw [if_pos c4]
    have mul : endOf l at_ * (3 * l + 10) = endOf l pend * (3 * l + 10) - (3 * l + 10) := by
      have : endOf l at_ = endOf l pend - 1 := by unfold endOf; rw [if_neg (by omega)]; unfold endOf at c4; exact c4
      rw [this, Int.sub_mul, Int.one_mul]
    have inv2 : ∀ {m : MS1}, m.at_ = at_ → m.pend = at_ → m.tags = tags → m.l = l → MOk m → OffInv l m.at_ m.pend m.tags ∧ offM l m.at_ m.pend m.tags < offM l at_ pend tags := by
      intro m q1 q2 q3 q4 q5
      have e1 : endOf l at_ = at_ := by unfold endOf; rw [if_neg (by omega)]
      have inv : OffInv l at_ at_ tags := by
        refine ⟨⟨l0, l1, at0, at1, by dsimp only; omega, at1, tg, few⟩, dist, n1, fun hb' => ?_, fun hb' he' => has0 hb' (by omega), ?_, fun hb' => .inr ⟨at0, rfl⟩⟩
        · rcases start hb' with h1 | h1
          · exact .inr h1.1
          · omega
        · rw [e1]
          by_cases hn : 0 ≤ baseOf tags
          · rcases pos hn with h1 | h1
            · omega
            · omega
          · omega
      rw [q1, q2, q3]
      refine ⟨inv, ?_⟩
      have := (offPhi_bound inv).2
      unfold offM
      rw [mul]; omega
    by_cases hp : 0 ≤ pend
    · rw [if_pos hp]
      have hst := mst7 (s := ⟨at_, pend, l, 0, tags⟩) (by dsimp only; omega) (by have := hpe hp; dsimp only; omega)
      obtain ⟨i1, i2⟩ := inv2 (m := { at_ := at_, pend := at_, l := l, total := 0, tags := tags }) rfl rfl rfl rfl (mstep_ok mok hst)
      exact .inr ⟨_, _, _, rfl, hst, i1, i2⟩
    · rw [if_neg hp]
      have hst := mst6 (s := ⟨at_, pend, l, 0, tags⟩) (by dsimp only; omega) (by have := hne (by omega); dsimp only; omega)
      obtain ⟨i1, i2⟩ := inv2 (m := { at_ := at_, pend := at_, l := l, total := 0, tags := tags }) rfl rfl rfl rfl (mstep_ok mok hst)
      exact .inr ⟨_, _, _, rfl, hst, i1, i2⟩
  rw [if_neg c4]
  by_cases c5 : baseOf tags < 0
  · rw [if_pos c5]
    have hbn : baseOf tags = -1 := by omega
    obtain ⟨ha0, hp1⟩ : at_ = 0 ∧ pend = -1 := by rcases start hbn with h1 | h1; exact h1; omega
    have hel : endOf l pend = l := hne (by omega)
    rw [if_neg (by omega)]
    have hneg : ∀ j, j < tags.length → gt tags j < 0 := fun j hj => by have := htop j hj; omega
    have hst := mst2 (s := ⟨at_, pend, l, 0, tags⟩) (n := 0) (by omega) (by dsimp only; omega) (by rw [ta]; exact hneg 0 (by omega)) few
    have mok2 := mstep_ok mok hst
    have hb2 : baseOf (tags.set 0 at_) = 0 := by
      have tg2 : ∀ t ∈ tags.set 0 at_, -1 ≤ t := fun t ht => (mok2.tg t ht).1
      refine base_eq (tags := tags.set 0 at_) (j := 0) tg2 (by omega) (by rw [List.length_set]; omega) (by rw [gt_set, if_pos ⟨rfl, by omega⟩]; exact ha0) fun j hj => ?_
      rw [List.length_set] at hj
      rw [gt_set]; split
      · omega
      · have := hneg j hj; omega
    refine .inr ⟨_, _, _, rfl, hst, ⟨mok2, dist_store dist 0 fun j hj e => by have h1 := hneg j hj; have h2 : gt tags j = at_ := e; omega, by simpa using n1, fun hb' => ?_, fun _ _ => ⟨0, by show 0 < (tags.set 0 at_).length; rw [List.length_set]; omega, ?_⟩, ?_, fun _ => .inl ?_⟩, ?_⟩
    · have : baseOf (tags.set 0 at_) = -1 := hb'; omega
    · show gt (tags.set 0 at_) 0 = 0
      rw [gt_set, if_pos ⟨rfl, by omega⟩]; exact ha0
    · show baseOf (tags.set 0 at_) ≤ endOf l pend; rw [hb2]; omega
    · show baseOf (tags.set 0 at_) ≤ at_ ∧ at_ < endOf l pend; rw [hb2]; omega
    · show offM l at_ pend (tags.set 0 at_) < _
      apply keep
      unfold offPhi
      dsimp only
      rw [hb2]
      (repeat' split) <;> omega
  rw [if_neg c5]
  obtain ⟨hsl, hsg⟩ := hslot (by omega)
  by_cases c6 : at_ < baseOf tags ∨ endOf l pend ≤ at_
  · rw [if_pos c6]
    have hat : 0 ≤ pend ∧ at_ = pend := by
      rcases pos (by omega) with h1 | h1
      · omega
      · exact h1
    have hep := hpe hat.1
    have hst := mst3 (s := ⟨at_, pend, l, 0, tags⟩) hs0 hsl (by rw [ta, hsg]; omega) few
    rw [ta, hsg] at hst
    refine .inr ⟨_, _, _, rfl, hst, ⟨mstep_ok mok hst, dist, n1, fun hb' => by dsimp only at hb'; omega, has0, top, fun _ => .inl ⟨by dsimp only; omega, by dsimp only; omega⟩⟩, ?_⟩
    apply keep
    unfold offPhi
    dsimp only
    (repeat' split) <;> omega
  rw [if_neg c6]
  by_cases c7 : baseOf tags < at_ ∧ 0 < (lookF tags).free
  · rw [if_pos c7]
    have hv : 0 ≤ (lookF tags).vac := by
      apply Classical.byContradiction
      intro hn
      have := seen.vf (by omega); omega
    have hvv := seen.vac hv
    have hst := mst2 (s := ⟨at_, pend, l, 0, tags⟩) hv hvv.1 (by rw [ta]; exact hvv.2) few
    have mok2 := mstep_ok mok hst
    have hvl := hvv.1
    have hb2 : baseOf (tags.set (lookF tags).vac.toNat at_) = at_ := by
      have tg2 : ∀ t ∈ tags.set (lookF tags).vac.toNat at_, -1 ≤ t := fun t ht => (mok2.tg t ht).1
      refine base_eq (tags := tags.set (lookF tags).vac.toNat at_) (j := (lookF tags).vac.toNat) tg2 at0 (by rw [List.length_set]; omega) (by rw [gt_set, if_pos ⟨rfl, by omega⟩]) fun j hj => ?_
      rw [List.length_set] at hj
      rw [gt_set]; split
      · omega
      · have := htop j hj; omega
    refine .inr ⟨_, _, _, rfl, hst, ⟨mok2, dist_store dist _ fun j hj e => by have h1 := htop j hj; have h2 : gt tags j = at_ := e; omega, by simpa using n1, fun hb' => ?_, fun _ he' => ?_, ?_, fun _ => .inl ?_⟩, ?_⟩
    · have : baseOf (tags.set (lookF tags).vac.toNat at_) = -1 := hb'; omega
    · obtain ⟨i, hi, hi0⟩ := has0 (by omega) he'
      refine ⟨i, by simpa using hi, ?_⟩
      show gt (tags.set (lookF tags).vac.toNat at_) i = 0
      rw [gt_set, if_neg ?_]
      · exact hi0
      · rintro ⟨e, _⟩
        have := hvv.2
        have h3 : gt tags (lookF tags).vac.toNat < 0 := this
        rw [e] at h3; omega
    · show baseOf (tags.set (lookF tags).vac.toNat at_) ≤ endOf l pend; rw [hb2]; omega
    · show baseOf (tags.set (lookF tags).vac.toNat at_) ≤ at_ ∧ at_ < endOf l pend; rw [hb2]; omega
    · show offM l at_ pend (tags.set (lookF tags).vac.toNat at_) < _
      apply keep
      unfold offPhi
      dsimp only
      rw [hb2]
      (repeat' split) <;> omega
  rw [if_neg c7]
  by_cases c8 : baseOf tags < at_
  · rw [if_pos c8]
    have hst := mst1 (s := ⟨at_, pend, l, 0, tags⟩) (n := endOf l pend - 1 - at_) (by omega) (by omega) (by dsimp only; omega)
    refine .inr ⟨_, _, _, rfl, hst, ⟨mok_total (mstep_ok mok hst), dist, n1, fun hb' => by dsimp only at hb'; omega, has0, top, fun _ => .inl ⟨by dsimp only; omega, by dsimp only; omega⟩⟩, ?_⟩
    apply keep
    unfold offPhi
    dsimp only
    (repeat' split) <;> omega
  rw [if_neg c8]
  have hsp := split_le (n := (endOf l pend - baseOf tags).toNat) (c := ((lookF tags).free + 1).toNat) (by omega) (by have := seen.f0; omega)
  generalize splitOf (endOf l pend - baseOf tags).toNat ((lookF tags).free + 1).toNat = q at hsp ⊢
  have hst := mst1 (s := ⟨at_, pend, l, 0, tags⟩) (n := (q : Int)) (by omega) (by omega) (by dsimp only; omega)
  refine .inr ⟨_, _, _, rfl, hst, ⟨mok_total (mstep_ok mok hst), dist, n1, fun hb' => by dsimp only at hb'; omega, has0, top, fun _ => .inl ⟨by dsimp only; omega, by dsimp only; omega⟩⟩, ?_⟩
  apply keep
  unfold offPhi
  dsimp only
  (repeat' split) <;> omega
end Go.VC
namespace Go.VC
open Go Go.Proofs
theorem nodup_le : ∀ {a b : List Nat}, a.Nodup → (∀ x ∈ a, x ∈ b) → a.length ≤ b.length
  | [], b, _, _ => by simp
  | x :: a, b, hn, hs => by
    rw [List.nodup_cons] at hn
    have h1 : x ∈ b := hs x (by simp)
    have ih := nodup_le (a := a) (b := b.erase x) hn.2 fun y hy => (List.mem_erase_of_ne (fun e => hn.1 (by rw [← e]; exact hy))).2 (hs y (by simp [hy]))
    rw [List.length_erase_of_mem h1] at ih
    have := List.length_pos_of_mem h1
    simp only [List.length_cons]; omega
@[simp] theorem gt_succ (a : Int) (l : List Int) (i : Nat) : gt (a :: l) (i + 1) = gt l i := by simp [gt]
@[simp] theorem gt_zero (a : Int) (l : List Int) : gt (a :: l) 0 = a := by simp [gt]
theorem gt_of_mem {tags : List Int} {t : Int} (h : t ∈ tags) : ∃ j, j < tags.length ∧ gt tags j = t := by
  obtain ⟨j, hj, e⟩ := List.getElem_of_mem h
  exact ⟨j, hj, by unfold gt; rw [List.getD_eq_getElem?_getD, List.getElem?_eq_getElem hj]; exact e⟩
def heldL (tags : List Int) : List Nat := (tags.filter fun t => decide (0 ≤ t)).map Int.toNat
theorem heldL_length (tags : List Int) : (heldL tags).length = heldN tags := by simp [heldL, heldN, List.countP_eq_length_filter]
theorem mem_heldL {tags : List Int} {x : Nat} : x ∈ heldL tags ↔ ∃ j, j < tags.length ∧ gt tags j = (x : Int) := by
  unfold heldL
  simp only [List.mem_map, List.mem_filter, decide_eq_true_eq]
  constructor
  · rintro ⟨t, ⟨ht, h0⟩, e⟩
    obtain ⟨j, hj, he⟩ := gt_of_mem ht
    exact ⟨j, hj, by omega⟩
  · rintro ⟨j, hj, e⟩
    exact ⟨gt tags j, ⟨gt_mem hj, by omega⟩, by omega⟩
theorem dist_nodup : ∀ {tags : List Int}, Dist tags → (heldL tags).Nodup
  | [], _ => by simp [heldL]
  | a :: l, h => by
    have h' : Dist l := fun i j hi hj e h0 => by
      have := h (i + 1) (j + 1) (by simpa using hi) (by simpa using hj) (by simpa using e) (by simpa using h0); omega
    have ih := dist_nodup h'
    unfold heldL at ih ⊢
    by_cases ha : 0 ≤ a
    · rw [List.filter_cons_of_pos (by simpa using ha)]
      simp only [List.map_cons, List.nodup_cons]
      refine ⟨fun hm => ?_, ih⟩
      obtain ⟨j, hj, e⟩ := mem_heldL.1 hm
      have := h 0 (j + 1) (by simp) (by simpa using hj) (by simp; omega) (by simpa using ha)
      omega
    · rw [List.filter_cons_of_neg (by simpa using ha)]; exact ih
def bad (D : Nat) (t : Int) : Bool := decide (0 ≤ t) && decide (¬ t % (D : Int) = 0)
def DD (l : Int) (tags : List Int) : Nat := strideD l.toNat tags.length
structure AInv (l at_ : Int) (tags : List Int) : Prop where
  mok : MOk ⟨at_, -1, l, 0, tags⟩
  dist : Dist tags
  n1 : 1 ≤ tags.length
  has : ∀ m : Nat, ((m * DD l tags : Nat) : Int) < l → ∃ i, i < tags.length ∧ gt tags i = ((m * DD l tags : Nat) : Int)
structure AFull (l at_ : Int) (tags : List Int) : Prop where
  inv : AInv l at_ tags
  here : at_ = l
  next : ∀ ended, strideNext l ended at_ (-1) tags = if ended then some (5, 0) else none
  mul : ∀ j, j < tags.length → 0 ≤ gt tags j → gt tags j % (DD l tags : Int) = 0
  full : ∀ m : Nat, ((m * DD l tags : Nat) : Int) ≤ l → ∃ i, i < tags.length ∧ gt tags i = ((m * DD l tags : Nat) : Int)
def aM (l at_ : Int) (tags : List Int) : Int := (if at_ < l then 1 else 0) + 2 * (tags.countP (bad (DD l tags)) : Int) + (if l ∈ tags then 0 else 1)
theorem aM_bound {l at_ : Int} {tags : List Int} (h : AInv l at_ tags) : 0 ≤ aM l at_ tags ∧ aM l at_ tags ≤ 2097154 := by
  have h1 := h.mok.few
  have h2 : tags.countP (bad (DD l tags)) ≤ tags.length := List.countP_le_length
  dsimp only at h1
  unfold aM
  constructor <;> split <;> split <;> omega
theorem countP_set' {p : Int → Bool} {tags : List Int} {i : Nat} (hi : i < tags.length) (t : Int) : ((tags.set i t).countP p : Int) = (tags.countP p : Int) - (if p (gt tags i) then 1 else 0) + (if p t then 1 else 0) := by
  have e : tags[i] = gt tags i := by unfold gt; rw [List.getD_eq_getElem?_getD, List.getElem?_eq_getElem hi]; rfl
  rw [List.countP_set hi, e]
  have hpos : p (gt tags i) = true → 0 < tags.countP p := fun h => List.countP_pos_iff.2 ⟨_, gt_mem hi, h⟩
  by_cases hc : p (gt tags i) = true
  · have := hpos hc
    by_cases ht : p t = true <;> simp [hc, ht] <;> omega
  · by_cases ht : p t = true <;> simp [hc, ht]
theorem DD_set (l : Int) (tags : List Int) (i : Nat) (t : Int) : DD l (tags.set i t) = DD l tags := by unfold DD; rw [List.length_set]
theorem best_lt {tags : List Int} {is : Int → Bool} {ah : Int → Int → Bool} (h0 : 0 ≤ bestF tags is ah) : (bestF tags is ah).toNat < tags.length := by
  have : bestF tags is ah < tags.length := (bestN_range tags is ah tags.length).2
  omega
theorem best_is {tags : List Int} {is : Int → Bool} {ah : Int → Int → Bool} (h0 : 0 ≤ bestF tags is ah) : is (gt tags (bestF tags is ah).toNat) = true := bestN_is tags is ah tags.length h0
theorem best_none {tags : List Int} {is : Int → Bool} {ah : Int → Int → Bool} (h0 : bestF tags is ah < 0) {j : Nat} (hj : j < tags.length) : is (gt tags j) = false := bestN_none tags is ah tags.length h0 j hj
theorem ahead_eq {l at_ : Int} {tags : List Int} (ended : Bool) : strideNext l ended at_ (-1) tags =
    if at_ < l then some (1, l - at_)
    else if 0 ≤ bestF tags (bad (DD l tags)) (fun a b => decide (a < b)) then some (4, bestF tags (bad (DD l tags)) (fun a b => decide (a < b)))
    else if l % (DD l tags : Int) = 0 ∧ bestF tags (fun t => decide (t = l)) (fun a b => decide (a < b)) < 0 ∧ 0 ≤ bestF tags (fun t => decide (t < 0)) (fun a b => decide (a < b)) then some (2, bestF tags (fun t => decide (t < 0)) (fun a b => decide (a < b)))
    else if ended then some (5, 0) else none := by
  unfold strideNext
  rw [if_pos (by omega)]
  rfl
theorem a_step {l at_ : Int} {tags : List Int} (h : AInv l at_ tags) :
    AFull l at_ tags ∨ ∃ k n m, (∀ ended, strideNext l ended at_ (-1) tags = some (k, n)) ∧ mstep ⟨at_, -1, l, 0, tags⟩ k n = some m ∧ m.pend = -1 ∧ AInv l m.at_ m.tags ∧ aM l m.at_ m.tags < aM l at_ tags := by
  have hh := h
  obtain ⟨mok, dist, n1, has⟩ := h
  have ⟨l0, l1, at0, at1, p0, p1, tg, few⟩ := mok
  dsimp only at l0 l1 at0 at1 p0 p1 tg few
  have hD : 0 < DD l tags := strideD_pos n1 (by omega)
  have hDl : l < tags.length * (DD l tags : Int) := by
    obtain ⟨j, _, e, hlt, _⟩ := strideD_spec (k := l.toNat) n1 (by omega)
    have e' : DD l tags = 2 ^ j := e
    rw [← e'] at hlt
    have : ((l.toNat : Nat) : Int) < ((tags.length * DD l tags : Nat) : Int) := by exact_mod_cast hlt
    push_cast at this
    omega
  have tgm : ∀ j, j < tags.length → -1 ≤ gt tags j ∧ gt tags j ≤ l := fun j hj => tg _ (gt_mem hj)
  by_cases c1 : at_ < l
  · right
    have hst := mst1 (s := ⟨at_, -1, l, 0, tags⟩) (n := l - at_) (by omega) (by omega) (by dsimp only; omega)
    refine ⟨_, _, _, fun ended => by rw [ahead_eq, if_pos c1], hst, rfl, ⟨mok_total (mstep_ok mok hst), dist, n1, has⟩, ?_⟩
    dsimp only
    unfold aM
    rw [if_pos c1, if_neg (show ¬ at_ + (l - at_) < l by omega)]
    omega
  have hat : at_ = l := by omega
  by_cases c2 : 0 ≤ bestF tags (bad (DD l tags)) (fun a b => decide (a < b))
  · right
    have hlt := best_lt c2
    have hbad := best_is c2
    generalize hoff : bestF tags (bad (DD l tags)) (fun a b => decide (a < b)) = off at *
    have hb := hbad
    unfold bad at hbad
    simp only [Bool.and_eq_true, decide_eq_true_eq] at hbad
    have hst := mst4 (s := ⟨at_, -1, l, 0, tags⟩) (n := off) c2 (by dsimp only; omega) hbad.1 few
    refine ⟨_, _, _, fun ended => by rw [ahead_eq, if_neg c1, hoff, if_pos c2], hst, rfl, ⟨mstep_ok mok hst, dist_free dist _, by simpa using n1, ?_⟩, ?_⟩
    · intro m hm
      dsimp only at hm ⊢
      rw [DD_set] at hm ⊢
      obtain ⟨i, hi, e⟩ := has m hm
      refine ⟨i, by simpa using hi, ?_⟩
      rw [gt_set, if_neg ?_, e]
      rintro ⟨ei, _⟩
      rw [ei, e] at hbad
      apply hbad.2
      push_cast
      exact Int.mul_emod_left _ _
    · dsimp only
      unfold aM
      rw [DD_set, countP_set' hlt, hb]
      rw [if_pos rfl, if_neg (show ¬ bad (DD l tags) (-1) = true by simp [bad])]
      split <;> split <;> split <;> omega
  have c2' : bestF tags (bad (DD l tags)) (fun a b => decide (a < b)) < 0 := by omega
  have hmul : ∀ j, j < tags.length → 0 ≤ gt tags j → gt tags j % (DD l tags : Int) = 0 := by
    intro j hj h0
    have := best_none c2' hj
    unfold bad at this
    simp only [Bool.and_eq_false_iff, decide_eq_false_iff_not] at this
    rcases this with h1 | h1
    · omega
    · exact Classical.byContradiction h1
  by_cases c3 : l % (DD l tags : Int) = 0 ∧ bestF tags (fun t => decide (t = l)) (fun a b => decide (a < b)) < 0 ∧ 0 ≤ bestF tags (fun t => decide (t < 0)) (fun a b => decide (a < b))
  · right
    obtain ⟨q1, q2, q3⟩ := c3
    have hlt := best_lt q3
    have hvac := best_is q3
    generalize hv : bestF tags (fun t => decide (t < 0)) (fun a b => decide (a < b)) = vac at *
    simp only [decide_eq_true_eq] at hvac
    have hno : ∀ j, j < tags.length → gt tags j ≠ l := fun j hj => by simpa using best_none q2 hj
    have hst := mst2 (s := ⟨at_, -1, l, 0, tags⟩) (n := vac) q3 (by dsimp only; omega) hvac few
    refine ⟨_, _, _, fun ended => by rw [ahead_eq, if_neg c1, if_neg (by omega), hv, if_pos ⟨q1, q2, q3⟩], hst, rfl, ⟨mstep_ok mok hst, dist_store dist _ (by dsimp only; rw [hat]; exact hno), by simpa using n1, ?_⟩, ?_⟩
    · intro m hm
      dsimp only at hm ⊢
      rw [DD_set] at hm ⊢
      obtain ⟨i, hi, e⟩ := has m hm
      refine ⟨i, by simpa using hi, ?_⟩
      rw [gt_set, if_neg ?_, e]
      rintro ⟨ei, _⟩
      rw [ei, e] at hvac
      omega
    · dsimp only
      unfold aM
      rw [DD_set, countP_set' hlt, hat]
      have hl1 : l ∉ tags := fun hm => by
        obtain ⟨j, hj, e⟩ := gt_of_mem hm
        exact hno j hj e
      have hl2 : l ∈ tags.set vac.toNat l := List.mem_set hlt _
      rw [if_neg hl1, if_pos hl2, if_neg (show ¬ bad (DD l tags) (gt tags vac.toNat) = true by simp [bad]; omega), if_neg (show ¬ bad (DD l tags) l = true by simp [bad, q1])]
      omega
  left
  refine ⟨hh, hat, fun ended => by rw [ahead_eq, if_neg c1, if_neg c2, if_neg c3], hmul, fun m hm => ?_⟩
  by_cases hlt : ((m * DD l tags : Nat) : Int) < l
  · exact has m hlt
  have he : ((m * DD l tags : Nat) : Int) = l := by omega
  have hz : l % (DD l tags : Int) = 0 := by
    have e2 : ((m * DD l tags : Nat) : Int) % (DD l tags : Int) = 0 := by push_cast; exact Int.mul_emod_left _ _
    rwa [he] at e2
  rw [he]
  by_cases hheld : bestF tags (fun t => decide (t = l)) (fun a b => decide (a < b)) < 0
  · exfalso
    have hvac : bestF tags (fun t => decide (t < 0)) (fun a b => decide (a < b)) < 0 := by
      apply Classical.byContradiction
      intro hn
      exact c3 ⟨hz, hheld, by omega⟩
    have hall : ∀ j, j < tags.length → 0 ≤ gt tags j := fun j hj => by simpa using best_none hvac hj
    have hno : ∀ j, j < tags.length → gt tags j ≠ l := fun j hj => by simpa using best_none hheld hj
    have hlen : heldN tags = tags.length := by
      unfold heldN
      rw [List.countP_eq_length]
      intro t ht
      obtain ⟨j, hj, e⟩ := gt_of_mem ht
      have := hall j hj
      simp; omega
    have hle := nodup_le (b := (List.range m).map (· * DD l tags)) (dist_nodup dist) fun x hx => by
      obtain ⟨j, hj, e⟩ := mem_heldL.1 hx
      have h1 := hmul j hj (hall j hj)
      have h2 := (tgm j hj).2
      have h3 := hno j hj
      rw [e] at h1 h2 h3
      have h4 : x % DD l tags = 0 := by exact_mod_cast h1
      have h5 : x = x / DD l tags * DD l tags := by have := Nat.div_add_mod x (DD l tags); rw [h4, Nat.mul_comm] at this; omega
      refine List.mem_map.2 ⟨x / DD l tags, ?_, h5.symm⟩
      rw [List.mem_range]
      apply Nat.div_lt_of_lt_mul
      rw [Nat.mul_comm]; omega
    rw [heldL_length, hlen, List.length_map, List.length_range] at hle
    have h6 : tags.length * DD l tags ≤ m * DD l tags := Nat.mul_le_mul_right _ hle
    have h7 : ((tags.length * DD l tags : Nat) : Int) ≤ ((m * DD l tags : Nat) : Int) := by exact_mod_cast h6
    rw [he] at h7
    push_cast at h7
    omega
  · have h0 : 0 ≤ bestF tags (fun t => decide (t = l)) (fun a b => decide (a < b)) := by omega
    exact ⟨_, best_lt h0, by simpa using best_is h0⟩
theorem a_more {l at_ : Int} {tags : List Int} (h : AFull l at_ tags) (hl : l < 65535) : AInv (l + 1) at_ tags := by
  obtain ⟨⟨mok, dist, n1, has⟩, hat, _, hmul, full⟩ := h
  have ⟨l0, l1, at0, at1, p0, p1, tg, few⟩ := mok
  dsimp only at l0 l1 at0 at1 p0 p1 tg few
  refine ⟨⟨by dsimp only; omega, by dsimp only; omega, at0, by dsimp only; omega, by dsimp only; omega, by dsimp only; omega, fun t ht => by have := tg t ht; dsimp only; omega, few⟩, dist, n1, fun m hm => ?_⟩
  have hd : DD l tags ∣ DD (l + 1) tags := strideD_dvd n1 (by omega) (by omega)
  obtain ⟨q, hq⟩ := hd
  rw [hq] at hm ⊢
  have e : m * (DD l tags * q) = (m * q) * DD l tags := by rw [Nat.mul_comm (DD l tags), Nat.mul_assoc]
  rw [e] at hm ⊢
  exact full (m * q) (by omega)
theorem a_first (s : Nat) (h1 : 1 ≤ s) (h2 : s ≤ 1048576) : AInv 0 0 (List.replicate s (-1)) := by
  refine ⟨⟨by dsimp only; omega, by dsimp only; omega, by dsimp only; omega, by dsimp only; omega, by dsimp only; omega, by dsimp only; omega, fun t ht => by simp at ht; dsimp only; omega, by simpa using h2⟩, ?_, by simpa using h1, fun m hm => by omega⟩
  intro i j hi hj e h0
  have : gt (List.replicate s (-1)) i = -1 := by have := gt_mem hi; simp at this; exact this.2
  omega
def bT (tags : List Int) : Int := if 0 ≤ bestF tags (fun t => decide (0 ≤ t)) (fun a b => decide (b < a)) then gt tags (bestF tags (fun t => decide (0 ≤ t)) (fun a b => decide (b < a))).toNat else -1
structure BInv (l at_ pend : Int) (tags : List Int) : Prop where
  mok : MOk ⟨at_, pend, l, 0, tags⟩
  pd : 0 ≤ pend
  n1 : 1 ≤ tags.length
  has0 : 0 < pend → ∃ i, i < tags.length ∧ gt tags i = 0
def sPhase (at_ pend : Int) (tags : List Int) : Int := if pend ≤ bT tags then 2 else if at_ = pend - 1 then 0 else if bT tags ≤ at_ ∧ at_ < pend then 1 else 2
theorem sPhase_bound (at_ pend : Int) (tags : List Int) : 0 ≤ sPhase at_ pend tags ∧ sPhase at_ pend tags ≤ 2 := by
  unfold sPhase; split
  · omega
  · split
    · omega
    · split <;> omega
def bM (at_ pend : Int) (tags : List Int) : Int := 3 * pend + sPhase at_ pend tags + heldN tags
theorem bT_top {tags : List Int} (ht : ∀ t ∈ tags, -1 ≤ t) {j : Nat} (hj : j < tags.length) : gt tags j ≤ bT tags := by
  unfold bT
  by_cases h0 : 0 ≤ gt tags j
  · split
    · have h1 : decide (gt tags (bestF tags (fun t => decide (0 ≤ t)) (fun a b => decide (b < a))).toNat < gt tags j) = false := bestN_best tags (fun t => decide (0 ≤ t)) (fun a b => decide (b < a)) (by simp) (by simp; omega) (by simp; omega) tags.length j hj (by show decide (0 ≤ gt tags j) = true; exact decide_eq_true h0)
      simp only [decide_eq_false_iff_not] at h1
      omega
    · have := best_none (tags := tags) (is := fun t => decide (0 ≤ t)) (ah := fun a b => decide (b < a)) (by omega) hj
      simp at this; omega
  · split
    · rename_i h1
      have := best_is h1
      simp only [decide_eq_true_eq] at this; omega
    · omega
theorem back_eq {l at_ pend : Int} {tags : List Int} (ended : Bool) (hp : 0 ≤ pend) : strideNext l ended at_ pend tags =
    if 0 ≤ bT tags ∧ pend ≤ bT tags then some (4, bestF tags (fun t => decide (0 ≤ t)) (fun a b => decide (b < a)))
    else if pend = 0 then none
    else if at_ = pend - 1 then some (7, 0)
    else if 0 ≤ bT tags ∧ (at_ < bT tags ∨ pend ≤ at_) then some (3, bestF tags (fun t => decide (0 ≤ t)) (fun a b => decide (b < a)))
    else if at_ < pend then some (1, pend - 1 - at_)
    else none := by
  unfold strideNext
  rw [if_neg (by omega)]
  dsimp only
  by_cases hb : 0 ≤ bestF tags (fun t => decide (0 ≤ t)) (fun a b => decide (b < a))
  · have h1 := best_is hb
    simp only [decide_eq_true_eq] at h1
    have e : bT tags = gt tags (bestF tags (fun t => decide (0 ≤ t)) (fun a b => decide (b < a))).toNat := by unfold bT; rw [if_pos hb]
    rw [e]
    simp only [hb, h1, true_and]
    rfl
  · have e : bT tags = -1 := by unfold bT; rw [if_neg hb]
    rw [e]
    simp only [hb, false_and, if_false]
    simp
theorem b_step {l at_ pend : Int} {tags : List Int} (h : BInv l at_ pend tags) :
    ((∀ ended, strideNext l ended at_ pend tags = none) ∧ pend = 0) ∨ ∃ k n m, (∀ ended, strideNext l ended at_ pend tags = some (k, n)) ∧ mstep ⟨at_, pend, l, 0, tags⟩ k n = some m ∧ BInv l m.at_ m.pend m.tags ∧ bM m.at_ m.pend m.tags < bM at_ pend tags := by
  obtain ⟨mok, pd, n1, has0⟩ := h
  have ⟨l0, l1, at0, at1, p0, p1, tg, few⟩ := mok
  dsimp only at l0 l1 at0 at1 p0 p1 tg few
  have tg1 : ∀ t ∈ tags, -1 ≤ t := fun t ht => (tg t ht).1
  have hat : 0 ≤ bT tags → 0 ≤ bestF tags (fun t => decide (0 ≤ t)) (fun a b => decide (b < a)) ∧ (bestF tags (fun t => decide (0 ≤ t)) (fun a b => decide (b < a))).toNat < tags.length ∧ gt tags (bestF tags (fun t => decide (0 ≤ t)) (fun a b => decide (b < a))).toNat = bT tags := by
    intro h0
    have hb : 0 ≤ bestF tags (fun t => decide (0 ≤ t)) (fun a b => decide (b < a)) := by
      apply Classical.byContradiction
      intro hn
      unfold bT at h0; rw [if_neg hn] at h0; omega
    exact ⟨hb, best_lt hb, by unfold bT; rw [if_pos hb]⟩
  have hph := sPhase_bound at_ pend tags
  have hbl : bT tags ≤ l := by
    rcases Int.lt_or_le (bT tags) 0 with h0 | h0
    · omega
    · obtain ⟨_, h2, h3⟩ := hat h0
      have := (tg _ (gt_mem h2)).2; omega
  generalize hbs : bestF tags (fun t => decide (0 ≤ t)) (fun a b => decide (b < a)) = base at *
  by_cases c1 : 0 ≤ bT tags ∧ pend ≤ bT tags
  · right
    obtain ⟨h1, h2, h3⟩ := hat c1.1
    have hst := mst4 (s := ⟨at_, pend, l, 0, tags⟩) (n := base) h1 (by dsimp only; omega) (by show 0 ≤ gt tags base.toNat; omega) few
    refine ⟨_, _, _, fun ended => by rw [back_eq ended pd, if_pos c1, hbs], hst, ⟨mstep_ok mok hst, pd, by simpa using n1, fun hp => ?_⟩, ?_⟩
    · obtain ⟨i, hi, e⟩ := has0 hp
      refine ⟨i, by simpa using hi, ?_⟩
      dsimp only at hp ⊢
      rw [gt_set, if_neg ?_, e]
      rintro ⟨ei, _⟩
      rw [ei, e] at h3; omega
    · dsimp only
      unfold bM
      have e1 : sPhase at_ pend tags = 2 := by unfold sPhase; rw [if_pos c1.2]
      have e2 := sPhase_bound at_ pend (tags.set base.toNat (-1))
      have e3 : (heldN (tags.set base.toNat (-1)) : Int) = (heldN tags : Int) - 1 := by
        unfold heldN
        rw [countP_set' h2, if_pos (by simp; omega), if_neg (by simp)]; omega
      omega
  by_cases c2 : pend = 0
  · left
    exact ⟨fun ended => by rw [back_eq ended pd, if_neg c1, if_pos c2], c2⟩
  right
  obtain ⟨i0, hi0, e0⟩ := has0 (by omega)
  have hbt : 0 ≤ bT tags := by have := bT_top tg1 hi0; omega
  obtain ⟨h1, h2, h3⟩ := hat hbt
  have hlt : bT tags < pend := by omega
  by_cases c3 : at_ = pend - 1
  · have hst := mst7 (s := ⟨at_, pend, l, 0, tags⟩) (by dsimp only; omega) c3
    refine ⟨_, _, _, fun ended => by rw [back_eq ended pd, if_neg c1, if_neg c2, if_pos c3], hst, ⟨mstep_ok mok hst, at0, n1, fun _ => ⟨i0, hi0, e0⟩⟩, ?_⟩
    dsimp only
    unfold bM
    have := sPhase_bound at_ at_ tags
    omega
  by_cases c4 : 0 ≤ bT tags ∧ (at_ < bT tags ∨ pend ≤ at_)
  · have hst := mst3 (s := ⟨at_, pend, l, 0, tags⟩) (n := base) h1 (by dsimp only; omega) (by show 0 ≤ gt tags base.toNat; omega) few
    have e : tagAt ⟨at_, pend, l, 0, tags⟩ base = bT tags := h3
    rw [e] at hst
    refine ⟨_, _, _, fun ended => by rw [back_eq ended pd, if_neg c1, if_neg c2, if_neg c3, if_pos c4, hbs], hst, ⟨mstep_ok mok hst, pd, n1, has0⟩, ?_⟩
    dsimp only
    unfold bM
    have e1 : sPhase at_ pend tags = 2 := by unfold sPhase; rw [if_neg (by omega), if_neg c3, if_neg (by omega)]
    have e2 : sPhase (bT tags) pend tags ≤ 1 := by
      unfold sPhase; rw [if_neg (by omega)]; split
      · omega
      · rw [if_pos (by omega)]; omega
    omega
  have c5 : at_ < pend := by omega
  have hst := mst1 (s := ⟨at_, pend, l, 0, tags⟩) (n := pend - 1 - at_) (by omega) (by omega) (by dsimp only; omega)
  refine ⟨_, _, _, fun ended => by rw [back_eq ended pd, if_neg c1, if_neg c2, if_neg c3, if_neg c4, if_pos c5], hst, ⟨mok_total (mstep_ok mok hst), pd, n1, has0⟩, ?_⟩
  dsimp only
  unfold bM
  have e1 : sPhase at_ pend tags = 1 := by unfold sPhase; rw [if_neg (by omega), if_neg c3, if_pos (by omega)]
  have e2 : sPhase (at_ + (pend - 1 - at_)) pend tags = 0 := by unfold sPhase; rw [if_neg (by omega), if_pos (by omega)]
  omega
def SInv (l at_ pend : Int) (tags : List Int) : Prop := (pend = -1 ∧ AFull l at_ tags) ∨ BInv l at_ pend tags
def sM (l at_ pend : Int) (tags : List Int) : Int := if pend < 0 then 3 * l + 3 + tags.length else bM at_ pend tags
theorem sM_bound {l at_ pend : Int} {tags : List Int} (h : SInv l at_ pend tags) : 0 ≤ sM l at_ pend tags ∧ sM l at_ pend tags ≤ 2097154 := by
  have hh := heldN_le tags
  have hph := sPhase_bound at_ pend tags
  unfold sM bM
  rcases h with ⟨hp, h⟩ | h
  · obtain ⟨l0, l1, at0, at1, p0, p1, tg, few⟩ := h.inv.mok
    dsimp only at l0 l1 few
    rw [if_pos (by omega)]; omega
  · obtain ⟨l0, l1, at0, at1, p0, p1, tg, few⟩ := h.mok
    have := h.pd
    dsimp only at l0 l1 p1 few
    rw [if_neg (by omega)]; omega
theorem s_step {l at_ pend : Int} {tags : List Int} (h : SInv l at_ pend tags) :
    (strideNext l true at_ pend tags = none ∧ pend = 0) ∨ ∃ k n m, strideNext l true at_ pend tags = some (k, n) ∧ mstep ⟨at_, pend, l, 0, tags⟩ k n = some m ∧ SInv l m.at_ m.pend m.tags ∧ sM l m.at_ m.pend m.tags < sM l at_ pend tags := by
  rcases h with ⟨hp, h⟩ | h
  · right
    have mok := h.inv.mok
    have ⟨l0, l1, at0, at1, p0, p1, tg, few⟩ := mok
    have n1 := h.inv.n1
    have hat := h.here
    dsimp only at l0 l1 few
    subst hp
    have hst := mst5 (s := ⟨at_, -1, l, 0, tags⟩) rfl hat
    refine ⟨_, _, _, by rw [h.next]; rfl, hst, .inr ⟨mstep_ok mok hst, at0, n1, fun _ => ?_⟩, ?_⟩
    · obtain ⟨i, hi, e⟩ := h.full 0 (by simp; exact l0)
      exact ⟨i, hi, by simpa using e⟩
    · dsimp only
      have hh := heldN_le tags
      have hph := sPhase_bound at_ at_ tags
      unfold sM bM
      dsimp only at at0
      rw [if_neg (by omega), if_pos (by omega)]; omega
  · rcases b_step h with ⟨h1, h2⟩ | ⟨k, n, m, h1, h2, h3, h4⟩
    · exact .inl ⟨h1 true, h2⟩
    · have hpd := h.pd
      have hpd2 := h3.pd
      refine .inr ⟨k, n, m, h1 true, h2, .inr h3, ?_⟩
      unfold sM
      rw [if_neg (by omega), if_neg (by omega)]; exact h4
end Go.VC
namespace Go.VC
open Go Go.Proofs
theorem tmpE {H0 H1 H2 : Heap} {old cs : List Value} {t p : Nat} (n : New H0 old t H1 p) (hl : cs.length = old.length) (h2 : H2 = wrL H1 p 0 cs) : Ext H0 H2 ∧ Own H2 p cs := by
  refine ⟨?_, by rw [h2]; exact n.own.swrL hl⟩
  rw [h2]; exact n.mod.trans_new (Mod.refl.wrL (S := [p]) (.inl (by simp))) (by have := n.ge; simpa using this)
inductive ERun (h : Hdr) (ended : Bool) : DS → List Int → DS → List Int → Prop
  | refl (d tags) : ERun h ended d tags d tags
  | step {d tags k n m d' tags'} : enext h d tags ended = some (k, n) → mstep (dMS d tags) k n = some m → ERun h ended (dact h d k n m) m.tags d' tags' → ERun h ended d tags d' tags'
theorem ERun.snoc {h : Hdr} {ended : Bool} {d tags d' tags'} (r : ERun h ended d tags d' tags') {k n m} (e1 : enext h d' tags' ended = some (k, n)) (e2 : mstep (dMS d' tags') k n = some m) : ERun h ended d tags (dact h d' k n m) m.tags := by
  induction r with
  | refl => exact .step e1 e2 (.refl _ _)
  | step a b _ ih => exact .step a b (ih e1 e2)
structure RunInv (h : Hdr) (ended : Bool) (P : DS → List Int → Prop) (M : DS → List Int → Int) : Prop where
  lo : ∀ d tags, P d tags → 0 ≤ M d tags
  step : ∀ d tags, P d tags → enext h d tags ended = none ∨ ∃ k n m, enext h d tags ended = some (k, n) ∧ mstep (dMS d tags) k n = some m ∧ P (dact h d k n m) m.tags ∧ M (dact h d k n m) m.tags < M d tags
theorem dcnt_step {h : Hdr} {d : DS} {tags : List Int} {k n : Int} {m : MS1} {B : Int} (e : mstep (dMS d tags) k n = some m) (c : DCnt d B) : DCnt (dact h d k n m) (B + 65535) := by
  obtain ⟨p, t, l, s⟩ := c
  have hn : k = 1 → 1 ≤ n ∧ n ≤ 65535 := by intro hk; rcases mstep_inv e with h | h | h | h | h | h | h <;> omega
  refine ⟨?_, ?_, ?_, ?_⟩ <;> simp only [dact] <;> (repeat' split) <;> omega
theorem DCnt.mono {d : DS} {A B : Int} (c : DCnt d A) (h : A ≤ B) : DCnt d B := by
  obtain ⟨p, t, l, s⟩ := c; exact ⟨by omega, by omega, by omega, by omega⟩
theorem c17 {H : Heap} {R : Value → Heap → Prop} {be : Nat} {b : DB} {h : Hdr} {d : DS} {tags : List Int} {ended : Bool} {s : PS} {post : List UInt64} (e : EngS H be b h d tags ended false s post) (hm : h.mode = 1 ∨ h.mode = 2)
    {P : DS → List Int → Prop} {M : DS → List Int → Int} (ri : RunInv h ended P M) (hp : P d tags) {B : Int} (cnt : DCnt d B) (hB : B + 65535 * M d tags ≤ 2305843009213693952) (hB0 : 0 ≤ B)
    (k : ∀ n d' tags' s' H', enext h d' tags' ended = none → P d' tags' → ERun h ended d tags d' tags' → EngS H' be b h d' tags' ended false s' post → Mod [b.d, b.m, b.w] H H' → R (.tuple #[.int .i64 n, .int .i64 0]) H') :
    Ru 17 [.pointer (some ⟨be, 0, none⟩)] H R := by
  have hM := ri.lo d tags hp
  let J : Nat → Int → Heap → Prop := fun N n H' => ∃ d' tags' s', N = (M d' tags').toNat ∧ EngS H' be b h d' tags' ended false s' post ∧ P d' tags' ∧ ERun h ended d tags d' tags' ∧ DCnt d' (B + 65535 * (M d tags - M d' tags')) ∧ 0 ≤ n ∧ n ≤ M d tags - M d' tags' ∧ Mod [b.d, b.m, b.w] H H'
  refine v17 _ _ ⟨fun n H' => ∃ N, J N n H', fun n H' => least fun N => J N n H', ⟨_, d, tags, s, rfl, e, hp, .refl _ _, by simpa using cnt, by omega, by omega, Mod.refl⟩, ?_⟩
  intro H1 n hI
  obtain ⟨N, hJ⟩ := hI
  obtain ⟨d1, tags1, s1, hN, e1, p1, r1, c1, n0, nle, m1⟩ := least_spec (p := fun N => J N n H1) hJ
  have hM1 := ri.lo d1 tags1 p1
  have hst := ri.step d1 tags1 p1
  refine c12 e1 hm (c1.mono (by omega)) ?_ ?_ ?_
  · intro x y hxy
    rcases hst with h0 | ⟨x', y', m, h1, h2, _⟩
    · rw [h0] at hxy; cases hxy
    · rw [h1] at hxy; cases hxy; exact ⟨m, h2⟩
  · intro hnone H2 x2
    refine ⟨_, rfl, _, _, rfl, fun H3 q n3 => ⟨rfl, act_one, n3.own.w 0 2 rfl, fun H4 h4 => ?_⟩⟩
    obtain ⟨x4, _⟩ := tmpE n3 rfl h4
    have x14 := x2.thenExt x4
    refine ⟨fun hc => (hc rfl).elim, fun _ => ⟨fun hc => by simp at hc, fun _ => ?_⟩⟩
    exact k n d1 tags1 s1 H4 hnone p1 r1 (e1.ext x14) (m1.thenExt x14)
  · intro x y m hxy hms H2 s2 e2 m2
    rcases hst with h0 | ⟨x', y', m', h1, h2, h3, h4⟩
    · rw [h0] at hxy; cases hxy
    rw [h1] at hxy; cases hxy
    rw [h2] at hms; cases hms
    have hM2 := ri.lo _ _ h3
    refine ⟨_, rfl, _, _, rfl, fun H3 q n3 => ⟨rfl, act_one, n3.own.w 0 2 rfl, fun H4 h4' => ?_⟩⟩
    obtain ⟨x4, _⟩ := tmpE (cs := actC x y) n3 rfl h4'
    refine ⟨fun hc => (hc rfl).elim, fun _ => ⟨fun _ => ?_, fun hc => by simp at hc⟩⟩
    have hJ' : J (M (dact h d1 x y m) m.tags).toNat (n + 1) H4 := ⟨_, _, s2, rfl, e2.ext x4, h3, r1.snoc h1 h2, (dcnt_step h2 c1).mono (by omega), by omega, by omega, (m1.trans m2).thenExt x4⟩
    refine ⟨by unfold I64; omega, ⟨_, hJ'⟩, ?_⟩
    exact Nat.lt_of_lt_of_eq (least_lt (p := fun N => J N (n + 1) H4) hJ' (show (M (dact h d1 x y m) m.tags).toNat < (M d1 tags1).toNat by omega)) hN.symm
theorem off_inv {h : Hdr} (hm : h.mode = 1) (ended : Bool) : RunInv h ended (fun d tags => OffInv d.l d.at_ d.pend tags) (fun d tags => offM d.l d.at_ d.pend tags) := by
  refine ⟨fun d tags hp => (offM_bound hp).1, fun d tags hp => ?_⟩
  unfold enext
  rw [if_pos hm]
  rcases off_step hp with ⟨h1, _⟩ | ⟨k, n, m, h1, h2, h3, h4⟩
  · exact .inl h1
  · exact .inr ⟨k, n, m, h1, h2, h3, h4⟩
theorem off_end {h : Hdr} (hm : h.mode = 1) {ended : Bool} {d : DS} {tags : List Int} (hp : OffInv d.l d.at_ d.pend tags) (hn : enext h d tags ended = none) : d.pend = 0 := by
  unfold enext at hn
  rw [if_pos hm] at hn
  rcases off_step hp with ⟨_, h1⟩ | ⟨k, n, m, h1, _⟩
  · exact h1
  · rw [hn] at h1; cases h1
theorem off_first {h : Hdr} (hp : PlanOk h) (hm : h.mode = 1) : OffInv (d0 h (fixedOf h)).l (d0 h (fixedOf h)).at_ (d0 h (fixedOf h)).pend (tags0 h) := by
  have hs := slots_pos hp (by omega)
  have hsem := dsem0 hp (show h.mode ≠ 3 by omega)
  have hall : ∀ j, j < (tags0 h).length → gt (tags0 h) j = -1 := fun j hj => by have := gt_mem hj; simp only [tags0, List.mem_replicate] at this; exact this.2
  have hb : baseOf (tags0 h) = -1 := base_none (fun t ht => by simp only [tags0, List.mem_replicate] at ht; omega) fun j hj => by rw [hall j hj]; omega
  have hl := hp.1.len.1
  refine ⟨hsem.mok, fun i j hi hj _ h0 => by rw [hall i hi] at h0; omega, by simp [tags0]; omega, fun _ => .inl ⟨rfl, rfl⟩, fun h0 => by omega, ?_, fun h0 => by omega⟩
  rw [hb]
  show (-1 : Int) ≤ if (-1 : Int) < 0 then h.len else -1
  rw [if_pos (by omega)]; omega
theorem str_inv {h : Hdr} (hm : h.mode = 2) : RunInv h true (fun d tags => SInv d.l d.at_ d.pend tags) (fun d tags => sM d.l d.at_ d.pend tags) := by
  refine ⟨fun d tags hp => (sM_bound hp).1, fun d tags hp => ?_⟩
  unfold enext
  rw [if_neg (by omega)]
  rcases s_step hp with ⟨h1, _⟩ | ⟨k, n, m, h1, h2, h3, h4⟩
  · exact .inl h1
  · exact .inr ⟨k, n, m, h1, h2, h3, h4⟩
theorem str_end {h : Hdr} (hm : h.mode = 2) {d : DS} {tags : List Int} (hp : SInv d.l d.at_ d.pend tags) (hn : enext h d tags true = none) : d.pend = 0 := by
  unfold enext at hn
  rw [if_neg (by omega)] at hn
  rcases s_step hp with ⟨_, h1⟩ | ⟨k, n, m, h1, _⟩
  · exact h1
  · rw [hn] at h1; cases h1
theorem str_first {h : Hdr} (hp : PlanOk h) (hm : h.mode = 2) : (d0 h (fixedOf h)).l = 0 ∧ AInv 0 0 (tags0 h) := by
  have hs := slots_pos hp (by omega)
  obtain ⟨a, b, c, d⟩ := slots_small hp
  have hl := hp.1.len
  unfold lenOk at hl
  rw [if_pos hm] at hl
  exact ⟨by simp only [d0]; omega, a_first _ (by omega) (by omega)⟩
end Go.VC
set_option linter.unusedVariables false
namespace Go.VC
open Go Go.Proofs
set_option maxRecDepth 100000
variable {H : Heap} {R : Value → Heap → Prop}
theorem v20 (x0 : List Value) (x1 : List Value) (h :
  ∀ H' p, New H x0 53 H' p → ∀ H'_1 p_1, New H' x1 53 H'_1 p_1 → ∃ (J : Heap → Prop), (∃ x, rd H'_1 p 0 = some (.int .u64 (↑(UInt64.toNat x) : Int)) ∧ ∃ x_1, rd H'_1 p_1 0 = some (.int .u64 (↑(UInt64.toNat x_1) : Int)) ∧
  (¬x = x_1 → R (.bool false) H'_1) ∧ (¬¬x = x_1 → ∃ a l c, rd H'_1 p 1 = some (.slice a l c) ∧ ∃ a l_1 c, rd H'_1 p_1 1 = some (.slice a l_1 c) ∧ (¬(↑l : Int) = (↑l_1 : Int) → R (.bool false) H'_1) ∧ (¬¬(↑l : Int) = (↑l_1
  : Int) → ∃ a l c, rd H'_1 p 2 = some (.slice a l c) ∧ ∃ a l_2 c, rd H'_1 p_1 2 = some (.slice a l_2 c) ∧ (¬(↑l : Int) = (↑l_2 : Int) → R (.bool false) H'_1) ∧ (¬¬(↑l : Int) = (↑l_2 : Int) → J H'_1)))) ∧ ∀ H, J H → ∃ (I :
  Int → Heap → Prop), ∃ (μ : Int → Heap → Nat), I (0 : Int) H ∧ ∀ H n, I n H → ∃ a l c, rd H p 1 = some (.slice a l c) ∧ (n < (↑l : Int) → ∃ a l c, rd H p 1 = some (.slice a l c) ∧ ∃ b o, At a b o ∧ ((0 : Int) ≤ n ∧ n < (↑l
  : Int)) ∧ ∃ x, rd H b (o + n.toNat) = some (.int .u64 (↑(UInt64.toNat x) : Int)) ∧ ∃ a l c, rd H p_1 1 = some (.slice a l c) ∧ ∃ b o, At a b o ∧ ((0 : Int) ≤ n ∧ n < (↑l : Int)) ∧ ∃ x_1, rd H b (o + n.toNat) =
  some (.int .u64 (↑(UInt64.toNat x_1) : Int)) ∧ (¬x = x_1 → R (.bool false) H) ∧ (¬¬x = x_1 → I64 (n + (1 : Int)) ∧ I (n + (1 : Int)) H ∧ μ (n + (1 : Int)) H < μ n H)) ∧ (¬n < (↑l : Int) → ∃ (I : Int → Heap → Prop), ∃ (μ :
  Int → Heap → Nat), I (0 : Int) H ∧ ∀ H n, I n H → ∃ a l c, rd H p 2 = some (.slice a l c) ∧ (n < (↑l : Int) → ∃ a l c, rd H p 2 = some (.slice a l c) ∧ ∃ b o, At a b o ∧ ((0 : Int) ≤ n ∧ n < (↑l : Int)) ∧ ∃ x, rd H b (o +
  n.toNat) = some (.int .u64 (↑(UInt64.toNat x) : Int)) ∧ ∃ a l c, rd H p_1 2 = some (.slice a l c) ∧ ∃ b o, At a b o ∧ ((0 : Int) ≤ n ∧ n < (↑l : Int)) ∧ ∃ x_1, rd H b (o + n.toNat) = some (.int .u64
  (↑(UInt64.toNat x_1) : Int)) ∧ (¬x = x_1 → R (.bool false) H) ∧ (¬¬x = x_1 → I64 (n + (1 : Int)) ∧ I (n + (1 : Int)) H ∧ μ (n + (1 : Int)) H < μ n H)) ∧ (¬n < (↑l : Int) → R (.bool true) H))) :
  Ru 20 [.agg x0.toArray, .agg x1.toArray] H R :=
  vcr mixed ⟨fun | 4 => some [(5, .int .i64)] | 9 => some [(6, .int .i64)] | _ => none, fun | 3 => some [] | _ => none⟩ [.agg x0, .agg x1] (by kernel_rfl) (by kernel_rfl) h
end Go.VC
namespace Go.VC
open Go Go.Proofs
def itD (x : UInt64) : Nat → UInt64
  | 0 => x
  | k + 1 => itD x k / UInt64.ofNat 256
def digL (x : UInt64) (k : Nat) : List Int := (List.range k).map fun i => ((itD x i % UInt64.ofNat 256).toNat : Int)
@[simp] theorem digL_length (x : UInt64) (k : Nat) : (digL x k).length = k := by simp [digL]
end Go.VC
namespace Go.VC
open Go Go.Proofs
theorem wrLM {H H' : Heap} {p o : Nat} {v : List Value} (e : H' = wrL H p o v) : Mod [p] H H' := by rw [e]; exact Mod.refl.wrL (.inl (by simp))
end Go.VC
namespace Go.VC
open Go Go.Proofs
abbrev Dual := UInt64 × UInt64
def duC (d : Dual) : List Value := [.int .u64 (d.1.toNat : Int), .int .u64 (d.2.toNat : Int)]
end Go.VC
namespace Go.VC
open Go Go.Proofs
structure SegZ (z : List Int) (i : Nat) (t : Tree) : Prop where
  z : ∃ p s, z = p ++ (sizesT t ++ s) ∧ p.length = i
theorem SegZ.top (t : Tree) : SegZ (sizesT t) 0 t := ⟨⟨[], [], by simp, rfl⟩⟩
theorem SegZ.op {z : List Int} {i : Nat} {o : Op} {r : Tree} (h : SegZ z i (.op o r)) : z[i]? = some 1 ∧ SegZ z (i + 1) r := by
  obtain ⟨⟨p, s, e, hp⟩⟩ := h
  simp only [sizesT, List.cons_append] at e
  exact ⟨at_mid e hp, ⟨⟨p ++ [1], s, by rw [e]; simp, by simp [hp]⟩⟩⟩
theorem SegZ.rep {z : List Int} {i : Nat} {o e : Op} {b r : Tree} (h : SegZ z i (.rep o b e r)) : z[i]? = some ((o.v.toNat * b.size : Nat) : Int) ∧ SegZ z (i + 1) b ∧ z[i + 1 + b.flat.length]? = some 0 ∧ SegZ z (i + 2 + b.flat.length) r := by
  obtain ⟨⟨p, s, eo, hp⟩⟩ := h
  simp only [sizesT, List.cons_append, List.append_assoc] at eo
  refine ⟨at_mid eo hp, ⟨⟨p ++ [((o.v.toNat * b.size : Nat) : Int)], 0 :: (sizesT r ++ s), by rw [eo]; simp, by simp [hp]⟩⟩, ?_, ⟨⟨p ++ ((o.v.toNat * b.size : Nat) : Int) :: sizesT b ++ [0], s, by rw [eo]; simp, by simp [sizesT_length]; omega⟩⟩⟩
  refine at_mid (p := p ++ ((o.v.toNat * b.size : Nat) : Int) :: sizesT b) (s := sizesT r ++ s) ?_ ?_
  · rw [eo]; simp
  · simp [sizesT_length]; omega
inductive Cur (ops : List Op) (m z : List Int) : Nat → List Op → Prop
  | done : Cur ops m z ops.length []
  | keep {i o out} : ops[i]? = some o → o.kind ≠ 7 → Cur ops m z (i + 1) out → Cur ops m z i (o :: out)
  | enter {i o x out} : ops[i]? = some o → o.kind = 7 → z[i]? = some x → x ≠ 0 → Cur ops m z (i + 1) out → Cur ops m z i (o :: out)
  | skip {i : Nat} {o : Op} {k : Nat} {out : List Op} : ops[i]? = some o → o.kind = 7 → z[i]? = some 0 → m[i]? = some (k : Int) → i < k → Cur ops m z (k + 1) out → Cur ops m z i out
theorem Cur.le {ops : List Op} {m z : List Int} {i : Nat} {out : List Op} (c : Cur ops m z i out) : i ≤ ops.length := by
  cases c with
  | done => exact Nat.le_refl _
  | keep oi' _ _ => have := (List.getElem?_eq_some_iff.1 oi').1; omega
  | enter oi' _ _ _ _ => have := (List.getElem?_eq_some_iff.1 oi').1; omega
  | skip oi' _ _ _ _ _ => have := (List.getElem?_eq_some_iff.1 oi').1; omega
theorem RowO.push {H : Heap} {a : Option Addr} {l : Nat} {ops : List Op} (h : RowO H a l ops) {i : Nat} {o : Op} (hi : ops[i]? = some o) {n : Nat} {a3 : Option Addr} {l3 c3 : Nat} {out : List Op} (hB : Buf 5 H n a3 l3 c3 (opsC out)) (hn : n ≤ H.size) (hl3 : l3 ≤ 1048576) {K : Option Addr → Nat → Nat → Heap → Prop}
    (k : ∀ a' c' H' S, Buf 5 H' n a' (l3 + 1) c' (opsC (out ++ [o])) → Mod S H H' → (∀ b ∈ S, n ≤ b) → K a' (l3 + 1) c' H') :
    ∃ b q, At a b q ∧ ((0 : Int) ≤ i ∧ (i : Int) < l) ∧ ∃ cs : List Value, List.length cs = 5 ∧ RdL H b (q + Int.toNat (i : Int) * 5) cs ∧ List.length cs = 5 ∧ ∀ H' p, New H (cs ++ []) 74 H' p → ∃ new : List Value, List.length new = 5 ∧ SlL H' (some ⟨p, 0, none⟩) new ∧
      App 5 40 74 [.int .i64 0, .int .i64 0, .int .i64 0, .int .i64 0, .int .u64 0] H' a3 l3 c3 1 new K := by
  have hl := h.len
  obtain ⟨hil, he⟩ := List.getElem?_eq_some_iff.1 hi
  obtain ⟨b, q, e, hr⟩ := h.rdL (i := (i : Int)) (by omega) (by omega)
  have he' : ops[Int.toNat (i : Int)]'(by simpa using hil) = o := by simpa using he
  rw [he'] at hr
  refine ⟨b, q, e, ⟨by omega, by omega⟩, opC o, rfl, hr, rfl, fun H1 p n1 => ⟨opC o, rfl, .inr ⟨p, 0, rfl, by have := n1.rdL; simpa using this⟩, (hB.ext n1.mod).app (by have := n1.mod.1; omega) rfl rfl opC_one (by omega) (by omega) fun a' c' H2 S hB2 m2 hS => k a' c' H2 (S ++ [p]) ?_ ?_ ?_⟩⟩
  · rw [show opsC (out ++ [o]) = opsC out ++ opC o from by simp [opsC]]; exact hB2
  · exact (Mod.ext n1.mod).trans (m2.mono (by simp +contextual))
  · intro b' hb'
    rcases List.mem_append.1 hb' with h1 | h1
    · exact hS b' h1
    · simp at h1; subst h1; have := n1.ge; omega
end Go.VC
namespace Go.VC
open Go Go.Proofs
def dusC (l : List Dual) : List Value := l.flatMap duC
abbrev RowD (H : Heap) (a : Option Addr) (l : Nat) (ds : List Dual) : Prop := Row 2 H a l (dusC ds)
@[simp] theorem dusC_length (l : List Dual) : (dusC l).length = l.length * 2 := by
  induction l with
  | nil => rfl
  | cons d l ih =>
    have : dusC (d :: l) = duC d ++ dusC l := rfl
    rw [this, List.length_append, ih, List.length_cons]
    show 2 + _ = _; omega
theorem dusC_app (l m : List Dual) : dusC (l ++ m) = dusC l ++ dusC m := by simp [dusC]
theorem dusC_split {l : List Dual} {i : Nat} (hi : i < l.length) : dusC l = dusC (l.take i) ++ (duC l[i] ++ dusC (l.drop (i + 1))) := by
  have h : l = l.take i ++ l[i] :: l.drop (i + 1) := by rw [← List.drop_eq_getElem_cons hi, List.take_append_drop]
  exact (congrArg dusC h).trans (by simp only [dusC, List.flatMap_append, List.flatMap_cons])
theorem dusC_rdL {H : Heap} {b o : Nat} {l : List Dual} (h : RdL H b o (dusC l)) {i : Nat} (hi : i < l.length) : RdL H b (o + i * 2) (duC l[i]) := by
  rw [dusC_split hi] at h
  have h1 := (rdL_append.1 h).2
  have h2 := (rdL_append.1 h1).1
  rw [dusC_length, List.length_take, Nat.min_eq_left (by omega)] at h2
  exact h2
theorem RowD.len {H : Heap} {a : Option Addr} {l : Nat} {ds : List Dual} (h : RowD H a l ds) : ds.length = l := by have := h.1; rw [dusC_length] at this; omega
theorem Own.getD {H : Heap} {q : Nat} {ds : List Dual} (h : Own H q (dusC ds)) {i : Int} (h0 : 0 ≤ i) (hi : i.toNat < ds.length) : RdL H q (0 + i.toNat * 2) (duC ds[i.toNat]) := dusC_rdL h.1 hi
theorem Own.setD {H H' : Heap} {q : Nat} {ds : List Dual} (h : Own H q (dusC ds)) {i : Int} (hi : i.toNat < ds.length) {d : Dual} (e : H' = VC.wrL H q (0 + i.toNat * 2) (duC d)) : Own H' q (dusC (ds.set i.toNat d)) := by
  have hlen : (duC d).length = 2 := rfl
  have := h.wrL (0 + i.toNat * 2) (duC d) (by rw [dusC_length, hlen]; omega)
  rw [← e, Nat.zero_add, hlen] at this
  have e2 : (dusC ds).take (i.toNat * 2) ++ duC d ++ (dusC ds).drop (i.toNat * 2 + 2) = dusC (ds.set i.toNat d) := by
    rw [dusC_split hi]
    have l1 : (dusC (ds.take i.toNat)).length = i.toNat * 2 := by rw [dusC_length, List.length_take, Nat.min_eq_left (by omega)]
    have l2 : (dusC (ds.take i.toNat) ++ duC ds[i.toNat]).length = i.toNat * 2 + 2 := by rw [List.length_append, l1]; rfl
    rw [List.take_append_of_le_length (by omega), List.take_of_length_le (by omega), ← List.append_assoc, ← l2, List.drop_left]
    rw [List.set_eq_take_append_cons_drop, if_pos hi, dusC_app]
    show _ = _ ++ (duC d ++ dusC _)
    simp
  rw [e2] at this; exact this
end Go.VC
namespace Go.VC
open Go Go.Proofs
theorem c20 {H : Heap} {R : Value → Heap → Prop} {w : UInt64} {a1 a2 a3 a4 : Option Addr} {l1 l2 c1 c2 c3 c4 : Nat} {x y : List UInt64} (h1 : RowU H a1 l1 x) (h2 : RowU H a2 l2 y) (h3 : RowU H a3 l1 x) (h4 : RowU H a4 l2 y) (b1 : l1 ≤ 262144) (b2 : l2 ≤ 262144) (k : ∀ H', Ext H H' → R (.bool true) H') :
    Ru 20 [.agg [.int .u64 (w.toNat : Int), .slice a1 l1 c1, .slice a2 l2 c2].toArray, .agg [.int .u64 (w.toNat : Int), .slice a3 l1 c3, .slice a4 l2 c4].toArray] H R := by
  refine v20 _ _ fun H1 p n1 H2 q n2 => ⟨fun H' => H' = H2, ⟨w, n2.mod.rd (by simp) (n1.rd 0), w, n2.rd 0, fun h => (h rfl).elim, fun _ => ⟨_, _, _, n2.mod.rd (by simp) (n1.rd 1), _, _, _, n2.rd 1, fun h => (h rfl).elim, fun _ => ⟨_, _, _, n2.mod.rd (by simp) (n1.rd 2), _, _, _, n2.rd 2, fun h => (h rfl).elim, fun _ => rfl⟩⟩⟩, ?_⟩
  intro H3 e3; subst e3
  have e := n1.mod.new n2
  have rp : ∀ i v, [Value.int .u64 (w.toNat : Int), .slice a1 l1 c1, .slice a2 l2 c2][i]? = some v → rd H3 p i = some v := fun i v hv => n2.mod.rd (by simp) (by rw [n1.rd]; exact hv)
  have rq : ∀ i v, [Value.int .u64 (w.toNat : Int), .slice a3 l1 c3, .slice a4 l2 c4][i]? = some v → rd H3 q i = some v := fun i v hv => by rw [n2.rd]; exact hv
  refine ⟨fun n H' => H' = H3 ∧ ∃ i : Nat, n = i ∧ i ≤ l1, fun n _ => (l1 - n).toNat, ⟨rfl, 0, rfl, by omega⟩, ?_⟩
  rintro H4 n ⟨e4, i, rfl, hi⟩
  subst e4
  refine ⟨_, _, _, rp 1 _ rfl, fun hlt => ⟨_, _, _, rp 1 _ rfl, RowU.idx (Ext.row e h1) (by omega) hlt ⟨_, _, _, rq 1 _ rfl, RowU.idx (Ext.row e h3) (by omega) hlt ⟨fun h => (h rfl).elim, fun _ => ⟨by unfold I64; omega, ⟨rfl, i + 1, by omega, by omega⟩, by dsimp only; omega⟩⟩⟩⟩, fun hge => ?_⟩
  refine ⟨fun n H' => H' = H4 ∧ ∃ i : Nat, n = i ∧ i ≤ l2, fun n _ => (l2 - n).toNat, ⟨rfl, 0, rfl, by omega⟩, ?_⟩
  rintro H5 n ⟨e5, j, rfl, hj⟩
  subst e5
  exact ⟨_, _, _, rp 2 _ rfl, fun hlt => ⟨_, _, _, rp 2 _ rfl, RowU.idx (Ext.row e h2) (by omega) hlt ⟨_, _, _, rq 2 _ rfl, RowU.idx (Ext.row e h4) (by omega) hlt ⟨fun h => (h rfl).elim, fun _ => ⟨by unfold I64; omega, ⟨rfl, j + 1, by omega, by omega⟩, by dsimp only; omega⟩⟩⟩⟩, fun hge => k _ e⟩
end Go.VC
namespace Go.VC
open Go Go.Proofs
def nN (h : Hdr) : Nat := nX h + nT h
def dth0 (h : Hdr) (i : Nat) : List UInt64 := (unit (nN h) i).drop (nX h)
noncomputable def dst (h : Hdr) (i : Nat) : Nat → List UInt64
  | 0 => (unit (nN h) i).take (nX h)
  | t + 1 => tanStep h t (st h t) (dst h i t) (dth0 h i)
@[simp] theorem unit_length (n i : Nat) : (unit n i).length = n := by simp [unit]
end Go.VC
set_option linter.unusedVariables false
namespace Go.VC
open Go Go.Proofs
set_option maxRecDepth 100000
variable {H : Heap} {R : Value → Heap → Prop}
theorem v3 (x0 : List Value) (x1 : Int) (x2 : Bool) (h :
  ∀ H' p, New H x0 27 H' p → ∃ cs : List Value, cs.length = 9 ∧ RdL H' p 0 cs ∧ Ru 8 [.agg cs.toArray] H' fun r H' => ∃ cs : List Value, cs.length = 4 ∧ ∃ n, r = .tuple #[.agg cs.toArray, .int
  .i64 n] ∧ ∀ H'_1 p_1, New H' [.int .i64 0, .int .i64 0, .int .i64 0, .int .i64 0] 30 H'_1 p_1 → cs.length = 4 ∧ (∀ v ∈ cs, One v) ∧ WOk H'_1 p_1 0 4 ∧ ∀ H', H' = wrL H'_1 p_1 0 cs → ∃ (cs : List
  Value), cs.length = 9 ∧ RdL H' p 0 cs ∧ Ru 9 [.agg cs.toArray] H' fun r H' => ∃ v n_1, r = .tuple #[v, .int .i64 n_1] ∧ ∃ cs : List Value, cs.length = 9 ∧ RdL H' p 0 cs ∧ Ru 9 [.agg cs.toArray]
  H' fun r H' => ∃ v_1 n_2, r = .tuple #[v_1, .int .i64 n_2] ∧ ∃ (J : Heap → Prop), ((¬n = 0 → Ru 10 [] H' fun r H' => ∃ c, r = .bool c ∧ R (.bool c) H') ∧ (¬¬n = 0 → ∃ n, rd H' p 0 = some (.int .i64 n) ∧
  (¬n = 2 → Ru 10 [] H' fun r H' => ∃ c, r = .bool c ∧ R (.bool c) H') ∧ (¬¬n = 2 → J H'))) ∧ ∀ H, J H → ∃ (J : Heap → Prop), ((¬n_1 = 0 → R (.bool false) H) ∧ (¬¬n_1 = 0 → (¬n_2 = 0
  → R (.bool false) H) ∧ (¬¬n_2 = 0 → ∃ a, v = .pointer a ∧ (a = none → R (.bool false) H) ∧ (¬a = none → ∃ a, v_1 = .pointer a ∧ (a = none → R (.bool false) H) ∧ (¬a = none → J H))))) ∧ ∀ H, J H → ∃ (J : Heap →
  Prop), (∃ (I : Int → Heap → Prop), ∃ (μ : Int → Heap → Nat), I (0 : Int) H ∧ ∀ H n, I n H → I64 x1 ∧ (n ≤ x1 → ∃ (J : Heap → Prop), (∃ (I : Heap → Prop), ∃ (μ : Heap → Nat), I H ∧ ∀ H, I H → Ru 11 [v] H fun r H' => ∃ c, r
  = .bool c ∧ ((!c) = true → Ru 12 [v] H' fun r H' => ∃ cs : List Value, cs.length = 2 ∧ ∃ c n, r = .tuple #[.agg cs.toArray, .bool c, .int .i64 n] ∧ ∀ H'_2 p, New H' [.int .i64 0, .int .i64 0] 39 H'_2 p →
  cs.length = 2 ∧ (∀ v ∈ cs, One v) ∧ WOk H'_2 p 0 2 ∧ ∀ H', H' = wrL H'_2 p 0 cs → Ru 12 [v_1] H' fun r H' => ∃ cs : List Value, cs.length = 2 ∧ ∃ c_1 n_3, r = .tuple #[.agg cs.toArray,
  .bool c_1, .int .i64 n_3] ∧ ∀ H'_3 p_2, New H' [.int .i64 0, .int .i64 0] 39 H'_3 p_2 → cs.length = 2 ∧ (∀ v ∈ cs, One v) ∧ WOk H'_3 p_2 0 2 ∧ ∀ H', H' = wrL H'_3 p_2 0 cs → ∃ cs : List Value,
  cs.length = 2 ∧ RdL H' p 0 cs ∧ ∃ cs_1 : List Value, cs_1.length = 2 ∧ RdL H' p_2 0 cs_1 ∧ ∃ c_2, IsB Tryz.prog (cmpS BinOp.neq 39 (Operand.tmp 92) (Operand.tmp 93) (.agg cs.toArray) (.agg (List.toArray
  cs_1))) c_2 ∧ (c_2 = true → R (.bool false) H') ∧ (c_2 = false → ((!c) = true → R (.bool false) H') ∧ ((!c) = false → ((!c_1) = true → R (.bool false) H') ∧ ((!c_1) = false → (¬n = 0 → R (.bool false) H') ∧ (¬¬n =
  (0 : Int) → (¬n_3 = 0 → R (.bool false) H') ∧ (¬¬n_3 = 0 → I H' ∧ μ H' < μ H)))))) ∧ ((!c) = false → J H')) ∧ ∀ H_1, J H_1 → ∃ (J : Heap → Prop), (Ru 11 [v_1] H_1 fun r H' => ∃ c, r = .bool c ∧ ((!c) =
  true → R (.bool false) H') ∧ ((!c) = false → Ru 13 [v] H' fun r H' => ∃ n_3, r = .int .i64 n_3 ∧ (¬n_3 = n → R (.bool false) H') ∧ (¬¬n_3 = n → Ru 13 [v_1] H' fun r H' => ∃ n_4, r = .int .i64 n_4 ∧ (¬n_4 = n → R (.bool
  false) H') ∧ (¬¬n_4 = n → J H')))) ∧ ∀ H_2, J H_2 → I64 x1 ∧ (n < x1 → Ru 14 [v, .bool true] H_2 fun r H' => ∃ n_3, r = .int .i64 n_3 ∧ (¬n_3 = 0 → R (.bool false) H') ∧ (¬¬n_3 = 0 → Ru 14 [v_1, .bool
  true] H' fun r H' => ∃ n_4, r = .int .i64 n_4 ∧ (¬n_4 = 0 → R (.bool false) H') ∧ (¬¬n_4 = 0 → I64 (n + (1 : Int)) ∧ I (n + (1 : Int)) H' ∧ μ (n + (1 : Int)) H' < μ n H))) ∧ (¬n < x1 → I64 (n + (1 : Int))
  ∧ I (n + (1 : Int)) H_2 ∧ μ (n + (1 : Int)) H_2 < μ n H)) ∧ (¬n ≤ x1 → J H)) ∧ ∀ H, J H → I64 x1 ∧ ∃ n, rd H p_1 3 = some (.int .i64 n) ∧ Ru 15 [.int .i64 x1, .int .i64 n] H fun r H' => ∃ n n_3, r = .tuple #[.int .i64 n,
  .int .i64 n_3] ∧ ∃ (J : Heap → Prop), ((¬n_3 = 0 → R (.bool false) H') ∧ (¬¬n_3 = 0 → (n < (1 : Int) → R (.bool false) H') ∧ (¬n < (1 : Int) → J H'))) ∧ ∀ H, J H → Ru 16 [v] H fun r H' => ∃ (cs : List
  Value), cs.length = 3 ∧ r = .agg cs.toArray ∧ True ∧ ∃ (v_2 : Value), cs[2]? = some v_2 ∧ ∃ a l c, v_2 = .slice a l c ∧ ∃ (J : Int → Heap → Prop), (∃ (I : Int → Int → Heap → Prop), ∃ (μ : Int → Int → Heap →
  Nat), I (0 : Int) (0 : Int) H' ∧ ∀ H n_4 n_5, I n_4 n_5 H → (n_5 < (↑l : Int) → ∃ b o, At a b o ∧ ((0 : Int) ≤ n_5 ∧ n_5 < (↑l : Int)) ∧ ∃ n_6, rd H b (o + n_5.toNat) = some (.int .i64 n_6) ∧ ((0 : Int) ≤ n_6 → ∃ b o,
  At a b o ∧ ((0 : Int) ≤ n_5 ∧ n_5 < (↑l : Int)) ∧ ∃ n_7, rd H b (o + n_5.toNat) = some (.int .i64 n_7) ∧ ((0 : Int) ≤ n_7 ∧ (0 : Int) < n) ∧ (¬n_7 % n = 0 → R (.bool false) H) ∧ (¬¬n_7 % n = 0 → ∃ b o,
  At a b o ∧ ((0 : Int) ≤ n_5 ∧ n_5 < (↑l : Int)) ∧ ∃ n, rd H b (o + n_5.toNat) = some (.int .i64 n) ∧ ((0 : Int) ≤ n → I64 (n_4 + (1 : Int)) ∧ I64 (n_5 + (1 : Int)) ∧ I (n_4 + (1 : Int)) (n_5 + (1 : Int)) H ∧ μ (n_4 +
  (1 : Int)) (n_5 + (1 : Int)) H < μ n_4 n_5 H) ∧ (¬(0 : Int) ≤ n → I64 (n_5 + (1 : Int)) ∧ I n_4 (n_5 + (1 : Int)) H ∧ μ n_4 (n_5 + (1 : Int)) H < μ n_4 n_5 H))) ∧ (¬(0 : Int) ≤ n_6 → ∃ b o, At a b o ∧ ((0 : Int) ≤ n_5 ∧
  n_5 < (↑l : Int)) ∧ ∃ n, rd H b (o + n_5.toNat) = some (.int .i64 n) ∧ ((0 : Int) ≤ n → I64 (n_4 + (1 : Int)) ∧ I64 (n_5 + (1 : Int)) ∧ I (n_4 + (1 : Int)) (n_5 + (1 : Int)) H ∧ μ (n_4 + (1 : Int)) (n_5 + (1 : Int)) H
  < μ n_4 n_5 H) ∧ (¬(0 : Int) ≤ n → I64 (n_5 + (1 : Int)) ∧ I n_4 (n_5 + (1 : Int)) H ∧ μ n_4 (n_5 + (1 : Int)) H < μ n_4 n_5 H))) ∧ (¬n_5 < (↑l : Int) → J n_4 H)) ∧ ∀ H n_4, J n_4 H → Ru 14 [v_1, .bool !x2] H fun r H' =>
  ∃ n_5, r = .int .i64 n_5 ∧ ∃ (J : Heap → Prop), (I64 x1 ∧ ((0 : Int) ≤ x1 ∧ (0 : Int) < n ∧ I64 x1) ∧ I64 (x1 / n + (1 : Int)) ∧ (¬n_4 = x1 / n + (1 : Int) → R (.bool false) H') ∧ (¬¬n_4 = x1 / n + (1 : Int) → Ru 14 [v,
  .bool false] H' fun r H' => ∃ n, r = .int .i64 n ∧ (¬n = 0 → R (.bool false) H') ∧ (¬¬n = 0 → (¬n_5 = 0 → (x2 = true → R (.bool false) H') ∧ (x2 = false → (x1 < (65535 : Int) → R (.bool false) H')
  ∧ (¬x1 < (65535 : Int) → (¬n_5 = 14 → R (.bool false) H') ∧ (¬¬n_5 = 14 → J H')))) ∧ (¬¬n_5 = 0 → J H')))) ∧ ∀ H, J H → Ru 17 [v] H fun r H' => ∃ n n_6, r = .tuple #[.int .i64 n, .int .i64 n_6] ∧
  Ru 18 [v] H' fun r H' => ∃ cs : List Value, cs.length = 3 ∧ ∃ n, r = .tuple #[.agg cs.toArray, .int .i64 n] ∧ ∀ H'_2 p_2, New H' [.int .u64 0, .slice none 0 0, .slice none 0 0] 53 H'_2 p_2 → cs.length =
  3 ∧ (∀ v ∈ cs, One v) ∧ WOk H'_2 p_2 0 3 ∧ ∀ H', H' = wrL H'_2 p_2 0 cs → ∃ cs : List Value, cs.length = 2 ∧ RdL H' p 3 cs ∧ ∃ cs_1 : List Value, cs_1.length = 2 ∧ RdL H' p 5 cs_1 ∧ ∃ a l c,
  rd H' p 1 = some (.slice a l c) ∧ ∃ a_1 l_1 c_1, rd H' p 2 = some (.slice a_1 l_1 c_1) ∧ I64 x1 ∧ Ru 19 [.agg cs.toArray, .agg cs_1.toArray, .slice a l c, .slice a_1 l_1 c_1, .int .i64 x1] H' fun r H' => ∃
  (cs : List Value), cs.length = 3 ∧ ∃ n_7, r = .tuple #[.agg cs.toArray, .int .i64 n_7] ∧ ∀ H'_3 p, New H' [.int .u64 0, .slice none 0 0, .slice none 0 0] 53 H'_3 p → cs.length = 3 ∧ (∀ v ∈ cs
 , One v) ∧ WOk H'_3 p 0 3 ∧ ∀ H', H' = wrL H'_3 p 0 cs → ∃ (J : Heap → Prop), ((¬n_6 = 0 → R (.bool false) H') ∧ (¬¬n_6 = 0 → (¬n = 0 → R (.bool false) H') ∧ (¬¬n = 0 → (¬n_7 = 0
  → R (.bool false) H') ∧ (¬¬n_7 = 0 → ∃ cs : List Value, cs.length = 3 ∧ RdL H' p_2 0 cs ∧ ∃ cs_2 : List Value, cs_2.length = 3 ∧ RdL H' p 0 cs_2 ∧ Ru 20 [.agg cs.toArray, .agg (List.toArray
  cs_2)] H' fun r H' => ∃ c, r = .bool c ∧ ((!c) = true → R (.bool false) H') ∧ ((!c) = false → J H'))))) ∧ ∀ H, J H → ((!x2) = true → Ru 10 [] H fun r H' => ∃ c, r = .bool c ∧ R (.bool c) H') ∧ ((!x2) = false → Ru 17 [v_1]
  H fun r H' => ∃ n n_8, r = .tuple #[.int .i64 n, .int .i64 n_8] ∧ (n_8 = 0 → Ru 21 [v] H' fun r H' => ∃ cs : List Value, cs.length = 16 ∧ r = .agg cs.toArray ∧ Ru 21 [v_1] H' fun r H' => ∃ (cs_2 :
  List Value), cs_2.length = 16 ∧ r = .agg cs_2.toArray ∧ ∃ c, IsB Tryz.prog (cmpS BinOp.eql 59 (Operand.tmp 267) (Operand.tmp 269) (.agg cs.toArray) (.agg cs_2.toArray)) c ∧ (c = true → Ru 10 []
  H' fun r H' => ∃ c, r = .bool c ∧ R (.bool c) H') ∧ (c = false → R (.bool false) H')) ∧ (¬n_8 = 0 → R (.bool false) H'))) :
  Ru 3 [.agg x0.toArray, .int .u16 x1, .bool x2] H R :=
  vcr mixed ⟨fun | 9 => some [(13, .int .i64)] | 11 => some [] | 26 => some [(22, .int .i64), (24, .int .i64)] | _ => none, fun | 6 => some [] | 8 => some [] | 16 => some [] | 18 => some [] | 20 => some [] | 23 => some [] | 32 => some [(22, .int .i64)] | 35 => some [] | 40 => some [] | _ => none⟩ [.agg x0, .int .u16 x1, .bl x2] (by kernel_rfl) (by kernel_rfl) h
theorem v4 (x0 : List Value) (x1 : Option Addr) (l1 c1 : Nat) (h :
  ∀ H' p, New H x0 27 H' p → ∃ cs : List Value, cs.length = 9 ∧ RdL H' p 0 cs ∧ Ru 8 [.agg cs.toArray] H' fun r H' => ∃ cs : List Value, cs.length = 4 ∧ ∃ n, r = .tuple #[.agg cs.toArray, .int
  .i64 n] ∧ ∀ H'_1 p_1, New H' [.int .i64 0, .int .i64 0, .int .i64 0, .int .i64 0] 30 H'_1 p_1 → cs.length = 4 ∧ (∀ v ∈ cs, One v) ∧ WOk H'_1 p_1 0 4 ∧ ∀ H', H' = wrL H'_1 p_1 0 cs → ∃ (J : Heap →
  Prop), ((¬n = 0 → Ru 10 [] H' fun r H' => ∃ c, r = .bool c ∧ R (.bool c) H') ∧ (¬¬n = 0 → ∃ n, rd H' p 0 = some (.int .i64 n) ∧ (¬n = 1 → Ru 10 [] H' fun r H' => ∃ c, r = .bool c ∧ R (.bool c) H')
  ∧ (¬¬n = 1 → J H'))) ∧ ∀ H, J H → ∃ cs : List Value, cs.length = 9 ∧ RdL H p 0 cs ∧ Ru 22 [.agg cs.toArray, .int .i64 0] H fun r H' => ∃ cs : List Value, cs.length = 3 ∧ ∃ cs_1 : List Value,
  cs_1.length = 4 ∧ ∃ c, r = .tuple #[.agg cs.toArray, .agg cs_1.toArray, .bool c] ∧ ∀ H'_2 p_2, New H' [.int .u64 0, .slice none 0 0, .slice none 0 0] 53 H'_2 p_2 → ∀ H' p_3, New H'_2 [.int .i64 0, .int
  .i64 0, .int .i64 0, .int .i64 0] 64 H' p_3 → cs.length = 3 ∧ (∀ v ∈ cs, One v) ∧ WOk H' p_2 0 3 ∧ ∀ H'_3, H'_3 = wrL H' p_2 0 cs → cs_1.length = 4 ∧ (∀ v ∈ cs_1, One v) ∧ WOk
  H'_3 p_3 0 4 ∧ ∀ H', H' = wrL H'_3 p_3 0 cs_1 → ∃ n, rd H' p 7 = some (.int .i64 n) ∧ ∃ n_1, rd H' p_1 3 = some (.int .i64 n_1) ∧ Ru 23 [.int .i64 n, .int .i64 n_1, .slice x1 l1 c1] H' fun r H' => ∃ n n_2 n_3, r = .tuple
  #[.int .i64 n, .int .i64 n_2, .int .i64 n_3] ∧ (c = true → (¬n_3 = 0 → Ru 10 [] H' fun r H' => ∃ c, r = .bool c ∧ R (.bool c) H') ∧ (¬¬n_3 = 0 → ∃ n_4, rd H' p_3 0 = some (.int .i64 n_4) ∧ (n_4 ≤ n → Ru 10
  [] H' fun r H' => ∃ c, r = .bool c ∧ R (.bool c) H') ∧ (¬n_4 ≤ n → R (.bool false) H'))) ∧ (c = false → R (.bool false) H')) :
  Ru 4 [.agg x0.toArray, .slice x1 l1 c1] H R :=
  vcr mixed ⟨fun _ => none, fun | 4 => some [] | _ => none⟩ [.agg x0, .slc x1 l1 c1] (by kernel_rfl) (by kernel_rfl) h
theorem v5 (x0 : List Value) (x1 : UInt64) (x2 : Int) (h :
  ∀ H' p, New H x0 27 H' p → ∃ cs : List Value, cs.length = 9 ∧ RdL H' p 0 cs ∧ Ru 8 [.agg cs.toArray] H' fun r H' => ∃ cs : List Value, cs.length = 4 ∧ ∃ n, r = .tuple #[.agg cs.toArray, .int
  .i64 n] ∧ ∀ H'_1 p_1, New H' [.int .i64 0, .int .i64 0, .int .i64 0, .int .i64 0] 30 H'_1 p_1 → cs.length = 4 ∧ (∀ v ∈ cs, One v) ∧ WOk H'_1 p_1 0 4 ∧ ∀ H', H' = wrL H'_1 p_1 0 cs → (¬n = 0 →
  Ru 10 [] H' fun r H' => ∃ c, r = .bool c ∧ R (.bool c) H') ∧ (¬¬n = 0 → ∃ cs : List Value, cs.length = 9 ∧ RdL H' p 0 cs ∧ Ru 24 [.agg cs.toArray, .int .u16 x2] H' fun r H' => ∃ n, r = .int .i64 n ∧
  ∃ cs : List Value, cs.length = 9 ∧ RdL H' p 0 cs ∧ Ru 22 [.agg cs.toArray, .int .i64 n] H' fun r H' => ∃ cs : List Value, cs.length = 3 ∧ ∃ cs_1 : List Value, cs_1.length = 4 ∧ ∃ c, r = .tuple
  #[.agg cs.toArray, .agg cs_1.toArray, .bool c] ∧ ∀ H'_2 p_2, New H' [.int .u64 0, .slice none 0 0, .slice none 0 0] 53 H'_2 p_2 → ∀ H' p_3, New H'_2 [.int .i64 0, .int .i64 0, .int .i64 0, .int .i64 0] 64 H'
  p_3 → cs.length = 3 ∧ (∀ v ∈ cs, One v) ∧ WOk H' p_2 0 3 ∧ ∀ H'_3, H'_3 = wrL H' p_2 0 cs → cs_1.length = 4 ∧ (∀ v ∈ cs_1, One v) ∧ WOk H'_3 p_3 0 4 ∧ ∀ H', H' = wrL H'_3 p_3 0
  cs_1 → ∀ H'_4 q, New H' [] 3 H'_4 q → ∃ (J : Option Addr → Nat → Nat → Heap → Prop), (∃ (I : Option Addr → Nat → Nat → Int → Heap → Prop), ∃ (μ : Option Addr → Nat → Nat → Int → Heap → Nat), I (some ⟨q, 0, none⟩) 0 0 (0 :
  Int) H'_4 ∧ ∀ H a l c n, I a l c n H → ∃ a_2 l_1 c_1, rd H p 1 = some (.slice a_2 l_1 c_1) ∧ (n < (↑l_1 : Int) → ∀ H' q, New H [.int .i64 n] 3 H' q → ∃ new, new.length = 1 ∧ SlL H' (some ⟨q, 0, none⟩) new ∧ App 1 8 3
  [.int .i64 0] H' a l c 1 new fun a' l' c' H' => I64 (n + (1 : Int)) ∧ I a' l' c' (n + (1 : Int)) H' ∧ μ a' l' c' (n + (1 : Int)) H' < μ a l c n H) ∧ (¬n < (↑l_1 : Int) → J a l c H)) ∧ ∀ H a l c_1, J a l c_1 H → ∃ (cs :
  List Value), cs.length = 9 ∧ RdL H p 0 cs ∧ ∀ H' p_4, New H [.int .i64 0, .slice none 0 0, .slice none 0 0, .int .i64 0, .slice none 0 0, .int .i64 0, .slice none 0 0, .int .i64 0, .int .i64 0] 27 H' p_4 →
  cs.length = 9 ∧ (∀ v ∈ cs, One v) ∧ WOk H' p_4 0 9 ∧ ∀ H'_5, H'_5 = wrL H' p_4 0 cs → ∃ cs : List Value, cs.length = 2 ∧ RdL H'_5 p 3 cs ∧ Ru 25 [.agg cs.toArray, .slice a l c_1] H'_5
  fun r H' => ∃ cs : List Value, cs.length = 2 ∧ ∃ n_1, r = .tuple #[.agg cs.toArray, .int .i64 n_1] ∧ ∀ H'_6 p_5, New H' [.int .i64 0, .slice none 0 0] 25 H'_6 p_5 → cs.length = 2 ∧ (∀ v ∈   cs, One v) ∧ WOk H'_6 p_5 0 2 ∧ ∀ H', H' = wrL H'_6 p_5 0 cs → ∃ cs : List Value, cs.length = 2 ∧ RdL H' p 5 cs ∧ ∀ H'_7 q, New H' [.int .i64 0] 3 H'_7 q → Ru 25 [.agg cs.toArray, .slice (some ⟨q, 0,
  none⟩) 1 1] H'_7 fun r H' => ∃ cs : List Value, cs.length = 2 ∧ ∃ n_2, r = .tuple #[.agg cs.toArray, .int .i64 n_2] ∧ ∀ H'_8 p_6, New H' [.int .i64 0, .slice none 0 0] 25 H'_8 p_6 → cs.length = 2 ∧ (∀
  (v : Value), v ∈ cs → One v) ∧ WOk H'_8 p_6 0 2 ∧ ∀ H', H' = wrL H'_8 p_6 0 cs → ∃ cs : List Value, cs.length = 2 ∧ RdL H' p_5 0 cs ∧ cs.length = 2 ∧ (∀ v ∈ cs, One v) ∧ WOk H' p_4 3 2 ∧ ∀
  H'_9, H'_9 = wrL H' p_4 3 cs → ∃ cs : List Value, cs.length = 2 ∧ RdL H'_9 p_6 0 cs ∧ cs.length = 2 ∧ (∀ v ∈ cs, One v) ∧ WOk H'_9 p_4 5 2 ∧ ∀ H', H' = wrL H'_9 p_4 5 cs → ∃ cs : List Value,
  cs.length = 9 ∧ RdL H' p_4 0 cs ∧ Ru 22 [.agg cs.toArray, .int .i64 n] H' fun r H' => ∃ cs : List Value, cs.length = 3 ∧ ∃ cs_2 : List Value, cs_2.length = 4 ∧ ∃ c_2, r = .tuple #[.agg
  cs.toArray, .agg cs_2.toArray, .bool c_2] ∧ ∀ H'_10 p_7, New H' [.int .u64 0, .slice none 0 0, .slice none 0 0] 53 H'_10 p_7 → ∀ H' p_8, New H'_10 [.int .i64 0, .int .i64 0, .int .i64 0, .int .i64 0] 64 H'
  p_8 → cs.length = 3 ∧ (∀ v ∈ cs, One v) ∧ WOk H' p_7 0 3 ∧ ∀ H'_11, H'_11 = wrL H' p_7 0 cs → cs_2.length = 4 ∧ (∀ v ∈ cs_2, One v) ∧ WOk H'_11 p_8 0 4 ∧ ∀ H', H' = wrL H'_11
  p_8 0 cs_2 → ∃ (J : Heap → Prop), (((!c) = true → R (.bool false) H') ∧ ((!c) = false → (¬n_1 = 0 → R (.bool false) H') ∧ (¬¬n_1 = 0 → (¬n_2 = 0 → R (.bool false) H') ∧ (¬¬n_2 = 0 → ((!c_2)
  = true → R (.bool false) H') ∧ ((!c_2) = false → ∃ cs : List Value, cs.length = 3 ∧ RdL H' p_2 0 cs ∧ ∃ cs_3 : List Value, cs_3.length = 3 ∧ RdL H' p_7 0 cs_3 ∧ Ru 20 [.agg cs.toArray, .agg
  cs_3.toArray] H' fun r H' => ∃ c, r = .bool c ∧ ((!c) = true → R (.bool false) H') ∧ ((!c) = false → J H')))))) ∧ ∀ H, J H → ∃ n_3, rd H p 5 = some (.int .i64 n_3) ∧ ∃ cs : List Value, cs.length = 9 ∧ RdL H
  p 0 cs ∧ cs.length = 9 ∧ (∀ v ∈ cs, One v) ∧ WOk H p_4 0 9 ∧ ∀ H', H' = wrL H p_4 0 cs → I64 (n_3 + (1 : Int)) ∧ ∀ H'_12 q, New H' [] 74 H'_12 q → ∃ a l c, rd H'_12 p 6 = some (.slice a l c) ∧ ∃ new,
  new.length = l * 5 ∧ SlL H'_12 a new ∧ App 5 40 74 [.int .i64 0, .int .i64 0, .int .i64 0, .int .i64 0, .int .u64 0] H'_12 (some ⟨q, 0, none⟩) 0 0 l new fun a' l' c' H' => (List.length (α := Value) [.int .i64 5, .int
  .i64 n_3, .int .i64 0, .int .i64 0, .int .u64 (↑(UInt64.toNat x1) : Int)] = 5 ∧ List.length (α := Value) [.int .i64 3, .int .i64 0, .int .i64 0, .int .i64 n_3, .int .u64 0] = 5) ∧ ∀ H'_13 q, New H' [.int .i64 5, .int .i64
  n_3, .int .i64 0, .int .i64 0, .int .u64 (↑(UInt64.toNat x1) : Int), .int .i64 3, .int .i64 0, .int .i64 0, .int .i64 n_3, .int .u64 0] 74 H'_13 q → ∃ new, new.length = 10 ∧ SlL H'_13 (some ⟨q, 0, none⟩) new ∧ App 5
  40 74 [.int .i64 0, .int .i64 0, .int .i64 0, .int .i64 0, .int .u64 0] H'_13 a' l' c' 2 new fun a' l' c' H' => List.length (α := Value) [.int .i64 (n_3 + (1 : Int)), .slice a' l' c'] = 2 ∧ (∀ v ∈ [.int .i64
  (n_3 + (1 : Int)), .slice a' l' c'], One v) ∧ WOk H' p_4 5 2 ∧ ∀ H'_14, H'_14 = wrL H' p_4 5 [.int .i64 (n_3 + (1 : Int)), .slice a' l' c'] → ∃ cs : List Value, cs.length = 9 ∧ RdL H'_14 p_4 0 cs ∧ Ru 8 [.agg
  cs.toArray] H'_14 fun r H' => ∃ cs : List Value, cs.length = 4 ∧ ∃ n_4, r = .tuple #[.agg cs.toArray, .int .i64 n_4] ∧ ∀ H'_15 p, New H' [.int .i64 0, .int .i64 0, .int .i64 0, .int .i64 0] 30 H'_15 p
  → cs.length = 4 ∧ (∀ v ∈ cs, One v) ∧ WOk H'_15 p 0 4 ∧ ∀ H', H' = wrL H'_15 p 0 cs → (¬n_4 = 0 → Ru 10 [] H' fun r H' => ∃ c, r = .bool c ∧ R (.bool c) H') ∧ (¬¬n_4 = 0 → ∃ (cs :
  List Value), cs.length = 9 ∧ RdL H' p_4 0 cs ∧ Ru 22 [.agg cs.toArray, .int .i64 n] H' fun r H' => ∃ cs : List Value, cs.length = 3 ∧ ∃ cs_3 : List Value, cs_3.length = 4 ∧ ∃ c, r = .tuple #[.agg
  cs.toArray, .agg cs_3.toArray, .bool c] ∧ ∀ H'_16 p, New H' [.int .u64 0, .slice none 0 0, .slice none 0 0] 53 H'_16 p → ∀ H' p_9, New H'_16 [.int .i64 0, .int .i64 0, .int .i64 0, .int .i64 0] 64 H' p_9 →
  cs.length = 3 ∧ (∀ v ∈ cs, One v) ∧ WOk H' p 0 3 ∧ ∀ H'_17, H'_17 = wrL H' p 0 cs → cs_3.length = 4 ∧ (∀ v ∈ cs_3, One v) ∧ WOk H'_17 p_9 0 4 ∧ ∀ H', H' = wrL H'_17 p_9 0 cs_3 →
  ∃ (J : Heap → Prop), (((!c) = true → R (.bool false) H') ∧ ((!c) = false → ∃ a l c, rd H' p_2 1 = some (.slice a l c) ∧ ∃ a l_1 c, rd H' p 1 = some (.slice a l_1 c) ∧ (¬(↑l : Int) = (↑l_1 : Int) → R (.bool false) H') ∧
  (¬¬(↑l : Int) = (↑l_1 : Int) → ∃ a l c, rd H' p_2 2 = some (.slice a l c) ∧ ∃ a l_2 c, rd H' p 2 = some (.slice a l_2 c) ∧ (¬(↑l : Int) = (↑l_2 : Int) → R (.bool false) H') ∧ (¬¬(↑l : Int) = (↑l_2 : Int) → ∃ x, rd H' p 0
  = some (.int .u64 (↑(UInt64.toNat x) : Int)) ∧ ∃ x_1, rd H' p_2 0 = some (.int .u64 (↑(UInt64.toNat x_1) : Int)) ∧ ∀ H'_18 q, New H' [.int .u64 (↑(UInt64.toNat x1) : Int), .int .u64 (↑(UInt64.toNat x_1) : Int)] 51 H'_18 q
  → rd H'_18 p 0 = some (.int .u64 (↑(UInt64.toNat x) : Int)) ∧ Ru 26 [.slice (some ⟨q, 0, none⟩) 2 2] H'_18 fun r H' => ∃ x_2, r = .int .u64 (↑(UInt64.toNat x_2) : Int) ∧ rd H' p 0 = some (.int .u64 (↑(UInt64.toNat x) :
  Int)) ∧ (¬x = x_2 → R (.bool false) H') ∧ (¬¬x = x_2 → J H'))))) ∧ ∀ H, J H → ∃ (J : Heap → Prop), (∃ (I : Int → Heap → Prop), ∃ (μ : Int → Heap → Nat), I (0 : Int) H ∧ ∀ H n, I n H → ∃ a l c, rd H p_2 1 = some (.slice a
  l c) ∧ (n < (↑l : Int) → ∃ a l c, rd H p 1 = some (.slice a l c) ∧ ∃ b o, At a b o ∧ ((0 : Int) ≤ n ∧ n < (↑l : Int)) ∧ ∃ x, rd H b (o + n.toNat) = some (.int .u64 (↑(UInt64.toNat x) : Int)) ∧ ∃ a_4 l_1 c_3, rd H p_2
  1 = some (.slice a_4 l_1 c_3) ∧ ∃ b_1 o_1, At a_4 b_1 o_1 ∧ ((0 : Int) ≤ n ∧ n < (↑l_1 : Int)) ∧ ∃ x_1, rd H b_1 (o_1 + n.toNat) = some (.int .u64 (↑(UInt64.toNat x_1) : Int)) ∧ ∀ H' q, New H [.int .u64
  (↑(UInt64.toNat x1) : Int), .int .u64 (↑(UInt64.toNat x_1) : Int)] 51 H' q → rd H' b (o + n.toNat) = some (.int .u64 (↑(UInt64.toNat x) : Int)) ∧ rd H' p 1 = some (.slice a l c) ∧ Ru 26 [.slice (some ⟨q, 0, none⟩) 2
  2] H' fun r H' => ∃ x_2, r = .int .u64 (↑(UInt64.toNat x_2) : Int) ∧ rd H' b (o + n.toNat) = some (.int .u64 (↑(UInt64.toNat x) : Int)) ∧ rd H' p 1 = some (.slice a l c) ∧ (¬x = x_2 → R (.bool false) H') ∧ (¬¬x = x_2
  → I64 (n + (1 : Int)) ∧ I (n + (1 : Int)) H' ∧ μ (n + (1 : Int)) H' < μ n H)) ∧ (¬n < (↑l : Int) → J H)) ∧ ∀ H, J H → ∃ (I : Int → Heap → Prop), ∃ (μ : Int → Heap → Nat), I (0 : Int) H ∧ ∀ H n, I n H → ∃ a l c, rd H p_2 2
  = some (.slice a l c) ∧ (n < (↑l : Int) → ∃ a l c, rd H p 2 = some (.slice a l c) ∧ ∃ b o, At a b o ∧ ((0 : Int) ≤ n ∧ n < (↑l : Int)) ∧ ∃ x, rd H b (o + n.toNat) = some (.int .u64 (↑(UInt64.toNat x) : Int)) ∧ ∃ a_4
  l_1 c_3, rd H p_2 2 = some (.slice a_4 l_1 c_3) ∧ ∃ b_1 o_1, At a_4 b_1 o_1 ∧ ((0 : Int) ≤ n ∧ n < (↑l_1 : Int)) ∧ ∃ x_1, rd H b_1 (o_1 + n.toNat) = some (.int .u64 (↑(UInt64.toNat x_1) : Int)) ∧ ∀ H' q, New H [.int
  .u64 (↑(UInt64.toNat x1) : Int), .int .u64 (↑(UInt64.toNat x_1) : Int)] 51 H' q → rd H' b (o + n.toNat) = some (.int .u64 (↑(UInt64.toNat x) : Int)) ∧ rd H' p 2 = some (.slice a l c) ∧ Ru 26 [.slice (some ⟨q, 0,
  none⟩) 2 2] H' fun r H' => ∃ x_2, r = .int .u64 (↑(UInt64.toNat x_2) : Int) ∧ rd H' b (o + n.toNat) = some (.int .u64 (↑(UInt64.toNat x) : Int)) ∧ rd H' p 2 = some (.slice a l c) ∧ (¬x = x_2 → R (.bool false) H') ∧
  (¬¬x = x_2 → I64 (n + (1 : Int)) ∧ I (n + (1 : Int)) H' ∧ μ (n + (1 : Int)) H' < μ n H)) ∧ (¬n < (↑l : Int) → Ru 10 [] H fun r H' => ∃ c, r = .bool c ∧ R (.bool c) H')))) :
  Ru 5 [.agg x0.toArray, .int .u64 (x1.toNat : Int), .int .u16 x2] H R :=
  vcr mixed ⟨fun | 8 => some [(13, .slc), (14, .int .i64)] | 29 => some [(29, .int .i64)] | 34 => some [(30, .int .i64)] | _ => none, fun | 11 => some [(13, .slc)] | 19 => some [] | 28 => some [] | 33 => some [] | _ => none⟩ [.agg x0, .u64 x1, .int .u16 x2] (by kernel_rfl) (by kernel_rfl) h
theorem v6 (x0 : List Value) (x1 : Int) (x2 : Int) (h :
  ∀ H' p, New H x0 27 H' p → ∃ cs : List Value, cs.length = 9 ∧ RdL H' p 0 cs ∧ Ru 8 [.agg cs.toArray] H' fun r H' => ∃ cs : List Value, cs.length = 4 ∧ ∃ n, r = .tuple #[.agg cs.toArray, .int
  .i64 n] ∧ ∀ H'_1 p_1, New H' [.int .i64 0, .int .i64 0, .int .i64 0, .int .i64 0] 30 H'_1 p_1 → cs.length = 4 ∧ (∀ v ∈ cs, One v) ∧ WOk H'_1 p_1 0 4 ∧ ∀ H', H' = wrL H'_1 p_1 0 cs → ∃ (cs : List
  Value), cs.length = 9 ∧ RdL H' p 0 cs ∧ Ru 9 [.agg cs.toArray] H' fun r H' => ∃ v n_1, r = .tuple #[v, .int .i64 n_1] ∧ (¬n = 0 → (¬n_1 = 0 → ∃ a, v = .pointer a ∧ (a = none → Ru 10 [] H' fun r
  H' => ∃ c, r = .bool c ∧ R (.bool c) H') ∧ (¬a = none → R (.bool false) H')) ∧ (¬¬n_1 = 0 → R (.bool false) H')) ∧ (¬¬n = 0 → ∃ cs : List Value, cs.length = 9 ∧ RdL H' p 0 cs ∧ Ru 24 [.agg
  cs.toArray, .int .u16 x1] H' fun r H' => ∃ n, r = .int .i64 n ∧ ∃ cs : List Value, cs.length = 2 ∧ RdL H' p 3 cs ∧ ∃ cs_1 : List Value, cs_1.length = 2 ∧ RdL H' p 5 cs_1 ∧ ∃ a l c, rd H' p 1 = some
  (.slice a l c) ∧ ∃ a l_1 c, rd H' p 2 = some (.slice a l_1 c) ∧ Ru 27 [.agg cs.toArray, .agg cs_1.toArray, .int .i64 (↑l : Int), .slice a l_1 c] H' fun r H' => ∃ v_1 n_2, r = .tuple #[v_1, .int .i64 n_2] ∧ ∃
  a l c, rd H' p 1 = some (.slice a l c) ∧ Ru 28 [v_1, .slice a l c, .int .i64 n] H' fun r H' => ∃ a l c n_3, r = .tuple #[.slice a l c, .int .i64 n_3] ∧ ∃ n_4, rd H' p_1 3 = some (.int .i64 n_4) ∧ Ru 29 [.int .i64 n, .int
  .i64 n_4] H' fun r H' => ∃ v_2 n_5, r = .tuple #[v_2, .int .i64 n_5] ∧ ∃ (J : Heap → Prop), ((¬n_1 = 0 → R (.bool false) H') ∧ (¬¬n_1 = 0 → ∃ a, v = .pointer a ∧ (a = none → R (.bool false) H') ∧ (¬a =
  none → (¬n_2 = 0 → R (.bool false) H') ∧ (¬¬n_2 = 0 → (¬n_3 = 0 → R (.bool false) H') ∧ (¬¬n_3 = 0 → (¬n_5 = 0 → R (.bool false) H') ∧ (¬¬n_5 = 0 → ∃ a, v_2 = .pointer a ∧
  (a = none → R (.bool false) H') ∧ (¬a = none → I64 (n + (1 : Int)) ∧ (¬(↑l : Int) = n + (1 : Int) → R (.bool false) H') ∧ (¬¬(↑l : Int) = n + (1 : Int) → ∃ n, rd H' p 8 = some (.int .i64 n) ∧ Ru 30 [v] H' fun r H' => ∃ a
  l c, r = .slice a l c ∧ rd H' p 8 = some (.int .i64 n) ∧ (¬(↑l : Int) = n → R (.bool false) H') ∧ (¬¬(↑l : Int) = n → J H'))))))))) ∧ ∀ H, J H → ∃ n_6, rd H p_1 3 = some (.int .i64 n_6) ∧ ((0 : Int) ≤ n_6 ∧ n_6 ≤ n_6 ∧ (8
  : Int) * n_6 ≤ (281474976710656 : Int) ∧ I64 n_6) ∧ ∀ H' q, New H (rep (n_6.toNat) [.int .i64 0]) 3 H' q → ∀ H'_2 p_2, New H' [.int .i64 0, .int .i64 0, .slice (some ⟨q, 0, none⟩) (n_6.toNat) (n_6.toNat)] 89
  H'_2 p_2 → ∃ (J : Nat → Nat → Heap → Prop), (∃ (I : Nat → Nat → Int → Int → Heap → Prop), ∃ (μ : Nat → Nat → Int → Int → Heap → Nat), False ∧ ∀ H b o n_7 n_8, I b o n_7 n_8 H → Ru 31 [.pointer (some ⟨b, o, none⟩)] H fun r
  H' => ∃ c, r = .bool c ∧ ((!c) = true → ∃ (J : Nat → Nat → Heap → Prop), ((n_8 = x2 → Ru 32 [.pointer (some ⟨b, o, none⟩)] H' fun r H' => ∃ a l c n, r = .tuple #[.slice a l c, .int .i64 n] ∧ ∃ cs : List Value,
  cs.length = 9 ∧ RdL H' p 0 cs ∧ Ru 33 [.agg cs.toArray, .slice a l c] H' fun r H' => ∃ v n_9, r = .tuple #[v, .int .i64 n_9] ∧ (¬n = 0 → R (.bool false) H') ∧ (¬¬n = 0 → (¬n_9 = 0 → R
  (.bool false) H') ∧ (¬¬n_9 = 0 → ∃ a, v = .pointer a ∧ (a = none → R (.bool false) H') ∧ (¬a = none → False)))) ∧ (¬n_8 = x2 → J b o H')) ∧ ∀ H_1 b_1 o_1, J b_1 o_1 H_1 → ∃ (J : Int → Heap → Prop), (∃ (I : Int →
  Heap → Prop), ∃ (μ : Int → Heap → Nat), I n_7 H_1 ∧ ∀ H n_9, I n_9 H → Ru 11 [.pointer (some ⟨b_1, o_1, none⟩)] H fun r H' => ∃ c, r = .bool c ∧ (c = true → I64 (n_9 + (1 : Int)) ∧ I64 (n + (1 : Int)) ∧ (n + (1 : Int) <
  n_9 + (1 : Int) → R (.bool false) H') ∧ (¬n + (1 : Int) < n_9 + (1 : Int) → Ru 14 [.pointer (some ⟨b_1, o_1, none⟩), .bool (decide (n_9 + (1 : Int) ≤ n))] H' fun r H' => ∃ n, r = .int .i64 n ∧ (¬n = 0 → R (.bool
  false) H') ∧ (¬¬n = 0 → I (n_9 + (1 : Int)) H' ∧ μ (n_9 + (1 : Int)) H' < μ n_9 H))) ∧ (c = false → J n_9 H')) ∧ ∀ H_2 n_9, J n_9 H_2 → Ru 31 [.pointer (some ⟨b_1, o_1, none⟩)] H_2 fun r H' => ∃ c, r = .bool c ∧
  (c = true → R (.bool false) H') ∧ (c = false → Ru 12 [.pointer (some ⟨b_1, o_1, none⟩)] H' fun r H' => ∃ cs : List Value, cs.length = 2 ∧ ∃ c n_10, r = .tuple #[.agg cs.toArray, .bool c, .int .i64 n_10] ∧ ∀
  H'_3 p_3, New H' [.int .i64 0, .int .i64 0] 39 H'_3 p_3 → cs.length = 2 ∧ (∀ v ∈ cs, One v) ∧ WOk H'_3 p_3 0 2 ∧ ∀ H', H' = wrL H'_3 p_3 0 cs → ∃ (J : Heap → Prop), (((!c) = true → R (.bool false)
  H') ∧ ((!c) = false → (¬n_10 = 0 → R (.bool false) H') ∧ (¬¬n_10 = 0 → J H'))) ∧ ∀ H_3, J H_3 → ∃ (J : Heap → Prop), (∃ n, rd H_3 p 0 = some (.int .i64 n) ∧ (n = 3 → Ru 16 [.pointer (some ⟨b_1,
  o_1, none⟩)] H_3 fun r H' => ∃ cs : List Value, cs.length = 3 ∧ r = .agg cs.toArray ∧ True ∧ ∃ v, cs[0]? = some v ∧ ∃ n, v = .int .i64 n ∧ WOk H' p_2 0 1 ∧ ∀ H'_4, H'_4 = wr H' p_2 0 (.int .i64 n) → J H'_4)
  ∧ (¬n = 3 → ∃ cs : List Value, cs.length = 2 ∧ RdL H_3 p_3 0 cs ∧ Ru 34 [v_2, .agg cs.toArray] H_3 fun r H' => ∃ n, r = .int .i64 n ∧ (¬n = 0 → R (.bool false) H') ∧ (¬¬n = 0 → ∃ (cs
  : List Value), cs.length = 2 ∧ RdL H' p_3 0 cs ∧ Ru 35 [.pointer (some ⟨p_2, 0, none⟩), .agg cs.toArray] H' fun r H' => ∃ n, rd H' p_2 1 = some (.int .i64 n) ∧ ∃ n_11, rd H' p_1 3 = some (.int .i64 n_11) ∧
  (n_11 < n → R (.bool false) H') ∧ (¬n_11 < n → ∃ n, rd H' p_1 0 = some (.int .i64 n) ∧ ∃ n_12, rd H' p_1 2 = some (.int .i64 n_12) ∧ ∃ n_13, rd H' p_2 1 = some (.int .i64 n_13) ∧ I64 (n_12 * n_13) ∧ I64 (n + n_12 * n_13)
  ∧ Ru 36 [.pointer (some ⟨b_1, o_1, none⟩)] H' fun r H' => ∃ n_14, r = .int .i64 n_14 ∧ rd H' p_2 1 = some (.int .i64 n_13) ∧ rd H' p_1 2 = some (.int .i64 n_12) ∧ rd H' p_1 0 = some (.int .i64 n) ∧ (¬n_14 = n + n_12 *
  n_13 → R (.bool false) H') ∧ (¬¬n_14 = n + n_12 * n_13 → J H'))))) ∧ ∀ H_4, J H_4 → ∃ n_11, rd H_4 p_2 0 = some (.int .i64 n_11) ∧ (n_11 < (0 : Int) → R (.bool false) H_4) ∧ (¬n_11 < (0 : Int) → ∃ n_12, rd H_4 p_2 0 =
  some (.int .i64 n_12) ∧ (n < n_12 → R (.bool false) H_4) ∧ (¬n < n_12 → ∃ n, rd H_4 p_2 0 = some (.int .i64 n) ∧ ∃ b_2 o_2, At a b_2 o_2 ∧ ((0 : Int) ≤ n ∧ n < (↑l : Int)) ∧ ∃ a l c, rd H_4 b_2 (o_2 + n.toNat) = some
  (.slice a l c) ∧ Ru 38 [.pointer (some ⟨b_1, o_1, none⟩)] H_4 fun r H' => ∃ a_15 l_2 c_1, r = .slice a_15 l_2 c_1 ∧ rd H' b_2 (o_2 + n.toNat) = some (.slice a l c) ∧ rd H' p_2 0 = some (.int .i64 n) ∧ Ru 37 [.slice
  a_15 l_2 c_1, .slice a l c] H' fun r H' => ∃ c, r = .bool c ∧ ((!c) = true → R (.bool false) H') ∧ ((!c) = false → ∃ n, rd H' p 8 = some (.int .i64 n) ∧ Ru 36 [.pointer (some ⟨b_1, o_1, none⟩)] H' fun r H' => ∃ n_13, r =
  .int .i64 n_13 ∧ rd H' p 8 = some (.int .i64 n) ∧ (n < n_13 → R (.bool false) H') ∧ (¬n < n_13 → ∃ n, rd H' p 8 = some (.int .i64 n) ∧ Ru 39 [.pointer (some ⟨b_1, o_1, none⟩)] H' fun r H' => ∃ n_14, r = .int .i64 n_14 ∧
  rd H' p 8 = some (.int .i64 n) ∧ (n < n_14 → R (.bool false) H') ∧ (¬n < n_14 → I64 (n_8 + (1 : Int)) ∧ I b_1 o_1 n_9 (n_8 + (1 : Int)) H' ∧ μ b_1 o_1 n_9 (n_8 + (1 : Int)) H' < μ b o n_7 n_8 H))))))) ∧ ((!c) = false → J
  b o H')) ∧ ∀ H b o, J b o H → Ru 18 [.pointer (some ⟨b, o, none⟩)] H fun r H' => ∃ cs : List Value, cs.length = 3 ∧ ∃ n_7, r = .tuple #[.agg cs.toArray, .int .i64 n_7] ∧ ∀ H'_3 p_3, New H' [.int .u64 0,
  .slice none 0 0, .slice none 0 0] 53 H'_3 p_3 → cs.length = 3 ∧ (∀ v ∈ cs, One v) ∧ WOk H'_3 p_3 0 3 ∧ ∀ H', H' = wrL H'_3 p_3 0 cs → ∃ cs : List Value, cs.length = 2 ∧ RdL H' p 3 cs ∧ ∃ (cs_2
  : List Value), cs_2.length = 2 ∧ RdL H' p 5 cs_2 ∧ ∃ a l c, rd H' p 1 = some (.slice a l c) ∧ ∃ a_4 l_2 c_1, rd H' p 2 = some (.slice a_4 l_2 c_1) ∧ Ru 19 [.agg cs.toArray, .agg cs_2.toArray, .slice a l
  c, .slice a_4 l_2 c_1, .int .i64 n] H' fun r H' => ∃ cs : List Value, cs.length = 3 ∧ ∃ n_8, r = .tuple #[.agg cs.toArray, .int .i64 n_8] ∧ ∀ H'_4 p_4, New H' [.int .u64 0, .slice none 0 0, .slice none 0 0]
  53 H'_4 p_4 → cs.length = 3 ∧ (∀ v ∈ cs, One v) ∧ WOk H'_4 p_4 0 3 ∧ ∀ H', H' = wrL H'_4 p_4 0 cs → (n_7 = 0 → (n_8 = 0 → ∃ cs : List Value, cs.length = 3 ∧ RdL H' p_3 0 cs ∧ ∃
  (cs_3 : List Value), cs_3.length = 3 ∧ RdL H' p_4 0 cs_3 ∧ Ru 20 [.agg cs.toArray, .agg cs_3.toArray] H' fun r H' => ∃ c, r = .bool c ∧ (c = true → ∃ n_9, rd H' p 0 = some (.int .i64 n_9) ∧ (n_9 = (3 :
  Int) → ∃ cs : List Value, cs.length = 9 ∧ RdL H' p 0 cs ∧ ∃ n_10, rd H' p_1 3 = some (.int .i64 n_10) ∧ Ru 42 [.pointer (some ⟨b, o, none⟩)] H' fun r H' => ∃ cs_4 : List Value, cs_4.length = 4 ∧ r = .agg
  cs_4.toArray ∧ rd H' p_1 3 = some (.int .i64 n_10) ∧ RdL H' p 0 cs ∧ Ru 41 [.agg cs.toArray, .int .i64 n, .int .i64 n_10, .agg cs_4.toArray] H' fun r H' => ∃ c, r = .bool c ∧ (c = true → ∃ n, rd H' p
  8 = some (.int .i64 n) ∧ Ru 30 [.pointer (some ⟨b, o, none⟩)] H' fun r H' => ∃ a l c, r = .slice a l c ∧ rd H' p 8 = some (.int .i64 n) ∧ ((↑l : Int) = n → Ru 10 [] H' fun r H' => ∃ c, r = .bool c ∧ R (.bool c) H') ∧
  (¬(↑l : Int) = n → R (.bool false) H')) ∧ (c = false → R (.bool false) H')) ∧ (¬n_9 = 3 → Ru 40 [v_2] H' fun r H' => ∃ c, r = .bool c ∧ (c = true → ∃ cs : List Value, cs.length = 9 ∧ RdL H' p 0 cs ∧ ∃ n_10,
  rd H' p_1 3 = some (.int .i64 n_10) ∧ Ru 42 [.pointer (some ⟨b, o, none⟩)] H' fun r H' => ∃ cs_4 : List Value, cs_4.length = 4 ∧ r = .agg cs_4.toArray ∧ rd H' p_1 3 = some (.int .i64 n_10) ∧ RdL H' p 0 cs ∧
  Ru 41 [.agg cs.toArray, .int .i64 n, .int .i64 n_10, .agg cs_4.toArray] H' fun r H' => ∃ c, r = .bool c ∧ (c = true → ∃ n, rd H' p 8 = some (.int .i64 n) ∧ Ru 30 [.pointer (some ⟨b, o, none⟩)] H' fun r H' =>
  ∃ a l c, r = .slice a l c ∧ rd H' p 8 = some (.int .i64 n) ∧ ((↑l : Int) = n → Ru 10 [] H' fun r H' => ∃ c, r = .bool c ∧ R (.bool c) H') ∧ (¬(↑l : Int) = n → R (.bool false) H')) ∧ (c = false → R (.bool false) H')) ∧ (c
  = false → R (.bool false) H'))) ∧ (c = false → R (.bool false) H')) ∧ (¬n_8 = 0 → R (.bool false) H')) ∧ (¬n_7 = 0 → R (.bool false) H'))) :
  Ru 6 [.agg x0.toArray, .int .u16 x1, .int .i64 x2] H R :=
  vcr mixed ⟨fun | 14 => some [(9, .ptr), (19, .int .i64), (20, .int .i64)] | 22 => some [(19, .int .i64)] | _ => none, fun | 11 => some [] | 22 => some [(9, .ptr)] | 26 => some [(19, .int .i64)] | 31 => some [] | 38 => some [] | 40 => some [(9, .ptr)] | _ => none⟩ [.agg x0, .int .u16 x1, .int .i64 x2] (by kernel_rfl) (by kernel_rfl) h
theorem v7 (x0 : List Value) (x1 : Int) (h :
  ∀ H' p, New H x0 27 H' p → ∃ cs : List Value, cs.length = 9 ∧ RdL H' p 0 cs ∧ Ru 8 [.agg cs.toArray] H' fun r H' => ∃ cs : List Value, cs.length = 4 ∧ ∃ n, r = .tuple #[.agg cs.toArray, .int
  .i64 n] ∧ ∀ H'_1 p_1, New H' [.int .i64 0, .int .i64 0, .int .i64 0, .int .i64 0] 30 H'_1 p_1 → cs.length = 4 ∧ (∀ v ∈ cs, One v) ∧ WOk H'_1 p_1 0 4 ∧ ∀ H', H' = wrL H'_1 p_1 0 cs → (¬n = 0 →
  Ru 10 [] H' fun r H' => ∃ c, r = .bool c ∧ R (.bool c) H') ∧ (¬¬n = 0 → ∃ cs : List Value, cs.length = 9 ∧ RdL H' p 0 cs ∧ Ru 24 [.agg cs.toArray, .int .u16 x1] H' fun r H' => ∃ n, r = .int .i64 n ∧
  ∃ cs : List Value, cs.length = 2 ∧ RdL H' p 3 cs ∧ ∃ cs_1 : List Value, cs_1.length = 2 ∧ RdL H' p 5 cs_1 ∧ ∃ a l c, rd H' p 1 = some (.slice a l c) ∧ ∃ a l_1 c, rd H' p 2 = some (.slice a l_1 c) ∧ Ru 43
  [.agg cs.toArray, .agg cs_1.toArray, .int .i64 (↑l : Int), .int .i64 (↑l_1 : Int), .int .i64 n] H' fun r H' => ∃ cs : List Value, cs.length = 2 ∧ ∃ n_1, r = .tuple #[.agg cs.toArray, .int .i64
  n_1] ∧ ∀ H'_2 p_2, New H' [.int .i64 0, .slice none 0 0] 101 H'_2 p_2 → cs.length = 2 ∧ (∀ v ∈ cs, One v) ∧ WOk H'_2 p_2 0 2 ∧ ∀ H', H' = wrL H'_2 p_2 0 cs → (¬n_1 = 0 → (n_1 = 20 →
  Ru 10 [] H' fun r H' => ∃ c, r = .bool c ∧ R (.bool c) H') ∧ (¬n_1 = 20 → R (.bool false) H')) ∧ (¬¬n_1 = 0 → ∃ cs : List Value, cs.length = 9 ∧ RdL H' p 0 cs ∧ Ru 22 [.agg cs.toArray, .int
  .i64 n] H' fun r H' => ∃ cs : List Value, cs.length = 3 ∧ ∃ cs_2 : List Value, cs_2.length = 4 ∧ ∃ c, r = .tuple #[.agg cs.toArray, .agg cs_2.toArray, .bool c] ∧ ∀ H'_3 p_3, New H' [.int .u64
  0, .slice none 0 0, .slice none 0 0] 53 H'_3 p_3 → ∀ H' p_4, New H'_3 [.int .i64 0, .int .i64 0, .int .i64 0, .int .i64 0] 64 H' p_4 → cs.length = 3 ∧ (∀ v ∈ cs, One v) ∧ WOk H' p_3 0 3 ∧ ∀ H'_4,
  H'_4 = wrL H' p_3 0 cs → cs_2.length = 4 ∧ (∀ v ∈ cs_2, One v) ∧ WOk H'_4 p_4 0 4 ∧ ∀ H', H' = wrL H'_4 p_4 0 cs_2 → ∃ a l c_1, rd H' p 1 = some (.slice a l c_1) ∧ ∃ a_1 l_2 c_2, rd H' p 2 = some
  (.slice a_1 l_2 c_2) ∧ ∀ H'_5 q, New H' [] 51 H'_5 q → rd H'_5 p 2 = some (.slice a_1 l_2 c_2) ∧ rd H'_5 p 1 = some (.slice a l c_1) ∧ ∃ new, new.length = l ∧ SlL H'_5 a new ∧ App 1 8 51 [.int .u64 0] H'_5 (some ⟨q,
  0, none⟩) 0 0 l new fun a' l' c' H' => rd H' p 2 = some (.slice a_1 l_2 c_2) ∧ ∃ new, new.length = l_2 ∧ SlL H' a_1 new ∧ App 1 8 51 [.int .u64 0] H' a' l' c' l_2 new fun a' l' c' H' => ∃ a l c_3, rd H' p_3 1 = some
  (.slice a l c_3) ∧ ∃ a_3 l_3 c_4, rd H' p_3 2 = some (.slice a_3 l_3 c_4) ∧ ∀ H'_6 q, New H' [] 51 H'_6 q → rd H'_6 p_3 2 = some (.slice a_3 l_3 c_4) ∧ rd H'_6 p_3 1 = some (.slice a l c_3) ∧ ∃ new, new.length = l ∧
  SlL H'_6 a new ∧ App 1 8 51 [.int .u64 0] H'_6 (some ⟨q, 0, none⟩) 0 0 l new fun a'_1 l'_1 c'_1 H' => rd H' p_3 2 = some (.slice a_3 l_3 c_4) ∧ ∃ new, new.length = l_3 ∧ SlL H' a_3 new ∧ App 1 8 51 [.int .u64 0] H'
  a'_1 l'_1 c'_1 l_3 new fun a'_2 l'_2 c'_2 H' => ∃ cs : List Value, cs.length = 2 ∧ RdL H' p_2 0 cs ∧ Ru 44 [.agg cs.toArray, .slice a' l' c'] H' fun r H' => ∃ x n, r = .tuple #[.int .u64 (↑(UInt64.toNat x) :
  Int), .int .i64 n] ∧ ∃ (J : Heap → Prop), (((!c) = true → R (.bool false) H') ∧ ((!c) = false → (¬n = 0 → R (.bool false) H') ∧ (¬¬n = 0 → ∃ x_1, rd H' p_3 0 = some (.int .u64 (↑(UInt64.toNat x_1) : Int))
  ∧ (¬x = x_1 → R (.bool false) H') ∧ (¬¬x = x_1 → (¬(↑l'_2 : Int) = (↑l' : Int) → R (.bool false) H') ∧ (¬¬(↑l'_2 : Int) = (↑l' : Int) → J H'))))) ∧ ∀ H, J H → ∃ (I : Int → Heap → Prop), ∃ (μ : Int → Heap → Nat), I (0 :
  Int) H ∧ ∀ H n, I n H → (n < (↑l' : Int) → ∃ cs : List Value, cs.length = 2 ∧ RdL H p_2 0 cs ∧ Ru 45 [.agg cs.toArray, .int .i64 n] H fun r H' => ∃ cs : List Value, cs.length = 2 ∧ ∃ n_2, r = .tuple
  #[.agg cs.toArray, .int .i64 n_2] ∧ ∀ H'_7 p, New H' [.int .i64 0, .slice none 0 0] 101 H'_7 p → cs.length = 2 ∧ (∀ v ∈ cs, One v) ∧ WOk H'_7 p 0 2 ∧ ∀ H', H' = wrL H'_7 p 0 cs → ∃ (cs : List
  Value), cs.length = 2 ∧ RdL H' p 0 cs ∧ Ru 44 [.agg cs.toArray, .slice a' l' c'] H' fun r H' => ∃ x n_3, r = .tuple #[.int .u64 (↑(UInt64.toNat x) : Int), .int .i64 n_3] ∧ (¬n_2 = 0 → R (.bool false)
  H') ∧ (¬¬n_2 = 0 → (¬n_3 = 0 → R (.bool false) H') ∧ (¬¬n_3 = 0 → ∃ b o, At a'_2 b o ∧ ((0 : Int) ≤ n ∧ n < (↑l'_2 : Int)) ∧ ∃ x_1, rd H' b (o + n.toNat) = some (.int .u64 (↑(UInt64.toNat x_1)
  : Int)) ∧ (¬x = x_1 → R (.bool false) H') ∧ (¬¬x = x_1 → I64 (n + (1 : Int)) ∧ I (n + (1 : Int)) H' ∧ μ (n + (1 : Int)) H' < μ n H)))) ∧ (¬n < (↑l' : Int) → Ru 10 [] H fun r H' => ∃ c, r = .bool c ∧ R (.bool c) H')))) :
  Ru 7 [.agg x0.toArray, .int .u16 x1] H R :=
  vcr mixed ⟨fun | 15 => some [(17, .int .i64)] | _ => none, fun | 14 => some [] | _ => none⟩ [.agg x0, .int .u16 x1] (by kernel_rfl) (by kernel_rfl) h
theorem v10  (h :
  Ru 51 [] H fun r H' => ∃ cs : List Value, cs.length = 9 ∧ r = .agg cs.toArray ∧ ∀ H'_1 p, New H' [.int .i64 0, .slice none 0 0, .slice none 0 0, .int .i64 0, .slice none 0 0, .int .i64 0, .slice none 0 0,
  .int .i64 0, .int .i64 0] 27 H'_1 p → cs.length = 9 ∧ (∀ v ∈ cs, One v) ∧ WOk H'_1 p 0 9 ∧ ∀ H', H' = wrL H'_1 p 0 cs → 2 = 2 ∧ (∀ v ∈ [.int .i64 3, .slice none 0 0], One v) ∧ WOk H'
  p 3 2 ∧ ∀ H'_2, H'_2 = wrL H' p 3 [.int .i64 3, .slice none 0 0] → (5 = 5 ∧ 5 = 5 ∧ 5 = 5 ∧ 5 = 5) ∧ ∀ H' q, New H'_2 [.int .i64 3, .int .i64 2, .int .i64 0, .int .i64 0, .int .u64 0, .int .i64 1, .int .i64 0, .int .i64
  0, .int .i64 2, .int .u64 0, .int .i64 5, .int .i64 2, .int .i64 0, .int .i64 0, .int .u64 9223372036854775808, .int .i64 3, .int .i64 0, .int .i64 0, .int .i64 2, .int .u64 0] 74 H' q → List.length (α := Value) [.int
  .i64 3, .slice (some ⟨q, 0, none⟩) 4 4] = 2 ∧ (∀ v ∈ [.int .i64 3, .slice (some ⟨q, 0, none⟩) 4 4], One v) ∧ WOk H' p 5 2 ∧ ∀ H'_3, H'_3 = wrL H' p 5 [.int .i64 3, .slice (some ⟨q, 0, none⟩) 4 4] → ∃ (cs
  : List Value), cs.length = 9 ∧ RdL H'_3 p 0 cs ∧ Ru 9 [.agg cs.toArray] H'_3 fun r H' => ∃ v n, r = .tuple #[v, .int .i64 n] ∧ ∃ (J : Heap → Prop), ((¬n = 0 → R (.bool false) H') ∧ (¬¬n = 0 → ∃
  a, v = .pointer a ∧ (a = none → R (.bool false) H') ∧ (¬a = none → J H'))) ∧ ∀ H, J H → Ru 17 [v] H fun r H' => ∃ n n_1, r = .tuple #[.int .i64 n, .int .i64 n_1] ∧ Ru 18 [v] H' fun r H' => ∃ cs : List Value, List.length
  cs = 3 ∧ ∃ n, r = .tuple #[.agg cs.toArray, .int .i64 n] ∧ ∀ H'_4 p, New H' [.int .u64 0, .slice none 0 0, .slice none 0 0] 53 H'_4 p → cs.length = 3 ∧ (∀ v ∈ cs, One v) ∧ WOk H'_4 p 0 3 ∧ ∀
  H', H' = wrL H'_4 p 0 cs → (n_1 = 0 → (n = 0 → Ru 31 [v] H' fun r H' => ∃ c, r = .bool c ∧ (c = true → ∃ cs : List Value, cs.length = 3 ∧ RdL H' p 0 cs ∧ ∀ H'_5 q, New H' [.int .u64
  9223372036854775808] 51 H'_5 q → ∀ H' q_1, New H'_5 [.int .u64 0] 51 H' q_1 → Ru 20 [.agg cs.toArray, .agg #[.int .u64 0, .slice (some ⟨q, 0, none⟩) 1 1, .slice (some ⟨q_1, 0, none⟩) 1 1]] H' fun r H' => ∃ c, r =
  .bool c ∧ R (.bool c) H') ∧ (c = false → R (.bool false) H')) ∧ (¬n = 0 → R (.bool false) H')) ∧ (¬n_1 = 0 → R (.bool false) H')) :
  Ru 10 [] H R :=
  vcr mixed ⟨fun _ => none, fun | 7 => some [] | _ => none⟩ [] (by kernel_rfl) (by kernel_rfl) h
theorem v22 (x0 : List Value) (x1 : Int) (h :
  ∀ H' p, New H x0 27 H' p → ∀ H'_1 p_1, New H' [.int .u64 0, .slice none 0 0, .slice none 0 0] 53 H'_1 p_1 → ∀ H' p_2, New H'_1 [.int .i64 0, .int .i64 0, .int .i64 0, .int .i64 0] 64 H' p_2 → ∃ cs : List Value,
  cs.length = 9 ∧ RdL H' p 0 cs ∧ Ru 9 [.agg cs.toArray] H' fun r H' => ∃ v n, r = .tuple #[v, .int .i64 n] ∧ ∃ (J : Heap → Prop), ((¬n = 0 → 3 = 3 ∧ (∀ v ∈ [.int .u64 0, .slice none 0 0,
  .slice none 0 0], One v) ∧ WOk H' p_1 0 3 ∧ ∀ H'_2, H'_2 = wrL H' p_1 0 [.int .u64 0, .slice none 0 0, .slice none 0 0] → 4 = 4 ∧ (∀ v ∈ [.int .i64 0, .int .i64 0, .int .i64 0, .int .i64 0], One v) ∧
  WOk H'_2 p_2 0 4 ∧ ∀ H', H' = wrL H'_2 p_2 0 [.int .i64 0, .int .i64 0, .int .i64 0, .int .i64 0] → ∃ cs : List Value, cs.length = 3 ∧ RdL H' p_1 0 cs ∧ ∃ cs_1 : List Value, cs_1.length = 4 ∧ RdL H' p_2 0
  cs_1 ∧ R (.tuple #[.agg cs.toArray, .agg cs_1.toArray, .bool false]) H') ∧ (¬¬n = 0 → ∃ a, v = .pointer a ∧ (a = none → 3 = 3 ∧ (∀ (v : Value), v ∈ [.int .u64 0, .slice none 0 0, .slice none 0 0] →
  One v) ∧ WOk H' p_1 0 3 ∧ ∀ H'_2, H'_2 = wrL H' p_1 0 [.int .u64 0, .slice none 0 0, .slice none 0 0] → 4 = 4 ∧ (∀ v ∈ [.int .i64 0, .int .i64 0, .int .i64 0, .int .i64 0], One v) ∧ WOk H'_2 p_2 0 4 ∧
  ∀ H', H' = wrL H'_2 p_2 0 [.int .i64 0, .int .i64 0, .int .i64 0, .int .i64 0] → ∃ cs : List Value, cs.length = 3 ∧ RdL H' p_1 0 cs ∧ ∃ cs_1 : List Value, cs_1.length = 4 ∧ RdL H' p_2 0 cs_1 ∧ R (.tuple
  #[.agg cs.toArray, .agg cs_1.toArray, .bool false]) H') ∧ (¬a = none → J H'))) ∧ ∀ H, J H → Ru 17 [v] H fun r H' => ∃ n n_1, r = .tuple #[.int .i64 n, .int .i64 n_1] ∧ ∃ (J : Int → Heap → Prop), (∃ (I : Int
  → Int → Heap → Prop), ∃ (μ : Int → Int → Heap → Nat), I n_1 (1 : Int) H' ∧ ∀ H n n_2, I n n_2 H → ∃ (J_1 : Heap → Prop), ((n = 0 → Ru 11 [v] H fun r H' => ∃ c, r = .bool c ∧ (c = true → I64 (x1 + (1 : Int)) ∧ (n_2
  ≤ x1 + (1 : Int) → J_1 H') ∧ (¬n_2 ≤ x1 + (1 : Int) → J n H')) ∧ (c = false → J n H')) ∧ (¬n = 0 → J n H)) ∧ ∀ H_1, J_1 H_1 → Ru 14 [v, .bool (decide (n_2 ≤ x1))] H_1 fun r H' => ∃ n_3, r = .int .i64 n_3 ∧ (¬n_3 =
  (0 : Int) → 3 = 3 ∧ (∀ v ∈ [.int .u64 0, .slice none 0 0, .slice none 0 0], One v) ∧ WOk H' p_1 0 3 ∧ ∀ H'_2, H'_2 = wrL H' p_1 0 [.int .u64 0, .slice none 0 0, .slice none 0 0] → 4 = 4 ∧ (∀ (v : Value),
  v ∈ [.int .i64 0, .int .i64 0, .int .i64 0, .int .i64 0] → One v) ∧ WOk H'_2 p_2 0 4 ∧ ∀ H', H' = wrL H'_2 p_2 0 [.int .i64 0, .int .i64 0, .int .i64 0, .int .i64 0] → ∃ cs : List Value, cs.length = 3 ∧ RdL H'
  p_1 0 cs ∧ ∃ cs_1 : List Value, cs_1.length = 4 ∧ RdL H' p_2 0 cs_1 ∧ R (.tuple #[.agg cs.toArray, .agg cs_1.toArray, .bool false]) H') ∧ (¬¬n_3 = 0 → Ru 17 [v] H' fun r H' => ∃ n_4 n_5, r =
  .tuple #[.int .i64 n_4, .int .i64 n_5] ∧ I64 (n_2 + (1 : Int)) ∧ I n_5 (n_2 + (1 : Int)) H' ∧ μ n_5 (n_2 + (1 : Int)) H' < μ n n_2 H)) ∧ ∀ H n, J n H → Ru 18 [v] H fun r H' => ∃ cs : List Value, cs.length = 3 ∧ ∃
  n_2, r = .tuple #[.agg cs.toArray, .int .i64 n_2] ∧ ∀ H'_2 p, New H' [.int .u64 0, .slice none 0 0, .slice none 0 0] 53 H'_2 p → cs.length = 3 ∧ (∀ v ∈ cs, One v) ∧ WOk H'_2 p 0 3 ∧ ∀ H', H' =
  wrL H'_2 p 0 cs → ∃ cs : List Value, cs.length = 3 ∧ RdL H' p 0 cs ∧ Ru 42 [v] H' fun r H' => ∃ cs_1 : List Value, cs_1.length = 4 ∧ r = .agg cs_1.toArray ∧ RdL H' p 0 cs ∧ (n = 0 → (n_2 = (0
  : Int) → Ru 31 [v] H' fun r H' => ∃ c, r = .bool c ∧ RdL H' p 0 cs ∧ cs.length = 3 ∧ (∀ v ∈ cs, One v) ∧ WOk H' p_1 0 3 ∧ ∀ H'_3, H'_3 = wrL H' p_1 0 cs → cs_1.length = 4 ∧ (∀ v ∈   cs_1, One v) ∧ WOk H'_3 p_2 0 4 ∧ ∀ H', H' = wrL H'_3 p_2 0 cs_1 → ∃ cs : List Value, cs.length = 3 ∧ RdL H' p_1 0 cs ∧ ∃ cs_2 : List Value, cs_2.length = 4 ∧ RdL H' p_2 0 cs_2 ∧ R (.tuple #[.agg
  cs.toArray, .agg cs_2.toArray, .bool c]) H') ∧ (¬n_2 = 0 → cs.length = 3 ∧ (∀ v ∈ cs, One v) ∧ WOk H' p_1 0 3 ∧ ∀ H'_3, H'_3 = wrL H' p_1 0 cs → cs_1.length = 4 ∧ (∀ (v :
  Value), v ∈ cs_1 → One v) ∧ WOk H'_3 p_2 0 4 ∧ ∀ H', H' = wrL H'_3 p_2 0 cs_1 → ∃ cs : List Value, cs.length = 3 ∧ RdL H' p_1 0 cs ∧ ∃ cs_2 : List Value, cs_2.length = 4 ∧ RdL H' p_2 0 cs_2 ∧ R (.tuple
  #[.agg cs.toArray, .agg cs_2.toArray, .bool false]) H')) ∧ (¬n = 0 → cs.length = 3 ∧ (∀ v ∈ cs, One v) ∧ WOk H' p_1 0 3 ∧ ∀ H'_3, H'_3 = wrL H' p_1 0 cs → cs_1.length = 4 ∧
  (∀ v ∈ cs_1, One v) ∧ WOk H'_3 p_2 0 4 ∧ ∀ H', H' = wrL H'_3 p_2 0 cs_1 → ∃ cs : List Value, cs.length = 3 ∧ RdL H' p_1 0 cs ∧ ∃ cs_2 : List Value, cs_2.length = 4 ∧ RdL H' p_2 0 cs_2 ∧ R
  (.tuple #[.agg cs.toArray, .agg cs_2.toArray, .bool false]) H')) :
  Ru 22 [.agg x0.toArray, .int .i64 x1] H R :=
  vcr mixed ⟨fun | 6 => some [(10, .int .i64), (11, .int .i64)] | _ => none, fun | 4 => some [] | 8 => some [] | 11 => some [(10, .int .i64)] | _ => none⟩ [.agg x0, .int .i64 x1] (by kernel_rfl) (by kernel_rfl) h
theorem v51  (h :
  ∀ H' p, New H [.int .i64 0, .slice none 0 0, .slice none 0 0, .int .i64 0, .slice none 0 0, .int .i64 0, .slice none 0 0, .int .i64 0, .int .i64 0] 27 H' p → ∀ H'_1 q, New H' [.int .u64 5] 51 H'_1 q → ∀ H' q_1, New H'_1
  [.int .u64 2] 51 H' q_1 → 5 = 5 ∧ ∀ H'_2 q_2, New H' [.int .i64 1, .int .i64 0, .int .i64 0, .int .i64 2, .int .u64 0] 74 H'_2 q_2 → (List.length (α := Value) [.int .i64 3, .slice (some ⟨q_2, 0, none⟩) 1 1] = 2 ∧ 2 = 2) ∧
  List.length (α := Value) [.int .i64 1, .slice (some ⟨q, 0, none⟩) 1 1, .slice (some ⟨q_1, 0, none⟩) 1 1, .int .i64 3, .slice (some ⟨q_2, 0, none⟩) 1 1, .int .i64 2, .slice none 0 0, .int .i64 3, .int .i64 100] = 9 ∧ (∀ (v
  : Value), v ∈ [.int .i64 1, .slice (some ⟨q, 0, none⟩) 1 1, .slice (some ⟨q_1, 0, none⟩) 1 1, .int .i64 3, .slice (some ⟨q_2, 0, none⟩) 1 1, .int .i64 2, .slice none 0 0, .int .i64 3, .int .i64 100] → One v) ∧ WOk H'_2
  p 0 9 ∧ ∀ H', H' = wrL H'_2 p 0 [.int .i64 1, .slice (some ⟨q, 0, none⟩) 1 1, .slice (some ⟨q_1, 0, none⟩) 1 1, .int .i64 3, .slice (some ⟨q_2, 0, none⟩) 1 1, .int .i64 2, .slice none 0 0, .int .i64 3, .int .i64 100] → ∃
  (cs : List Value), cs.length = 9 ∧ RdL H' p 0 cs ∧ R (.agg cs.toArray) H') :
  Ru 51 [] H R :=
  vcr mixed nn [] (by kernel_rfl) (by kernel_rfl) h
end Go.VC
namespace Go.VC
open Go Go.Proofs
def ops4 : List Op := [⟨3, 2, 0, 0, 0⟩, ⟨1, 0, 0, 2, 0⟩, ⟨5, 2, 0, 0, 9223372036854775808⟩, ⟨3, 0, 0, 2, 0⟩]
def tree4 : Tree := .op ⟨3, 2, 0, 0, 0⟩ (.op ⟨1, 0, 0, 2, 0⟩ (.op ⟨5, 2, 0, 0, 9223372036854775808⟩ (.op ⟨3, 0, 0, 2, 0⟩ .nil)))
def hw : Hdr := ⟨1, [5], [2], ⟨3, []⟩, ⟨3, ops4⟩, 3, 100⟩
theorem good_none : GoodP hw.step .nil := ⟨⟨by decide, by decide, by decide⟩, ⟨by decide, by decide, by decide⟩, trivial, rfl, by decide, trivial, by decide⟩
theorem good_four : GoodP hw.loss tree4 := ⟨⟨by decide, by decide, by decide⟩, ⟨by decide, by decide, by decide⟩, ⟨by decide, by decide, by decide, by decide, by decide, by decide, by decide, by decide, trivial⟩, rfl, by decide, trivial, by decide⟩
theorem plan_hw : PlanOk hw := by
  have hl : (wr_ hw.loss : Int) = 4 := by rw [wr_eq good_four]; rfl
  have hs : (wr_ hw.step : Int) = 0 := by rw [wr_eq good_none]; rfl
  refine ⟨⟨by decide, ⟨_, good_none⟩, ⟨_, good_four⟩, by unfold dimsOk; decide, by unfold lenOk; decide, by decide⟩, ?_⟩
  have e1 : fixedOf hw = 13 := by
    unfold fixedOf partsOf
    simp only [hw]
    decide
  have e2 : tapeOf hw = 4 := by
    show (if hw.mode = 3 then (wr_ hw.loss : Int) else (wr_ hw.step : Int) + wr_ hw.loss) = 4
    rw [hl, hs]; rfl
  have e3 : slotOf hw = 2 := by
    show (if hw.mode = 3 then (wr_ hw.step : Int) + hw.step.regs else (hw.x.length : Int) + 1) = 2
    rw [hs]; rfl
  rw [e1, e2, e3]; decide
theorem unr_none : unr hw.step = [] := unr_eq good_none
theorem unr_four : unr hw.loss = ops4 := unr_eq good_four
theorem st_hw : ∀ t, st hw t = [5]
  | 0 => rfl
  | t + 1 => by
    rw [st, st_hw t, stepOut, unr_none]
    rfl
theorem loss_hw : lossOf hw 3 = 0 := by
  rw [lossOf, st_hw, lossOut, unr_four]; decide
theorem grad_hw : ∀ k, grad hw 3 k = ([9223372036854775808], [0])
  | 0 => by
    simp only [grad, pullLoss, lossTape, lossOut, st_hw, unr_four]
    decide
  | k + 1 => by
    have ih := grad_hw k
    simp only [grad, ih, pullStep, stepTape, stepOut, st_hw, unr_none]
    rfl
theorem ERun.l {h : Hdr} {ended : Bool} {d tags d' tags'} (r : ERun h ended d tags d' tags') : d'.l = d.l := by
  induction r with
  | refl => rfl
  | step _ _ _ ih => rw [ih]; rfl
theorem d0_cnt (h : Hdr) (x : Int) : DCnt (d0 h x) 0 := ⟨by simp [d0], by simp [d0], by simp [d0], by simp [d0]⟩
theorem c10 {H : Heap} {R : Value → Heap → Prop} (k : ∀ H', Ext H H' → R (.bool true) H') : Ru 10 [] H R := by
  refine v10 (v51 fun H1 p n1 H2 qx n2 H3 qt n3 => ⟨rfl, fun H4 qo n4 => ⟨⟨rfl, rfl⟩, rfl, ?_, ?_, fun H5 h5 => ?_⟩⟩)
  · intro x hx; simp at hx; rcases hx with rfl | rfl | rfl | rfl | rfl | rfl | rfl | rfl | rfl <;> trivial
  · exact (((n1.own.mod n2.mod (by simp)).mod n3.mod (by simp)).mod n4.mod (by simp)).w 0 9 rfl
  have op := ((n1.own.mod n2.mod (by simp)).mod n3.mod (by simp)).mod n4.mod (by simp)
  have e5 : Ext H H5 := (((n1.mod.new n2).new n3).new n4).trans_new (wrLM h5) (by have := n1.ge; simpa using this)
  have ox : Own H5 qx [.int .u64 5] := ((n2.own.mod n3.mod (by simp)).mod n4.mod (by simp)).mod (wrLM h5) (by have := n1.lt; have := n2.ge; simp; omega)
  have ot : Own H5 qt [.int .u64 2] := (n3.own.mod n4.mod (by simp)).mod (wrLM h5) (by have := n1.lt; have := n2.mod.1; have := n3.ge; simp; omega)
  refine ⟨[.int .i64 1, .slice (some ⟨qx, 0, none⟩) 1 1, .slice (some ⟨qt, 0, none⟩) 1 1, .int .i64 3, .slice (some ⟨qo, 0, none⟩) 1 1, .int .i64 2, .slice none 0 0, .int .i64 3, .int .i64 100], rfl, by rw [h5]; exact rdL_wrL op.2, ?_⟩
  refine ⟨[.int .i64 1, .slice (some ⟨qx, 0, none⟩) 1 1, .slice (some ⟨qt, 0, none⟩) 1 1, .int .i64 3, .slice (some ⟨qo, 0, none⟩) 1 1, .int .i64 2, .slice none 0 0, .int .i64 3, .int .i64 100], rfl, rfl, fun H6 s n6 => ⟨rfl, ?_, n6.own.w 0 9 rfl, fun H7 h7 => ⟨rfl, ?_, ?_, fun H8 h8 => ⟨⟨rfl, rfl, rfl, rfl⟩, fun H9 ql n9 => ⟨rfl, ?_, ?_, fun Ha ha => ?_⟩⟩⟩⟩⟩
  · intro x hx; simp at hx; rcases hx with rfl | rfl | rfl | rfl | rfl | rfl | rfl | rfl | rfl <;> trivial
  · intro x hx; simp at hx; rcases hx with rfl | rfl <;> trivial
  · exact (tmpE (cs := [.int .i64 1, .slice (some ⟨qx, 0, none⟩) 1 1, .slice (some ⟨qt, 0, none⟩) 1 1, .int .i64 3, .slice (some ⟨qo, 0, none⟩) 1 1, .int .i64 2, .slice none 0 0, .int .i64 3, .int .i64 100]) n6 rfl h7).2.w 3 2 rfl
  · intro x hx; simp at hx; rcases hx with rfl | rfl <;> trivial
  · obtain ⟨e7, o7⟩ := tmpE (cs := [.int .i64 1, .slice (some ⟨qx, 0, none⟩) 1 1, .slice (some ⟨qt, 0, none⟩) 1 1, .int .i64 3, .slice (some ⟨qo, 0, none⟩) 1 1, .int .i64 2, .slice none 0 0, .int .i64 3, .int .i64 100]) n6 rfl h7
    have o8 := o7.wrL 3 [.int .i64 3, .slice none 0 0] (by simp)
    rw [← h8] at o8
    exact (o8.mod n9.mod (by simp)).w 5 2 rfl
  obtain ⟨e7, o7⟩ := tmpE (cs := [.int .i64 1, .slice (some ⟨qx, 0, none⟩) 1 1, .slice (some ⟨qt, 0, none⟩) 1 1, .int .i64 3, .slice (some ⟨qo, 0, none⟩) 1 1, .int .i64 2, .slice none 0 0, .int .i64 3, .int .i64 100]) n6 rfl h7
  have o8 := o7.wrL 3 [.int .i64 3, .slice none 0 0] (by simp)
  rw [← h8] at o8
  have o9 := o8.mod n9.mod (by simp)
  have oa := o9.wrL 5 [.int .i64 3, .slice (some ⟨ql, 0, none⟩) 4 4] (by simp)
  rw [← ha] at oa
  have s5 : H5.size ≤ s := n6.ge
  have m58 : Ext H5 H8 := e7.trans_new (wrLM h8) (by simpa using s5)
  have m5a : Ext H5 Ha := (m58.new n9).trans_new (wrLM ha) (by simpa using s5)
  have hsq : s ≠ ql := by have := n6.lt; have := n9.ge; have : H8.size = H6.size := by rw [h8, h7, wrL_size, wrL_size]
                          omega
  have ol : Own Ha ql (opsC ops4) := n9.own.mod (wrLM ha) (by simpa using Ne.symm hsq)
  have e0a := e5.thenExt m5a
  let P : HAt := ⟨some ⟨qx, 0, none⟩, 1, some ⟨qt, 0, none⟩, 1, none, 0, some ⟨ql, 0, none⟩, 4⟩
  have rows : HRows Ha hw P := ⟨⟨rfl, .inr ⟨qx, 0, rfl, (ox.mod m5a (by simp)).1⟩⟩, ⟨rfl, .inr ⟨qt, 0, rfl, (ot.mod m5a (by simp)).1⟩⟩, ⟨rfl, .inl rfl⟩, ⟨rfl, .inr ⟨ql, 0, rfl, ol.1⟩⟩, by decide, by decide, by decide, by decide⟩
  refine ⟨hdrC hw P, rfl, oa.1, c9 hw P rows (fun hp Hb be b eng _ hbe hbl eb _ => ⟨_, _, rfl, ?_⟩) fun n _ _ hn _ => (hn plan_hw).elim⟩
  have eng := eng (by decide)
  refine ⟨fun H' => H' = Hb, ⟨fun h => (h rfl).elim, fun _ => ⟨_, rfl, fun h => by simp at h, fun _ => rfl⟩⟩, ?_⟩
  intro Hb' hb'; subst hb'
  have hm1 : hw.mode = 1 := rfl
  have hmu := offM_bound (off_first hp hm1)
  have hl3 : (d0 hw (fixedOf hw)).l = 3 := rfl
  rw [hl3] at hmu
  refine c17 eng (.inl hm1) (off_inv hm1 false) (off_first hp hm1) (B := 0) (d0_cnt _ _) (by rw [hl3]; omega) (by omega) fun n d' tags' s' Hc hnone hinv hrun engc mc => ⟨_, _, rfl, ?_⟩
  have hpend : d'.pend = 0 := off_end hm1 hinv hnone
  have hdl : d'.l = 3 := hrun.l
  have low : ∀ x ∈ [b.d, b.m, b.w], Ha.size ≤ x := by
    intro x hx; simp at hx
    rename_i di _ _
    rcases hx with rfl | rfl | rfl
    · exact di.d
    · exact di.m
    · exact di.w
  have e0c : Ext H Hc := (e0a.thenExt eb).trans_new mc (fun x hx => .inr (Nat.le_trans e0a.1 (low x hx)))
  obtain ⟨g1, g2, g3⟩ := engc.sem.gr (by omega)
  rw [hdl, hpend] at g1 g2
  rw [hdl] at g3
  have g1' : s'.ax = [9223372036854775808] := by rw [g1]; exact congrArg Prod.fst (grad_hw _)
  have g2' : s'.ag = [0] := by rw [g2]; exact congrArg Prod.snd (grad_hw _)
  have g3' : d'.loss = 0 := by rw [g3]; exact loss_hw
  refine c18 engc hpend fun Hd a1 c1 a2 c2 rx rt ed => ⟨_, rfl, _, rfl, fun He pe ne => ⟨rfl, ?_, ne.own.w 0 3 rfl, fun Hf hf => ⟨fun _ => ⟨fun _ => ?_, fun h => (h rfl).elim⟩, fun h => (h rfl).elim⟩⟩⟩
  · intro x hx; simp at hx; rcases hx with rfl | rfl | rfl <;> trivial
  obtain ⟨ef, of⟩ := tmpE (cs := [.int .u64 (d'.loss.toNat : Int), .slice a1 (nX hw) c1, .slice a2 (nT hw) c2]) ne rfl hf
  have ecf := ed.thenExt ef
  refine c31 (engc.ext ecf) (.inl hm1) fun Hg eg => ⟨_, rfl, fun _ => ?_, fun h => by rw [hnone, hpend] at h; simp at h⟩
  refine ⟨_, rfl, eg.rdL (by simp) of.1, fun Hh q1 nh Hi q2 ni => ?_⟩
  have efi := (eg.new nh).new ni
  rw [g3']
  rw [g1'] at rx
  rw [g2'] at rt
  refine c20 (w := 0) (x := [9223372036854775808]) (y := [0]) (Ext.row (ef.thenExt efi) rx) (Ext.row (ef.thenExt efi) rt) ⟨rfl, .inr ⟨q1, 0, rfl, ni.mod.rdL (by simp) nh.rdL⟩⟩ ⟨rfl, .inr ⟨q2, 0, rfl, ni.rdL⟩⟩ (by decide) (by decide) fun Hj ej => ⟨_, rfl, k Hj (((e0c.thenExt ecf).thenExt efi).thenExt ej)⟩
end Go.VC
namespace Go.VC
open Go Go.Proofs
theorem bwd_back : ∀ (us : List Op) (r adj : List UInt64), (∀ o ∈ us, RegOk r.length o) → (bwd (us.zip (taped us r)).reverse (fwd us r, adj)).1 = r
  | [], r, adj, _ => rfl
  | o :: us, r, adj, h => by
    have ih := bwd_back us (wStep o r) adj fun x hx => by rw [wStep_length]; exact h x (List.mem_cons_of_mem _ hx)
    obtain ⟨r1, r2, _⟩ := h o (List.mem_cons_self ..)
    simp only [taped, fwd, List.zip_cons_cons, List.reverse_cons, bwd_append]
    show (bStep o (rg r o.d) (bwd (us.zip (taped us (wStep o r))).reverse (fwd us (wStep o r), adj))).1 = r
    simp only [bStep]
    rw [ih]
    unfold wStep
    rw [List.set_set, ← rg_get r1 r2, List.set_getElem_self]
theorem step_back {h : Hdr} (ok : OkH h) {t : Nat} {x : List UInt64} (hx : x.length = nX h) (adj : List UInt64) : (bwd ((unr h.step).zip (stepTape h t x)).reverse (stepOut h t x, adj)).1 = stepIn h t x := by
  refine bwd_back _ _ _ fun o ho => ?_
  rw [stepIn_length ok.dims hx]
  exact unr_reg ok.step ho
theorem stepIn_take {h : Hdr} {t : Nat} {x : List UInt64} (hx : x.length = nX h) : (stepIn h t x).take (nX h) = x := by
  unfold stepIn padTo
  rw [List.append_assoc, List.append_assoc, List.take_append_of_le_length (by omega), List.take_of_length_le (by omega)]
theorem OwnO.rowT {H : Heap} {b o : Nat} {xs : List UInt64} {l : Nat} (h : OwnO H b o (u64s xs)) (hl : l ≤ xs.length) : RowU H (some ⟨b, o, none⟩) l (xs.take l) := by
  refine ⟨by simp; omega, .inr ⟨b, o, rfl, ?_⟩⟩
  have := rdL_take (k := l) h.1
  simpa [u64s, List.map_take] using this
theorem Own.drop {H : Heap} {b : Nat} {xs : List UInt64} (h : Own H b (u64s xs)) (n : Nat) (hn : n ≤ xs.length) : OwnO H b n (u64s (xs.drop n)) := by
  refine ⟨?_, wok_sub h.2 (by omega) (by simp; omega)⟩
  have := rdL_drop (k := n) h.1
  rw [Nat.zero_add] at this
  simpa [u64s, List.map_drop] using this
theorem slA_own {q m n l : Nat} (h : m < l) : At (slA (some ⟨q, 0, none⟩) m l n) q (m * n) := by
  unfold At slA
  rw [if_neg (by omega)]
  simp only [Option.map_some, Addr.add]
  split
  · rename_i h0; rw [h0]
  · simp
theorem c184o {H : Heap} {R : Value → Heap → Prop} {b : DB} {h : Hdr} {d : DS} {s : PS} {K post : List UInt64} (v : Drv H b h d s K post) {bq c1 c2 w ls lw : Nat} (t : Nat) (x : List UInt64) (hx : x.length = nX h) (hw : w = wr_ h.step) (e1 : ls = nS h) (e2 : lw = w)
    (hq : Own H bq (u64s (stepTape h t x ++ stepOut h t x))) (hdo : DOff h b [bq]) (hsw : 0 ≤ d.sweeps ∧ d.sweeps ≤ 4611686018427387904)
    (k : ∀ H' ad, Drv H' b h { d with sweeps := d.sweeps + 1 } { s with ad := ad, ax := headA h (pullStep h t x s.ax), ag := addL s.ag (restA h (pullStep h t x s.ax)) } K post → OwnO H' bq w (u64s (stepIn h t x)) → Mod [b.d, b.w, bq] H H' → R (.tuple #[]) H') :
    Ru 184 [.pointer (some ⟨b.d, 0, none⟩), .slice (some ⟨bq, w, none⟩) ls c1, .slice (some ⟨bq, 0, none⟩) lw c2] H R := by
  subst e1 e2
  have ok := v.ok.1
  have hlen := v.lens
  obtain ⟨hrs, hrl⟩ := ok_regs ok
  obtain ⟨d1, d2, d3, d4, d5⟩ := ok.dims
  have hsl : (stepOut h t x).length = nS h := stepOut_length ok.dims hx
  have htl : (stepTape h t x).length = lw := by rw [hw, stepTape, taped_length, wr_unr ok.step]
  refine v184 _ _ _ _ _ _ _ _ ⟨_, rfl, v.stepC, _, rfl, v.stepC, c121 v 5 (by omega) fun a c H1 hB e1 => ⟨_, _, _, rfl, (v.ext e1).stepC, (v.ext e1).stepC, ?_⟩⟩
  refine c240 h.step hB.row (by show s.ax.length ≤ _; rw [hlen.ax]; simp only [nX]; omega) hrs fun a2 c2 H2 hB2 e2 => ⟨_, _, _, rfl, ?_⟩
  have e12 := e1.thenExt e2
  have v2 := v.ext e12
  obtain ⟨ba, rfl, hba, oa⟩ := hB2.own (by omega)
  have hpl : (padTo h.step.regs.toNat s.ax).length = h.step.regs.toNat := padTo_length (by rw [hlen.ax]; simp only [nX]; omega)
  have hz := e1.1
  have hq2 := hq.mod e12 (by simp)
  have hreg := hq2.drop lw (by simp; omega)
  rw [List.drop_append_of_le_length (by omega), List.drop_of_length_le (by omega), List.nil_append] at hreg
  have htp := hq2.rowT (l := lw) (by simp; omega)
  rw [List.take_append_of_le_length (by omega), List.take_of_length_le (by omega)] at htp
  have hql : bq < H.size := hq.lt (u64s_ne (by simp; simp only [nS] at hsl; omega))
  have hne : bq ≠ ba := by omega
  refine ⟨v2.stepC, c239o v2 v2.rows.s v2.rows.s1 ok.step (by simp only [nS, nL]; omega) (by simp only [nX, nT]; omega) hsl.symm hpl.symm hreg hsl oa hpl hB2.le htp (by omega) hne (fun _ => off_one (by simpa using hne)) (fun _ b o e hb => by cases e; omega) ?_ hsw fun H3 v3 o3 m3 => ?_⟩
  · have f1 : DOff h b [ba] := v.fresh (by simp; omega)
    exact (hdo.app f1).mono (by simp)
  · rw [step_back ok hx] at o3
    exact k H3 _ v3 o3 ((Mod.ext e12).trans_new m3 (by simp; omega))
theorem over_app {A K C xs : List UInt64} {o : Nat} (h : o + xs.length ≤ K.length) : over (A ++ K ++ C) (A.length + o) xs = A ++ over K o xs ++ C := by
  unfold over
  rw [List.append_assoc A K C, List.take_append, List.drop_append, List.take_of_length_le (by omega), List.drop_of_length_le (by omega)]
  rw [show A.length + o - A.length = o from by omega, show A.length + o + xs.length - A.length = o + xs.length from by omega, List.nil_append]
  rw [List.take_append_of_le_length (by omega), List.drop_append_of_le_length (by omega)]
  simp
noncomputable def keptRow (h : Hdr) (t : Nat) : List UInt64 := stepTape h t (st h t) ++ stepOut h t (st h t)
def Kept (h : Hdr) (S : Nat) (K : List UInt64) (n : Nat) : Prop := ∀ i, i < n → (K.drop (i * S)).take S = keptRow h i
theorem Kept.put {h : Hdr} {S : Nat} {K : List UInt64} {t : Nat} (w : Kept h S K t) (hl : (keptRow h t).length = S) (hk : (t + 1) * S ≤ K.length) : Kept h S (over K (t * S) (keptRow h t)) (t + 1) := by
  intro i hi
  rw [Nat.succ_mul] at hk
  unfold over
  have htl : (K.take (t * S)).length = t * S := by simp; omega
  rcases Nat.lt_or_ge i t with h1 | h1
  · have hm := Nat.mul_le_mul_right S (show i + 1 ≤ t by omega)
    rw [Nat.succ_mul] at hm
    rw [List.append_assoc, List.drop_append_of_le_length (by omega), List.take_append_of_le_length (by simp; omega), List.drop_take, List.take_take, show min S (t * S - i * S) = S from by omega]
    exact w i h1
  · have : i = t := by omega
    subst this
    rw [List.append_assoc, List.drop_append, List.drop_of_length_le (by omega), List.nil_append, htl, Nat.sub_self, List.drop_zero, List.take_append_of_le_length (by omega), List.take_of_length_le (by omega)]
theorem Kept.less {h : Hdr} {S : Nat} {K : List UInt64} {n m : Nat} (w : Kept h S K n) (hm : m ≤ n) : Kept h S K m := fun i hi => w i (by omega)
theorem putP_st (s : PS) (xs : List UInt64) (hl : xs.length = s.st.length) : putP s.l 1 xs = ({ s with st := xs } : PS).l := by
  have e1 : s.st.drop xs.length = [] := List.drop_of_length_le (by omega)
  have e3 : putP s.l 1 xs = [s.th, xs ++ s.st.drop xs.length, s.sr, s.lr, s.ad, s.ax, s.ag, s.tp] := rfl
  rw [e3, e1, List.append_nil]; rfl
theorem slot3 {h : Hdr} (hm : h.mode = 3) (ok : OkH h) : slotOf h = ((wr_ h.step + nS h : Nat) : Int) := by
  have hr := (ok_regs ok).1
  have : slotOf h = if h.mode = 3 then (wr_ h.step : Int) + h.step.regs else (h.x.length : Int) + 1 := rfl
  rw [this, if_pos hm]; simp only [nS]; omega
theorem c181 {H : Heap} {R : Value → Heap → Prop} {b : DB} {h : Hdr} {d : DS} {s : PS} {K post : List UInt64} (v : Drv H b h d s K post) (t S : Nat) (hS : slotOf h = S) (ht : t * S ≤ 1048576) (k : R (.int .i64 ((s.l.flatten.length + t * S : Nat) : Int)) H) :
    Ru 181 [.pointer (some ⟨b.d, 0, none⟩), .int .i64 (t : Int)] H R := by
  obtain ⟨bk, o, e, hb, r⟩ := v.place (i := 8) (by omega)
  have hf := v.ar.few
  have hfl : s.l.flatten.length ≤ 1048576 := by simp only [List.length_append] at hf; omega
  have h8 : s.l.take 8 = s.l := rfl
  rw [h8] at r
  refine v181 _ _ _ ⟨_, _, _, by rw [Nat.zero_add]; exact v.rd 13 rfl, bk, o, e, by omega, _, r, _, by rw [Nat.zero_add]; exact v.rd 2 rfl, ?_⟩
  have e2 : (t : Int) * slotOf h = ((t * S : Nat) : Int) := by rw [hS]; push_cast; rfl
  rw [e2]
  refine ⟨by unfold I64; omega, by unfold I64; omega, ?_⟩
  rw [← Int.natCast_add]; exact k
noncomputable def bact (h : Hdr) (d : DS) (k : Int) : DS :=
  if k = 8 then { d with at_ := d.at_ + 1, tapd := d.tapd + 1, live := d.live + slotOf h, peak := max d.peak (d.live + slotOf h) }
  else if k = 5 then { d with pend := d.l, losses := d.losses + 1, sweeps := d.sweeps + 1, loss := lossOf h d.l.toNat, peak := max d.peak (d.live + wr_ h.loss) }
  else { d with pend := d.pend - 1, at_ := d.pend - 1, sweeps := d.sweeps + 1, live := d.live - slotOf h }
def bnext (d : DS) : Option Int := if d.pend < 0 then (if d.at_ < d.l then some 8 else some 5) else if 0 < d.pend then some 9 else none
structure BSem (h : Hdr) (d : DS) (s : PS) (K : List UInt64) : Prop where
  th : s.th = h.th
  st : s.st = st h d.at_.toNat
  l : d.l = h.len
  at0 : 0 ≤ d.at_
  at1 : d.at_ ≤ d.l
  p0 : -1 ≤ d.pend
  p1 : 0 ≤ d.pend → d.at_ = d.pend
  z : d.pend < 0 → s.ag = zeros (nT h)
  gr : 0 ≤ d.pend → s.ax = (grad h d.l.toNat (d.l - d.pend).toNat).1 ∧ s.ag = (grad h d.l.toNat (d.l - d.pend).toNat).2 ∧ d.loss = lossOf h d.l.toNat
  kept : Kept h (wr_ h.step + nS h) K d.at_.toNat
  live : d.live = fixedOf h + slotOf h * d.at_
  pk : d.live ≤ d.peak
  pk2 : d.peak ≤ h.words
theorem base_facts {h : Hdr} (hp : PlanOk h) (hm : h.mode = 3) : slotsOf h = h.len ∧ 0 ≤ h.len ∧ h.len < 65536 ∧ tapeOf h = (wr_ h.loss : Int) ∧ 0 ≤ fixedOf h := by
  have ok := hp.1
  have hl := ok.len
  unfold lenOk at hl
  rw [if_neg (by omega)] at hl
  have h1 : slotsOf h = h.len := by unfold slotsOf; rw [if_pos hm]
  have h2 : tapeOf h = if h.mode = 3 then (wr_ h.loss : Int) else (wr_ h.step : Int) + wr_ h.loss := rfl
  rw [if_pos hm] at h2
  have h7 := small_sum ok 7
  exact ⟨h1, by omega, by omega, h2, h7.1⟩
theorem bact8 (h : Hdr) (d : DS) : bact h d 8 = { d with at_ := d.at_ + 1, tapd := d.tapd + 1, live := d.live + slotOf h, peak := max d.peak (d.live + slotOf h) } := by unfold bact; rw [if_pos rfl]
theorem bact9 (h : Hdr) (d : DS) : bact h d 9 = { d with pend := d.pend - 1, at_ := d.pend - 1, sweeps := d.sweeps + 1, live := d.live - slotOf h } := by unfold bact; rw [if_neg (by omega), if_neg (by omega)]
theorem bsem_tape {h : Hdr} {d : DS} {s s' : PS} {K K' : List UInt64} (sem : BSem h d s K) (hp : d.pend < 0) (hlt : d.at_ < d.l) (hw : d.live + slotOf h ≤ h.words) (h1 : s'.th = h.th) (h2 : s'.st = st h (d.at_ + 1).toNat) (h3 : s'.ag = s.ag)
    (h4 : Kept h (wr_ h.step + nS h) K' (d.at_ + 1).toNat) : BSem h (bact h d 8) s' K' := by
  obtain ⟨sth, sst, sl, at0, at1, p0, p1, sz, sgr, kept, slive, spk, spk2⟩ := sem
  rw [bact8]
  refine ⟨h1, h2, sl, by dsimp only; omega, by dsimp only; omega, p0, fun hp' => by dsimp only at hp'; omega, fun _ => h3.trans (sz hp), fun hp' => by dsimp only at hp'; omega, h4, ?_, by dsimp only; omega, by dsimp only; omega⟩
  dsimp only; rw [Int.mul_add, Int.mul_one]; omega
theorem bsem_back {h : Hdr} {d : DS} {s s' : PS} {K : List UInt64} (sem : BSem h d s K) (hp : 0 < d.pend) (h0 : 0 ≤ slotOf h) (h1 : s'.th = h.th) (h2 : s'.st = st h (d.pend - 1).toNat) (h3 : s'.ax = headA h (pullStep h (d.pend - 1).toNat (st h (d.pend - 1).toNat) s.ax)) (h4 : s'.ag = addL s.ag (restA h (pullStep h (d.pend - 1).toNat (st h (d.pend - 1).toNat) s.ax))) : BSem h (bact h d 9) s' K := by
  obtain ⟨sth, sst, sl, at0, at1, p0, p1, sz, sgr, kept, slive, spk, spk2⟩ := sem
  have hap := p1 (by omega)
  rw [bact9]
  refine ⟨h1, h2, sl, by dsimp only; omega, by dsimp only; omega, by dsimp only; omega, fun _ => rfl, fun hp' => by dsimp only at hp'; omega, fun _ => ?_, kept.less (by dsimp only; omega), ?_, by dsimp only; omega, spk2⟩
  · obtain ⟨g1, g2, g3⟩ := sgr (by omega)
    dsimp only
    have e1 : (d.l - (d.pend - 1)).toNat = (d.l - d.pend).toNat + 1 := by omega
    rw [e1]
    have e2 : d.l.toNat - ((d.l - d.pend).toNat + 1) = (d.pend - 1).toNat := by omega
    refine ⟨?_, ?_, g3⟩
    · simp only [grad]; rw [e2, ← g1]; exact h3
    · simp only [grad]; rw [e2, ← g1, ← g2]; exact h4
  · dsimp only
    rw [slive, hap, Int.mul_sub, Int.mul_one]; omega
theorem c116 {H : Heap} {R : Value → Heap → Prop} {b : DB} {h : Hdr} {d : DS} {s : PS} {K post : List UInt64} (v : Drv H b h d s K post) (hm : h.mode = 3) (sem : BSem h d s K) (cnt : DCnt d 2305843009213693952) {kd : Int} (hk : bnext d = some kd)
    (k : ∀ H' s' K', Drv H' b h (bact h d kd) s' K' post → BSem h (bact h d kd) s' K' → Mod [b.d, b.m, b.w] H H' → R (.int .i64 0) H') : Ru 116 [.pointer (some ⟨b.d, 0, none⟩), .agg (actC kd 0).toArray] H R := by
  have ok := v.ok.1
  obtain ⟨f1, f2, f3, f4, f5⟩ := base_facts v.ok hm
  obtain ⟨sl1, sl2, sl3, sl4⟩ := slots_small v.ok
  have hwd := ok.words
  have hs3 := slot3 hm ok
  have hslot0 : 0 ≤ slotOf h := by rw [hs3]; exact Int.natCast_nonneg _
  have sem' := sem
  obtain ⟨sth, sst, sl, at0, at1, p0, p1, sz, sgr, kept, slive, spk, spk2⟩ := sem
  obtain ⟨cp, ct, cl, cs⟩ := cnt
  obtain ⟨t, hat⟩ : ∃ t : Nat, d.at_ = t := ⟨d.at_.toNat, by omega⟩
  have hatn : d.at_.toNat = t := by omega
  rw [hatn] at sst kept
  have hr := (ok_regs ok).1
  have hd := ok.dims
  obtain ⟨d1, d2, d3, d4, d5⟩ := ok.dims
  have hcases : (kd = 8 ∧ d.pend < 0 ∧ d.at_ < d.l) ∨ (kd = 5 ∧ d.pend < 0 ∧ d.at_ = d.l) ∨ (kd = 9 ∧ 0 < d.pend) := by
    unfold bnext at hk
    split at hk
    · split at hk
      · cases hk; exact .inl ⟨rfl, by omega, by omega⟩
      · cases hk; exact .inr (.inl ⟨rfl, by omega, by omega⟩)
    · split at hk
      · cases hk; exact .inr (.inr ⟨rfl, by omega⟩)
      · cases hk
  have hXS : nX h ≤ nS h := by simp only [nX, nS]; omega
  generalize hSS : wr_ h.step + nS h = S at *
  have hkl : (K.length : Int) = S * h.len := by have := v.kl; rw [f1, hs3] at this; exact this
  have hSpos : 1 ≤ S := by simp only [nS] at hSS; omega
  have room : ∀ i : Nat, (i : Int) ≤ h.len → i * S ≤ K.length := by
    intro i hi
    have := Int.mul_le_mul_of_nonneg_left hi (show (0 : Int) ≤ S by omega)
    rw [← hkl] at this
    have e : (S : Int) * i = ((i * S : Nat) : Int) := by push_cast; rw [Int.mul_comm]
    omega
  have hfew := v.ar.few
  have hall : (s.l.flatten ++ K ++ post).length = s.l.flatten.length + K.length + post.length := by simp [Nat.add_assoc]
  have liveb : ∀ i : Nat, (i : Int) ≤ h.len → fixedOf h + slotOf h * i + tapeOf h ≤ h.words := by
    intro i hi
    have := Int.mul_le_mul_of_nonneg_left hi (show (0 : Int) ≤ slotOf h by omega)
    rw [f1] at sl3
    omega
  refine v116 _ _ (actC kd 0) fun H1 p n1 => ⟨fun c H' => H' = H1 ∧ c = decide (kd ≠ 9), ⟨_, n1.rd 0, fun h8 => ⟨rfl, by rw [h8]; rfl⟩, fun h8 => ⟨_, n1.rd 0, rfl, ?_⟩⟩, ?_⟩
  · unfold decP
    by_cases h5 : kd = 5
    · rw [h5]; rfl
    · have : kd = 9 := by omega
      rw [this]; rfl
  rintro H1' c ⟨h1', rfl⟩
  subst h1'
  have v1 := v.ext n1.mod
  refine ⟨fun H' => H' = H1', ⟨fun c H' => H' = H1' ∧ c = false, ⟨_, n1.rd 1, fun hne => (hne rfl).elim, fun _ => ⟨fun hc => ⟨_, n1.rd 0, rfl, ?_⟩, fun _ => ⟨rfl, rfl⟩⟩⟩, ?_⟩, ?_⟩
  · have : kd = 9 := by simpa using hc
    rw [this]; rfl
  · rintro H2 c ⟨h2, rfl⟩
    subst h2
    refine ⟨fun hc => (by cases hc), fun _ => ⟨fun c H' => H' = H2 ∧ c = false, ⟨fun hc => ⟨_, by rw [Nat.zero_add]; exact v1.rd 19 rfl, fun hp => ?_, fun _ => ⟨fun hc' => ?_, fun _ => ⟨rfl, rfl⟩⟩⟩, fun hc => ⟨fun _ => ⟨_, by rw [Nat.zero_add]; exact v1.rd 19 rfl, rfl, ?_⟩, fun hc' => ?_⟩⟩, ?_⟩⟩
    · have : kd ≠ 9 := by simpa using hc
      omega
    · rw [hc] at hc'; cases hc'
    · have : kd = 9 := by simpa using hc
      have : ¬ d.pend < 1 := by omega
      unfold decP; simpa using this
    · rw [hc] at hc'; cases hc'
    · rintro H3 c ⟨h3, rfl⟩
      subst h3
      refine ⟨fun hc => (by cases hc), fun _ => ⟨fun hc => ⟨_, n1.rd 0, _, by rw [Nat.zero_add]; exact v1.rd 18 rfl, _, by rw [Nat.zero_add]; exact v1.rd 17 rfl, fun hn => ?_, fun _ => rfl⟩, fun _ => rfl⟩⟩
      exfalso
      apply hn
      have : kd ≠ 9 := by simpa using hc
      constructor
      · intro h5; have h5' : kd = 5 := h5; omega
      · intro h5; show kd = 5; omega
  intro H2 h2
  subst h2
  have hp1 := n1.ge
  refine ⟨_, n1.rd 0, fun h8 => ?_, fun h8 => ⟨fun h5 => ?_, fun h5 => ?_⟩⟩
  ·
    subst h8
    have hlt : d.at_ < d.l := by omega
    have hpneg : d.pend < 0 := by omega
    have hlb := liveb (t + 1) (by push_cast; omega)
    have hls : d.live + slotOf h ≤ h.words := by
      have e : slotOf h * ((t + 1 : Nat) : Int) = slotOf h * d.at_ + slotOf h := by push_cast; rw [Int.mul_add, Int.mul_one, hat]
      rw [e] at hlb; omega
    have hl0 : 0 ≤ slotOf h * d.at_ := Int.mul_nonneg (by omega) at0
    refine ⟨_, by rw [Nat.zero_add]; exact v1.rd 16 rfl, _, by rw [Nat.zero_add]; exact v1.rd 2 rfl, c108 (slotOf h) v1.met (by omega) (by omega) (by omega) (by omega) fun H3 o3 m3 => ⟨_, rfl, ?_⟩⟩
    have v3 := v1.setM _ _ o3 m3
    refine c180 v3 sth t (by exact hat) (by dsimp only; omega) fun H4 br c1 bt v4 or4 ot4 hne g1 g2 l1 l2 hc m4 => ⟨_, _, _, _, _, _, rfl, _, by rw [Nat.zero_add]; exact v4.rd 14 rfl, _, by rw [Nat.zero_add]; exact v4.rd 18 rfl, ?_⟩
    generalize hs' : ({ s with sr := stepOut h t s.st } : PS) = s' at v4
    rw [sst] at or4 ot4
    have hstl : (st h t).length = nX h := st_length hd _
    have hol : (stepOut h t (st h t)).length = nS h := stepOut_length hd hstl
    have htl : (stepTape h t (st h t)).length = wr_ h.step := by rw [stepTape, taped_length, wr_unr ok.step]
    have hw1 := wr_le ok.step
    have hr1 := room t (by omega)
    have hr2 := room (t + 1) (by push_cast; omega)
    rw [Nat.succ_mul] at hr2
    show Ru 181 [.pointer (some ⟨b.d, 0, none⟩), .int .i64 d.at_] H4 _
    rw [hat]
    refine c181 v4 t S (by rw [hs3]) (by omega) ⟨_, rfl, by rw [Nat.zero_add]; exact v4.rd 14 rfl, u64s (stepOut h t (st h t)), by simp [hol], (or4.rowU hol.symm).2, ?_⟩
    have hz01 := n1.mod.1; have hz3 := m3.1; have hz4 := m4.1
    have hBt : Buf 1 H4 H2.size (some ⟨bt, 0, none⟩) (wr_ h.step) (wr_ h.step) (u64s (stepTape h t (st h t))) := ⟨by simp [htl], Nat.le_refl _, .inr ⟨bt, rfl, by omega, ot4.1, by have := ot4.2; simpa [htl] using this⟩⟩
    refine hBt.app' (by omega) (by simp [hol]) rfl u64s_one (by simp only [nS]; omega) (by simp only [nS]; omega) fun a' c' H5 T hB5 m5 hT _ => ?_
    have hT' : ∀ x ∈ T, H2.size ≤ x := fun x hx => (hT x hx).1
    have dT : DOff h b T := v1.fresh hT'
    have v5 := v4.keep m5 dT
    refine ⟨by rw [Nat.zero_add]; exact v5.rd 14 rfl, ?_⟩
    have hrow5 : RowU H5 a' (wr_ h.step + nS h) (keptRow h t) := by have := hB5.row; rwa [← u64s_append] at this
    have hkl' : (keptRow h t).length = S := by simp [keptRow, htl, hol, hSS]
    have hTr : ∀ x ∈ T, x ≠ br := by intro x hx e; have := (hT x hx).2.2; cases this; omega
    have or5 : Own H5 br (u64s (stepOut h t (st h t))) := or4.mod m5 (fun hx => hTr br hx rfl)
    refine c177 v5.ar (s'.l.flatten.length + t * S) hrow5 (by omega) fun H6 ar6 m6 => ⟨_, rfl, ?_⟩
    rw [over_app (by omega)] at ar6
    have v6 : Drv H6 b h _ s' (over K (t * S) (keptRow h t)) post := v5.setW ar6 m6 rfl (over_length (by omega))
    have hf2 : DOff h b [br] := v1.fresh (by simp; omega)
    have hbw : br ≠ b.w := fun e => hf2.w (by simp [e])
    have or6 := or5.mod m6 (by simpa using hbw)
    have hnx : h.x.length = nX h := rfl
    refine ⟨_, _, _, by rw [Nat.zero_add]; exact v6.rd 5 rfl, ⟨Int.natCast_nonneg _, Int.ofNat_le.2 (Nat.le_trans hXS hc)⟩, ?_⟩
    rw [Int.toNat_natCast]
    have hst' : s'.st.length = nX h := v6.lens.st
    refine c112 v6 1 (by omega) (or6.rowT (l := nX h) (by rw [hol]; exact hXS)) (by show _ ≤ s'.st.length; rw [hst']; exact Nat.le_refl _) fun H7 v7 m7 => ?_
    have ht1 : ((stepOut h t (st h t)).take (nX h)) = st h (t + 1) := rfl
    rw [ht1, putP_st _ _ (by rw [st_length hd, hst'])] at v7
    refine ⟨_, by rw [Nat.zero_add]; exact v7.rd 18 rfl, ⟨by dsimp only; omega, by dsimp only; omega⟩, by rw [Nat.zero_add]; exact v7.top.w 18 1 rfl, fun H8 h8 => ?_⟩
    have o8 := v7.top.wr 18 (.int .i64 (d.at_ + 1))
    rw [Nat.zero_add] at h8
    have h8' : H8 = VC.wr H7 b.d 18 (.int .i64 (d.at_ + 1)) := h8
    rw [← h8'] at o8
    have m8 : Mod [b.d] H7 H8 := by rw [h8]; exact Mod.refl.wr (.inl (by simp))
    have v8 := v7.setD (bact h d 8) (by rw [bact8]; exact o8) m8 (by rw [bact8]) (by rw [bact8])
    refine k H8 _ _ v8 ?_ ?_
    · have e1 : (d.at_ + 1).toNat = t + 1 := by omega
      subst hs'
      refine bsem_tape sem' hpneg hlt hls sth (by rw [e1]) rfl ?_
      rw [e1, hSS]
      exact kept.put hkl' (by rw [Nat.succ_mul]; omega)
    · have mA : Mod [b.d, b.m, b.w] H2 H4 := (m3.mono (by simp)).trans (m4.mono (by simp))
      have mB : Mod [b.d, b.m, b.w] H2 H5 := mA.trans_new m5 fun x hx => .inr (hT' x hx)
      exact (Mod.ext n1.mod).trans (((mB.trans (m6.mono (by simp))).trans (m7.mono (by simp))).trans (m8.mono (by simp)))
  ·
    subst h5
    have hpl : d.pend < 0 ∧ d.at_ = d.l := by omega
    have hlb := liveb t (by omega)
    rw [← hat, ← slive] at hlb
    have hl0 : 0 ≤ slotOf h * d.at_ := Int.mul_nonneg (by omega) at0
    refine c182 v1 sth 0 (by omega) (by omega) (by omega) (by omega) fun H3 lr ad v3 m3 => ⟨_, by rw [Nat.zero_add]; exact v3.rd 17 rfl, by rw [Nat.zero_add]; exact v3.top.w 19 1 rfl, fun H4 h4 => ?_⟩
    have o4 := v3.top.wr 19 (.int .i64 d.l)
    rw [Nat.zero_add] at h4
    have h4' : H4 = VC.wr H3 b.d 19 (.int .i64 d.l) := h4
    rw [← h4'] at o4
    have m4 : Mod [b.d] H3 H4 := by rw [h4]; exact Mod.refl.wr (.inl (by simp))
    have hl : d.l.toNat = t := by omega
    have hb : bact h d 5 = { d with pend := d.l, losses := d.losses + 1, sweeps := d.sweeps + 1, loss := rg (lossOut h s.st) 0, peak := max d.peak (d.live + wr_ h.loss) } := by
      unfold bact; rw [if_neg (by omega), if_pos rfl, hl, sst]; rfl
    have v4 := v3.setD (bact h d 5) (by rw [hb]; exact o4) m4 (by rw [hb]) (by rw [hb])
    refine k H4 _ _ v4 ?_ ((Mod.ext n1.mod).trans (m3.trans (m4.mono (by simp))))
    rw [hb]
    refine ⟨sth, by dsimp only; rw [hatn]; exact sst, sl, at0, at1, by dsimp only; omega, fun _ => by dsimp only; omega, fun hp => by dsimp only at hp; omega, fun _ => ?_, by dsimp only; rw [hatn, hSS]; exact kept, slive, by dsimp only; omega, by dsimp only; omega⟩
    dsimp only
    rw [Int.sub_self, hl, sst, sz hpl.1]
    exact ⟨rfl, rfl, rfl⟩
  ·
    have hk9 : kd = 9 := by omega
    subst hk9
    have hpp : 0 < d.pend := by omega
    have hap := p1 (by omega)
    obtain ⟨t', ht'⟩ : ∃ t' : Nat, t = t' + 1 := ⟨t - 1, by omega⟩
    have hpt : d.pend - 1 = (t' : Int) := by omega
    have hr1 := room t (by omega)
    rw [ht', Nat.succ_mul] at hr1
    refine ⟨_, by rw [Nat.zero_add]; exact v1.rd 19 rfl, ⟨by omega, by omega⟩, by rw [Nat.zero_add]; exact v1.top.w 19 1 rfl, fun H3 h3 => ?_⟩
    have o3 := v1.top.wr 19 (.int .i64 (d.pend - 1))
    rw [Nat.zero_add] at h3
    have h3' : H3 = VC.wr H2 b.d 19 (.int .i64 (d.pend - 1)) := h3
    rw [← h3'] at o3
    have m3 : Mod [b.d] H2 H3 := by rw [h3]; exact Mod.refl.wr (.inl (by simp))
    clear h3 h3'
    have v3 := v1.setD { d with pend := d.pend - 1 } o3 m3 rfl rfl
    refine ⟨_, by rw [Nat.zero_add]; exact v3.rd 19 rfl, by rw [Nat.zero_add]; exact v3.top.w 18 1 rfl, fun H4 h4 => ?_⟩
    have o4 := v3.top.wr 18 (.int .i64 (d.pend - 1))
    rw [Nat.zero_add] at h4
    have h4' : H4 = VC.wr H3 b.d 18 (.int .i64 (d.pend - 1)) := h4
    rw [← h4'] at o4
    have m4 : Mod [b.d] H3 H4 := by rw [h4]; exact Mod.refl.wr (.inl (by simp))
    clear h4 h4'
    have v4 := v3.setD { d with pend := d.pend - 1, at_ := d.pend - 1 } o4 m4 rfl rfl
    refine ⟨_, by rw [Nat.zero_add]; exact v4.rd 14 rfl, _, by rw [Nat.zero_add]; exact v4.rd 18 rfl, _, by rw [Nat.zero_add]; exact v4.rd 2 rfl, ?_⟩
    show Ru 181 [.pointer (some ⟨b.d, 0, none⟩), .int .i64 (d.pend - 1)] H4 _
    rw [hpt] at v4 ⊢
    refine c181 v4 t' S (by rw [hs3]) (by omega) ⟨_, rfl, by rw [Nat.zero_add]; exact v4.rd 2 rfl, by rw [Nat.zero_add]; exact v4.rd 14 rfl, ?_⟩
    rw [hs3]
    have hsum : s.l.flatten.length + t' * S + S ≤ s.l.flatten.length + K.length := by omega
    refine c183 v4.ar (s.l.flatten.length + t' * S) S hsum fun a' c' H5 hB5 e5 => ⟨_, _, _, _, rfl, _, by rw [Nat.zero_add]; exact (v4.ext e5).rd 7 rfl, ?_⟩
    have hmid : (((s.l.flatten ++ K ++ post).drop (s.l.flatten.length + t' * S)).take S) = keptRow h t' := by
      rw [List.append_assoc, List.drop_append, List.drop_of_length_le (by omega), List.nil_append, show s.l.flatten.length + t' * S - s.l.flatten.length = t' * S from by omega, List.drop_append_of_le_length (by omega), List.take_append_of_le_length (by simp; omega)]
      exact kept t' (by omega)
    rw [hmid] at hB5
    obtain ⟨bq, rfl, hbq, oq⟩ := hB5.own (by omega)
    have hcS := hB5.le
    have v5 := v4.ext e5
    have hw1 := wr_le ok.step
    have en : (S : Int) - h.step.regs = ((wr_ h.step : Nat) : Int) := by simp only [nS] at hSS; omega
    have hstl : (st h t').length = nX h := st_length hd _
    rw [en, Int.toNat_natCast]
    have hwS : wr_ h.step < c' := by simp only [nS] at hSS; omega
    have hsA : slA (some ⟨bq, 0, none⟩) (wr_ h.step) c' 1 = some ⟨bq, wr_ h.step, none⟩ := by
      have := slA_own (q := bq) (m := wr_ h.step) (n := 1) (l := c') hwS
      rw [Nat.mul_one] at this; exact this
    rw [hsA]
    refine ⟨⟨by omega, by omega⟩, ⟨by omega, by omega⟩, ⟨by omega, by omega⟩, ?_⟩
    have hqf : DOff h b [bq] := v4.fresh (by simpa using hbq)
    refine c184o v5 t' (st h t') hstl rfl (by omega) rfl oq hqf (by dsimp only; omega) fun H6 ad v6 o6 m6 => ⟨_, _, _, by rw [Nat.zero_add]; exact v6.rd 5 rfl, ⟨by omega, by omega⟩, ⟨⟨by omega, by simp only [nS] at hSS; omega⟩, by omega, by omega⟩, ?_⟩
    have e7 : Int.toNat ((wr_ h.step : Int) + (h.x.length : Int)) - wr_ h.step = nX h := by simp only [nX]; omega
    rw [e7]
    have hrow6 := o6.rowT (l := nX h) (by rw [stepIn_length hd hstl]; simp only [nX, nS]; omega)
    rw [stepIn_take hstl] at hrow6
    have hst6 := v6.lens.st
    refine c112 v6 1 (by omega) hrow6 (by show _ ≤ s.st.length; exact Nat.le_of_eq hst6.symm) fun H7 v7 m7 => ⟨_, by rw [Nat.zero_add]; exact v7.rd 16 rfl, _, by rw [Nat.zero_add]; exact v7.rd 2 rfl, ?_⟩
    rw [putP_st _ _ (by rw [hstl]; exact hst6.symm)] at v7
    have hl1 : slotOf h ≤ slotOf h * d.at_ := by
      have := Int.mul_le_mul_of_nonneg_left (show (1 : Int) ≤ d.at_ by omega) (show 0 ≤ slotOf h by omega)
      rwa [Int.mul_one] at this
    refine c185 (slotOf h) v7.met (by omega) (by dsimp only; omega) (by dsimp only; omega) (by dsimp only; omega) fun H8 o8 m8 => ⟨_, rfl, ?_⟩
    have v8 := v7.setM _ _ o8 m8
    have et : (d.pend - 1).toNat = t' := by omega
    have v8' : Drv H8 b h (bact h d 9) { s with st := st h t', ad := ad, ax := headA h (pullStep h t' (st h t') s.ax), ag := addL s.ag (restA h (pullStep h t' (st h t') s.ax)) } K post := by rw [bact9, hpt]; exact v8
    refine k H8 _ K v8' (bsem_back sem' hpp hslot0 sth (by rw [et]) (by rw [et]) (by rw [et])) ?_
    · have mA : Mod [b.d, b.m, b.w] H2 H5 := ((m3.mono (by simp)).trans (m4.mono (by simp))).thenExt e5
      have hz4 : H2.size ≤ H4.size := Nat.le_trans m3.1 m4.1
      have mB : Mod [b.d, b.m, b.w] H2 H6 := mA.trans_new m6 (by simp; omega)
      exact (Mod.ext n1.mod).trans ((mB.trans (m7.mono (by simp))).trans (m8.mono (by simp)))
end Go.VC
namespace Go.VC
open Go Go.Proofs
def lo (r n c : Nat) : Int := (r : Int) * n - ch (c + r) (c + 1)
def bst : Nat → Nat → Nat → Int
  | 0, n, c => lo 0 n c
  | R + 1, n, c => max (bst R n c) (lo (R + 1) n c)
theorem lo_zero (n c : Nat) : lo 0 n c = 0 := by simp [lo, ch_lt]
theorem lo_le_bst {r R : Nat} (n c : Nat) (h : r ≤ R) : lo r n c ≤ bst R n c := by
  induction h with
  | refl => cases r <;> simp only [bst] <;> omega
  | step h ih => simp only [bst]; omega
theorem bst_is (R n c : Nat) : ∃ r, r ≤ R ∧ bst R n c = lo r n c := by
  induction R with
  | zero => exact ⟨0, Nat.le_refl _, rfl⟩
  | succ R ih =>
    obtain ⟨r, h1, h2⟩ := ih
    simp only [bst]
    rcases Int.le_total (bst R n c) (lo (R + 1) n c) with h | h
    · exact ⟨R + 1, Nat.le_refl _, by omega⟩
    · exact ⟨r, by omega, by omega⟩
theorem bst_nonneg (R n c : Nat) : 0 ≤ bst R n c := by
  have := lo_le_bst n c (Nat.zero_le R); rwa [lo_zero] at this
theorem ch_low (c r : Nat) : r ≤ ch (c + r) (c + 1) := by
  cases r with
  | zero => omega
  | succ r =>
    have := ch_ge (s := c + 1) (r := r) (by omega)
    rw [show c + (r + 1) = c + 1 + r from by omega]; exact this
theorem bst_one (R c : Nat) : bst R 1 c = 0 := by
  obtain ⟨r, _, h⟩ := bst_is R 1 c
  have h0 := bst_nonneg R 1 c
  have hl := ch_low c r
  rw [h] at h0 ⊢
  unfold lo at *
  omega
theorem bst_none (R c : Nat) : bst R 0 c = 0 := by
  obtain ⟨r, _, h⟩ := bst_is R 0 c
  have h0 := bst_nonneg R 0 c
  have hl := ch_low c r
  rw [h] at h0 ⊢
  unfold lo at *
  omega
theorem lo_split (r m n c : Nat) : lo (r + 1) (m + n) (c + 1) = m + lo r m (c + 1) + lo (r + 1) n c := by
  have e : ch (c + 1 + (r + 1)) (c + 1 + 1) = ch (c + (r + 1)) (c + 1) + ch (c + 1 + r) (c + 1 + 1) := by
    rw [show c + 1 + (r + 1) = (c + 1 + r) + 1 from by omega, ch, show c + (r + 1) = c + 1 + r from by omega]
  unfold lo
  rw [e]
  simp only [Int.natCast_add, Int.mul_add, Int.add_mul, Int.natCast_one, Int.one_mul]
  omega
theorem bst_split (R m n c : Nat) : bst R (m + n) (c + 1) ≤ m + bst R m (c + 1) + bst R n c := by
  obtain ⟨r, hr, h⟩ := bst_is R (m + n) (c + 1)
  rw [h]
  cases r with
  | zero => rw [lo_zero]; have := bst_nonneg R m (c + 1); have := bst_nonneg R n c; omega
  | succ r =>
    rw [lo_split]
    have := lo_le_bst m (c + 1) (show r ≤ R by omega)
    have := lo_le_bst n c hr
    omega
theorem lo_mono (r n c : Nat) : lo r n (c + 1) ≤ lo r n c := by
  have : ch (c + r) (c + 1) ≤ ch (c + 1 + r) (c + 1 + 1) := by
    cases r with
    | zero => rw [ch_lt (show c + 0 < c + 1 by omega)]; omega
    | succ r =>
      have := ch_diag r (show c + 1 ≤ c + 1 + 1 by omega)
      rw [show c + (r + 1) = r + (c + 1) from by omega, show c + 1 + (r + 1) = r + (c + 1 + 1) from by omega]; exact this
  unfold lo; omega
theorem bst_mono (R n c : Nat) : bst R n (c + 1) ≤ bst R n c := by
  obtain ⟨r, hr, h⟩ := bst_is R n (c + 1)
  rw [h]
  have := lo_mono r n c
  have := lo_le_bst n c hr
  omega
theorem lo_next (r n c : Nat) : lo (r + 1) n c = lo r n c + n - ch (c + r) c := by
  have e : ch (c + (r + 1)) (c + 1) = ch (c + r) c + ch (c + r) (c + 1) := by rw [show c + (r + 1) = (c + r) + 1 from by omega, ch]
  unfold lo
  rw [e]
  simp only [Int.natCast_add, Int.add_mul, Int.natCast_one, Int.one_mul]
  omega
theorem lo_after {r n c : Nat} (h : n ≤ ch (c + r) c) : ∀ d, lo (r + d) n c ≤ lo r n c
  | 0 => Int.le_refl _
  | d + 1 => by
    have ih := lo_after h d
    have := ch_mono (show c + r ≤ c + (r + d) by omega) c
    rw [← Nat.add_assoc, lo_next]; omega
theorem lo_before {r n c : Nat} (h : r = 0 ∨ ch (c + (r - 1)) c ≤ n) : ∀ d, d ≤ r → lo (r - d) n c ≤ lo r n c
  | 0, _ => Int.le_refl _
  | d + 1, hd => by
    have ih := lo_before h d (by omega)
    have hm := ch_mono (show c + (r - (d + 1)) ≤ c + (r - 1) by omega) c
    have e := lo_next (r - (d + 1)) n c
    rw [show r - (d + 1) + 1 = r - d from by omega] at e
    rcases h with h | h <;> omega
theorem bst_at {r n c : Nat} (R : Nat) (h1 : n ≤ ch (c + r) c) (h2 : r = 0 ∨ ch (c + (r - 1)) c ≤ n) : bst R n c ≤ lo r n c := by
  obtain ⟨q, _, h⟩ := bst_is R n c
  rw [h]
  rcases Nat.le_total q r with hq | hq
  · have := lo_before h2 (r - q) (by omega)
    rwa [show r - (r - q) = q from by omega] at this
  · have := lo_after h1 (q - r)
    rwa [show r + (q - r) = q from by omega] at this
theorem split_bst {R n c : Nat} (hn : 2 ≤ n) (hR : n ≤ R) : (splitOf n (c + 1) : Int) + bst R (splitOf n (c + 1)) (c + 1) + bst R (n - splitOf n (c + 1)) c ≤ bst R n (c + 1) := by
  have hsp := repsOf_spec (l := n) (s := c + 1) (by omega)
  obtain ⟨q, hq⟩ : ∃ q, repsOf n (c + 1) = q + 1 := by
    refine ⟨repsOf n (c + 1) - 1, ?_⟩
    have : repsOf n (c + 1) ≠ 0 := by
      intro e
      have := hsp.enough
      rw [e] at this; simp at this; omega
    omega
  have en := hsp.enough
  have le := hsp.least
  have rl := hsp.le
  rw [hq] at en le rl
  rw [show q + 1 - 1 = q from by omega] at le
  have le' : ch (c + 1 + q) (c + 1) < n := by rcases le with h | h; omega; exact h
  have hm : splitOf n (c + 1) = max 1 (max (ch (c + q) (c + 1)) (n - ch (c + 1 + q) c)) := by
    unfold splitOf
    rw [hq, show c + 1 + (q + 1) - 2 = c + q from by omega, show c + 1 + (q + 1) - 1 = c + 1 + q from by omega, show c + 1 - 1 = c from by omega]
  have p1 : ch (c + 1 + (q + 1)) (c + 1) = ch (c + 1 + q) c + ch (c + 1 + q) (c + 1) := by rw [show c + 1 + (q + 1) = (c + 1 + q) + 1 from by omega, ch]
  have p2 : ch (c + 1 + q) (c + 1) = ch (c + q) c + ch (c + q) (c + 1) := by rw [show c + 1 + q = (c + q) + 1 from by omega, ch]
  have p3 := ch_up (c + q) c
  rw [show c + q + 1 = c + 1 + q from by omega] at p3
  have p4 : 1 ≤ ch (c + q) c := ch_pos (by omega)
  have p5 : 1 ≤ ch (c + 1 + q) (c + 1) := ch_pos (by omega)
  generalize hs : splitOf n (c + 1) = m at *
  have hmn : m ≤ n := by omega
  have b1 : bst R m (c + 1) ≤ lo q m (c + 1) := by
    refine bst_at R (by omega) ?_
    cases q with
    | zero => exact .inl rfl
    | succ q =>
      right
      rw [show c + 1 + (q + 1 - 1) = c + (q + 1) from by omega]; omega
  have b2 : bst R (n - m) c ≤ lo (q + 1) (n - m) c := by
    refine bst_at R ?_ (.inr ?_)
    · rw [show c + (q + 1) = c + 1 + q from by omega]; omega
    · rw [show c + (q + 1 - 1) = c + q from by omega]
      have : m ≤ n - ch (c + q) c := by
        rw [hm]
        omega
      omega
  have b3 := lo_split q m (n - m) c
  rw [show m + (n - m) = n from by omega] at b3
  have b4 := lo_le_bst n (c + 1) (show q + 1 ≤ R by omega)
  omega
end Go.VC
namespace Go.VC
open Go Go.Proofs
noncomputable def cnt (p : Nat → Prop) : Nat → Nat
  | 0 => 0
  | n + 1 => cnt p n + (open Classical in if p n then 1 else 0)
theorem cnt_mono {p q : Nat → Prop} : ∀ N, (∀ j, j < N → p j → q j) → cnt p N ≤ cnt q N
  | 0, _ => Nat.le_refl _
  | n + 1, h => by
    have ih := cnt_mono n fun j hj => h j (by omega)
    have hn := h n (by omega)
    unfold cnt
    by_cases hp : p n
    · rw [if_pos hp, if_pos (hn hp)]; omega
    · rw [if_neg hp]; omega
theorem cnt_more {p q : Nat → Prop} (a : Nat) : ∀ (m N : Nat), (∀ j, j < N → p j → q j ∨ (a ≤ j ∧ j < a + m)) → cnt p N ≤ cnt q N + (min (a + m) N - min a N)
  | m, 0, _ => by simp [cnt]
  | m, n + 1, h => by
    have ih := cnt_more a m n fun j hj => h j (by omega)
    have hn := h n (by omega)
    unfold cnt
    by_cases hp : p n
    · rw [if_pos hp]
      rcases hn hp with hq | ⟨h1, h2⟩
      · rw [if_pos hq]; omega
      · omega
    · rw [if_neg hp]; omega
theorem cnt_less {p q : Nat → Prop} (a m : Nat) : ∀ N, (∀ j, j < N → q j → p j) → (∀ j, j < N → a ≤ j → j < a + m → p j ∧ ¬ q j) → cnt q N + (min (a + m) N - min a N) ≤ cnt p N
  | 0, _, _ => by simp [cnt]
  | n + 1, h1, h2 => by
    have ih := cnt_less a m n (fun j hj => h1 j (by omega)) (fun j hj => h2 j (by omega))
    have hn := h1 n (by omega)
    have hm := h2 n (by omega)
    unfold cnt
    by_cases hq : q n
    · rw [if_pos hq, if_pos (hn hq)]
      have : ¬ (a ≤ n ∧ n < a + m) := fun h => (hm h.1 h.2).2 hq
      omega
    · rw [if_neg hq]
      by_cases hp : p n
      · rw [if_pos hp]; omega
      · have : ¬ (a ≤ n ∧ n < a + m) := fun h => hp (hm h.1 h.2).1
        omega
def segs (R s : Nat) : Nat → List Nat → Int
  | _, [] => 0
  | e, b :: B => bst R (e - b) (s - B.length) + segs R s b B
def Down : Nat → List Nat → Prop
  | _, [] => False
  | e, [b] => b < e ∧ b = 0
  | e, b :: c :: B => b < e ∧ Down b (c :: B)
theorem Down.lt {e b : Nat} {B : List Nat} (h : Down e (b :: B)) : b < e := by cases B <;> exact h.1
theorem Down.all : ∀ {e : Nat} {B : List Nat}, Down e B → ∀ x ∈ B, x < e
  | _, [], h, _, _ => h.elim
  | e, [b], h, x, hx => by simp at hx; subst hx; exact h.1
  | e, b :: c :: B, h, x, hx => by
    rcases List.mem_cons.1 hx with rfl | hx
    · exact h.1
    · have := Down.all h.2 x hx; have := h.1; omega
theorem Down.mono {e e' b : Nat} {B : List Nat} (h : Down e (b :: B)) (h' : b < e') : Down e' (b :: B) := by
  cases B with
  | nil => exact ⟨h', h.2⟩
  | cons c B => exact ⟨h', h.2⟩
theorem Down.cons {e x b : Nat} {B : List Nat} (h : Down x (b :: B)) (hx : x < e) : Down e (x :: b :: B) := ⟨hx, h⟩
theorem segs_drop (R s : Nat) (z x y : Nat) (C : List Nat) : ∀ (A : List Nat) (e : Nat), Down e (A ++ z :: x :: y :: C) → A.length + C.length + 3 ≤ s + 2 → segs R s e (A ++ z :: y :: C) ≤ segs R s e (A ++ z :: x :: y :: C) + (x - y : Nat)
  | [], e, hd, hl => by
    simp only [List.nil_append, segs, List.length_cons]
    obtain ⟨h1, h2, h3⟩ := hd
    have h4 := Down.lt h3
    obtain ⟨c, hc⟩ : ∃ c, s - C.length = c + 1 := ⟨s - C.length - 1, by simp at hl; omega⟩
    have b1 := bst_split R (x - y) (z - x) c
    rw [show x - y + (z - x) = z - y from by omega] at b1
    have b2 : bst R (e - z) (s - (C.length + 1)) ≤ bst R (e - z) (s - (C.length + 1 + 1)) := by
      rcases Nat.lt_or_ge (C.length + 1) s with h | h
      · rw [show s - (C.length + 1) = s - (C.length + 1 + 1) + 1 from by omega]; exact bst_mono _ _ _
      · rw [show s - (C.length + 1) = 0 from by omega, show s - (C.length + 1 + 1) = 0 from by omega]; exact Int.le_refl _
    rw [show s - (C.length + 1) = c from by omega] at b2 ⊢
    rw [hc]
    omega
  | a :: A, e, hd, hl => by
    have ih := segs_drop R s z x y C A a (by
      have : Down e (a :: (A ++ z :: x :: y :: C)) := hd
      cases hA : A ++ z :: x :: y :: C with
      | nil => simp at hA
      | cons b B => rw [hA] at this; exact this.2) (by simp at hl ⊢; omega)
    simp only [List.cons_append, segs]
    have b2 : bst R (e - a) (s - (A ++ z :: y :: C).length) ≤ bst R (e - a) (s - (A ++ z :: x :: y :: C).length) := by
      have e1 : (A ++ z :: x :: y :: C).length = (A ++ z :: y :: C).length + 1 := by simp; omega
      rw [e1]
      rcases Nat.lt_or_ge (A ++ z :: y :: C).length s with h | h
      · rw [show s - (A ++ z :: y :: C).length = s - ((A ++ z :: y :: C).length + 1) + 1 from by omega]; exact bst_mono _ _ _
      · rw [show s - (A ++ z :: y :: C).length = 0 from by omega, show s - ((A ++ z :: y :: C).length + 1) = 0 from by omega]; exact Int.le_refl _
    omega
theorem segs_all (R s e : Nat) : ∀ (z : Nat) (K : List Nat), Down e (z :: K) → K.length ≤ s → bst R e s ≤ z + segs R s e (z :: K)
  | z, [], hd, _ => by
    obtain ⟨h1, rfl⟩ := hd
    simp [segs]
  | z, x :: K, hd, hl => by
    have h2 : Down z (x :: K) := hd.2
    have hx := Down.lt h2
    have ih := segs_all R s e x K (h2.mono (by have := hd.1; omega)) (by simp at hl; omega)
    have hz := hd.1
    simp only [segs, List.length_cons] at ih ⊢
    obtain ⟨c, hc⟩ : ∃ c, s - K.length = c + 1 := ⟨s - K.length - 1, by simp at hl; omega⟩
    have b1 := bst_split R (z - x) (e - z) c
    rw [show z - x + (e - z) = e - x from by omega] at b1
    rw [show s - (K.length + 1) = c from by omega]
    rw [hc] at ih ⊢
    omega
def unsh (I : List Int) (K : List Nat) (j : Nat) : Prop := ∃ k ∈ K, j < k ∧ ∀ i ∈ I, ¬ ((j : Int) < i ∧ i ≤ k)
theorem find_drop (I : List Int) (h0 : (0 : Int) ∈ I) : ∀ (K : List Nat) (z x e : Nat), Down e (z :: x :: K) → (∃ i ∈ I, (x : Int) < i ∧ i ≤ z) → I.countP (fun i => decide (0 ≤ i) && decide (i ≤ (z : Int))) ≤ K.length + 1 →
    ∃ (A : List Nat) (z' x' y' : Nat) (C : List Nat), z :: x :: K = A ++ z' :: x' :: y' :: C ∧ (∃ i ∈ I, (x' : Int) < i ∧ i ≤ z') ∧ ∀ i ∈ I, ¬ ((y' : Int) < i ∧ i ≤ x')
  | K, z, x, e, hd, ⟨i, hi, hi1, hi2⟩, hc => by
    have hx : x < z := Down.lt hd.2
    have hlt : I.countP (fun i => decide (0 ≤ i) && decide (i ≤ (x : Int))) + 1 ≤ I.countP (fun i => decide (0 ≤ i) && decide (i ≤ (z : Int))) := by
      clear hc h0
      induction I with
      | nil => simp at hi
      | cons a I ih =>
        simp only [List.countP_cons]
        have hle : I.countP (fun i => decide (0 ≤ i) && decide (i ≤ (x : Int))) ≤ I.countP (fun i => decide (0 ≤ i) && decide (i ≤ (z : Int))) := by
          refine List.countP_mono_left fun b _ hb => ?_
          simp only [Bool.and_eq_true, decide_eq_true_eq] at hb ⊢; omega
        rcases List.mem_cons.1 hi with rfl | hi
        · have n1 : (decide (0 ≤ i) && decide (i ≤ (x : Int))) = false := by simp; omega
          have n2 : (decide (0 ≤ i) && decide (i ≤ (z : Int))) = true := by simp; omega
          rw [n1, n2]; simp; omega
        · have := ih hi
          by_cases n1 : (decide (0 ≤ a) && decide (a ≤ (x : Int))) = true
          · have n2 : (decide (0 ≤ a) && decide (a ≤ (z : Int))) = true := by simp only [Bool.and_eq_true, decide_eq_true_eq] at n1 ⊢; omega
            rw [if_pos n1, if_pos n2]; omega
          · rw [if_neg n1]; omega
    match K, hd, hc with
    | [], hd, hc =>
      have hx0 : x = 0 := hd.2.2
      subst hx0
      have : 0 < I.countP (fun i => decide (0 ≤ i) && decide (i ≤ ((0 : Nat) : Int))) := List.countP_pos_iff.2 ⟨0, h0, by simp⟩
      simp at hc
      omega
    | y :: K, hd, hc =>
      by_cases hy : ∃ i ∈ I, (y : Int) < i ∧ i ≤ x
      · obtain ⟨A, z', x', y', C, h1, h2, h3⟩ := find_drop I h0 K x y z hd.2 hy (by simp at hc; omega)
        exact ⟨z :: A, z', x', y', C, by rw [h1]; rfl, h2, h3⟩
      · exact ⟨[], z, x, y, K, rfl, ⟨i, hi, hi1, hi2⟩, fun j hj hh => hy ⟨j, hj, hh⟩⟩
theorem Down.drop {z x y : Nat} {C : List Nat} : ∀ {A : List Nat} {e : Nat}, Down e (A ++ z :: x :: y :: C) → Down e (A ++ z :: y :: C)
  | [], e, h => by
    obtain ⟨h1, h2, h3⟩ := h
    exact ⟨h1, h3.mono (by have := Down.lt h3; omega)⟩
  | [a], e, h => ⟨h.1, Down.drop (A := []) h.2⟩
  | a :: b :: A, e, h => ⟨h.1, Down.drop (A := b :: A) h.2⟩
def KOk (K : List Nat) (e s : Nat) : Prop := (e = 0 ∧ K = []) ∨ (0 < e ∧ Down e K ∧ K.length ≤ s + 1)
def infoOf (m : MS1) : List Int := m.at_ :: m.tags
def endN (m : MS1) : Nat := (if m.pend < 0 then m.l else m.pend).toNat
inductive MRun : MS1 → List (Int × Int) → MS1 → Prop
  | nil (m) : MRun m [] m
  | cons {m k n m' acs m''} : mstep m k n = some m' → MRun m' acs m'' → MRun m ((k, n) :: acs) m''
theorem unsh_info {I I' : List Int} {K : List Nat} {j : Nat} (h : ∀ i ∈ I', (0 : Int) ≤ i → i ∈ I) (hu : unsh I K j) : unsh I' K j := by
  obtain ⟨k, hk, h1, h2⟩ := hu
  exact ⟨k, hk, h1, fun i hi hh => h2 i (h i hi (by omega)) hh⟩
theorem mem_set_le {l : List Int} {k : Nat} {v x : Int} (h : x ∈ l.set k v) : x ∈ l ∨ x = v := List.mem_or_eq_of_mem_set h
theorem low_left (R N : Nat) {m m' : MS1} {acs : List (Int × Int)} (r : MRun m acs m') : MOk m → m'.pend = 0 → m.l ≤ N →
    (0 < endN m → (0 : Int) ∈ infoOf m) ∧ ∃ K, KOk K (endN m) m.tags.length ∧ (cnt (unsh (infoOf m) K) N : Int) + segs R m.tags.length (endN m) K + m.total ≤ m'.total := by
  induction r with
  | nil m =>
    intro ok hp _
    have he : endN m = 0 := by unfold endN; rw [if_neg (by omega)]; omega
    refine ⟨fun h => by omega, [], .inl ⟨he, rfl⟩, ?_⟩
    have : cnt (unsh (infoOf m) []) N ≤ 0 := by
      have h1 : cnt (unsh (infoOf m) []) N ≤ cnt (fun _ => False) N := cnt_mono N fun j _ ⟨k, hk, _⟩ => by simp at hk
      have h2 : ∀ N, cnt (fun _ => False) N = 0 := by intro N; induction N with
        | zero => rfl
        | succ n ih => unfold cnt; rw [ih]; simp
      rw [h2] at h1; exact h1
    simp [segs]; omega
  | @cons m k n m1 acs m2 hs r ih =>
    intro ok hp hN
    have ok1 := mstep_ok ok hs
    obtain ⟨hl, ht⟩ := mstep_l hs
    obtain ⟨hz, K, hK, hcost⟩ := ih ok1 hp (by omega)
    obtain ⟨l0, l1, at0, at1, p0, p1, tg, few⟩ := ok
    have same : endN m1 = endN m → m1.total = m.total → (∀ i ∈ infoOf m1, (0 : Int) ≤ i → i ∈ infoOf m) → _ := fun e1 e2 e3 => by
      have hu : cnt (unsh (infoOf m) K) N ≤ cnt (unsh (infoOf m1) K) N := cnt_mono N fun j _ hj => unsh_info e3 hj
      rw [e1, ht, e2] at hcost
      exact (⟨fun h => e3 _ (hz (by omega)) (Int.le_refl _), K, by rw [← e1, ← ht]; exact hK, by omega⟩ : (0 < endN m → (0 : Int) ∈ infoOf m) ∧ ∃ K, KOk K (endN m) m.tags.length ∧ (cnt (unsh (infoOf m) K) N : Int) + segs R m.tags.length (endN m) K + m.total ≤ m2.total)
    rcases mstep_inv hs with ⟨-, n1, n2, n3, rfl⟩ | ⟨-, n1, n2, n3, rfl⟩ | ⟨-, n1, n2, n3, rfl⟩ | ⟨-, n1, n2, n3, rfl⟩ | ⟨-, n1, n2, n3, rfl⟩ | ⟨-, n1, n2, n3, rfl⟩ | ⟨-, n1, n2, n3, rfl⟩
    ·
      have hu : cnt (unsh (infoOf m) K) N ≤ cnt (unsh (infoOf { m with at_ := m.at_ + n, total := m.total + n }) K) N + n.toNat := by
        have key := cnt_more (p := unsh (infoOf m) K) (q := unsh (infoOf { m with at_ := m.at_ + n, total := m.total + n }) K) m.at_.toNat n.toNat N ?_
        · omega
        intro j _ hj
        by_cases hin : m.at_.toNat ≤ j ∧ j < m.at_.toNat + n.toNat
        · exact .inr hin
        · left
          obtain ⟨k, hk, h1, h2⟩ := hj
          refine ⟨k, hk, h1, fun i hi hh => ?_⟩
          rcases List.mem_cons.1 hi with rfl | hi
          · dsimp only at hh
            have := h2 m.at_ (List.mem_cons_self ..)
            omega
          · exact h2 i (List.mem_cons_of_mem _ hi) hh
      refine ⟨fun h => ?_, K, hK, ?_⟩
      · rcases List.mem_cons.1 (hz h) with h' | h'
        · dsimp only at h'; omega
        · exact List.mem_cons_of_mem _ h'
      · have e : endN { m with at_ := m.at_ + n, total := m.total + n } = endN m := rfl
        rw [e] at hcost
        dsimp only at hcost
        omega
    ·
      refine same rfl rfl fun i hi _ => ?_
      rcases List.mem_cons.1 hi with rfl | hi
      · exact List.mem_cons_self ..
      · rcases mem_set_le hi with h | rfl
        · exact List.mem_cons_of_mem _ h
        · exact List.mem_cons_self ..
    ·
      refine same rfl rfl fun i hi _ => ?_
      rcases List.mem_cons.1 hi with rfl | hi
      · exact List.mem_cons_of_mem _ (tagAt_mem n1 n2)
      · exact List.mem_cons_of_mem _ hi
    ·
      refine same rfl rfl fun i hi h0 => ?_
      rcases List.mem_cons.1 hi with rfl | hi
      · exact List.mem_cons_self ..
      · rcases mem_set_le hi with h | rfl
        · exact List.mem_cons_of_mem _ h
        · omega
    ·
      refine same ?_ rfl fun i hi _ => hi
      unfold endN
      dsimp only
      rw [if_neg (by omega), if_pos (by omega)]; omega
    all_goals
      have he : endN m = m.at_.toNat + 1 := by
        unfold endN
        split <;> omega
      have he1 : endN { m with pend := m.at_ } = m.at_.toNat := by
        unfold endN; dsimp only; rw [if_neg (by omega)]
      have hI : infoOf { m with pend := m.at_ } = infoOf m := rfl
      rw [he1] at hz hK hcost
      rw [hI] at hz hcost
      dsimp only at hK hcost
      have hat : m.at_ ∈ infoOf m := List.mem_cons_self ..
      have hsub : cnt (unsh (infoOf m) (m.at_.toNat :: K)) N ≤ cnt (unsh (infoOf m) K) N := by
        refine cnt_mono N fun j _ hj => ?_
        obtain ⟨k, hk, h1, h2⟩ := hj
        rcases List.mem_cons.1 hk with rfl | hk
        · exact absurd ⟨by omega, by omega⟩ (h2 _ hat)
        · exact ⟨k, hk, h1, h2⟩
      have hsg : segs R m.tags.length (m.at_.toNat + 1) (m.at_.toNat :: K) = segs R m.tags.length m.at_.toNat K := by
        simp only [segs]
        rw [show m.at_.toNat + 1 - m.at_.toNat = 1 from by omega, bst_one]; omega
      refine ⟨fun _ => ?_, ?_⟩
      · rcases Nat.eq_zero_or_pos m.at_.toNat with h | h
        · have : m.at_ = 0 := by omega
          rw [this] at hat; exact hat
        · exact hz h
      rw [he]
      rcases hK with ⟨h0, rfl⟩ | ⟨h0, hd, hlen⟩
      · refine ⟨[m.at_.toNat], .inr ⟨by omega, ⟨by omega, h0⟩, by simp⟩, ?_⟩
        rw [hsg]; omega
      · obtain ⟨x, K, rfl⟩ : ∃ x K', K = x :: K' := by
          cases K with
          | nil => exact hd.elim
          | cons x K => exact ⟨x, K, rfl⟩
        have hd1 : Down (m.at_.toNat + 1) (m.at_.toNat :: x :: K) := ⟨by omega, hd⟩
        rcases Nat.lt_or_ge K.length m.tags.length with hk | hk
        · refine ⟨_, .inr ⟨by omega, hd1, by simp; omega⟩, ?_⟩
          rw [hsg]; omega
        · have hkl : K.length = m.tags.length := by simp at hlen; omega
          have hx := Down.lt hd
          obtain ⟨A, z', x', y', C, q1, ⟨i, hi, hi1, hi2⟩, q3⟩ := find_drop (infoOf m) (hz h0) K m.at_.toNat x _ hd1 ⟨_, hat, by omega, by omega⟩ (by
            refine Nat.le_trans List.countP_le_length ?_
            simp [infoOf]; omega)
          rw [q1] at hd1 hsub hsg
          have hql : A.length + C.length + 3 = K.length + 2 := by
            have := congrArg List.length q1
            simp at this; omega
          have hdd : x' < z' ∧ y' < x' ∧ z' ≤ m.at_.toNat := by
            have hz' : z' ≤ m.at_.toNat := by
              have : z' ∈ m.at_.toNat :: x :: K := by rw [q1]; simp
              rcases List.mem_cons.1 this with h | h
              · omega
              · have := Down.all hd _ h; omega
            have : ∀ (A : List Nat) (e : Nat), Down e (A ++ z' :: x' :: y' :: C) → x' < z' ∧ y' < x' := by
              intro A
              induction A with
              | nil => intro e h; exact ⟨h.2.1, Down.lt h.2.2⟩
              | cons a A ihA =>
                intro e h
                have h' : Down e (a :: (A ++ z' :: x' :: y' :: C)) := h
                cases hA : A ++ z' :: x' :: y' :: C with
                | nil => simp at hA
                | cons b B => rw [hA] at h'; have h2 := h'.2; rw [← hA] at h2; exact ihA a h2
            have := this A _ hd1
            exact ⟨this.1, this.2, hz'⟩
          obtain ⟨d1, d2, d3⟩ := hdd
          have hsd := segs_drop R m.tags.length z' x' y' C A _ hd1 (by omega)
          have hA : ∀ a ∈ A, z' < a := by
            have : ∀ (A : List Nat) (e : Nat), Down e (A ++ z' :: x' :: y' :: C) → ∀ a ∈ A, z' < a := by
              intro A
              induction A with
              | nil => intro e _ a ha; simp at ha
              | cons b A ihA =>
                intro e h a ha
                have h' : Down e (b :: (A ++ z' :: x' :: y' :: C)) := h
                have h2 : Down b (A ++ z' :: x' :: y' :: C) := by
                  cases hA : A ++ z' :: x' :: y' :: C with
                  | nil => simp at hA
                  | cons c B => rw [hA] at h'; exact h'.2
                rcases List.mem_cons.1 ha with rfl | ha
                · exact Down.all h2 z' (by simp)
                · exact ihA b h2 a ha
            exact this A _ hd1
          have hC : ∀ c ∈ C, c < y' := by
            have : ∀ (A : List Nat) (e : Nat), Down e (A ++ z' :: x' :: y' :: C) → ∀ c ∈ C, c < y' := by
              intro A
              induction A with
              | nil =>
                intro e h c hc
                have h3 : Down x' (y' :: C) := h.2.2
                cases C with
                | nil => simp at hc
                | cons d C => exact Down.all h3.2 c hc
              | cons b A ihA =>
                intro e h
                have h' : Down e (b :: (A ++ z' :: x' :: y' :: C)) := h
                refine ihA b ?_
                cases hA : A ++ z' :: x' :: y' :: C with
                | nil => simp at hA
                | cons c B => rw [hA] at h'; exact h'.2
            exact this A _ hd1
          have hcl := cnt_less (p := unsh (infoOf m) (A ++ z' :: x' :: y' :: C)) (q := unsh (infoOf m) (A ++ z' :: y' :: C)) y' (x' - y') N
            (fun j _ hj => by
              obtain ⟨k, hk, h1, h2⟩ := hj
              refine ⟨k, ?_, h1, h2⟩
              simp only [List.mem_append, List.mem_cons] at hk ⊢
              rcases hk with h | h | h | h
              · exact .inl h
              · exact .inr (.inl h)
              · exact .inr (.inr (.inr (.inl h)))
              · exact .inr (.inr (.inr (.inr h))))
            (fun j _ h1 h2 => by
              refine ⟨⟨x', by simp, by omega, fun i hi hh => q3 i hi ⟨by omega, hh.2⟩⟩, ?_⟩
              rintro ⟨k, hk, k1, k2⟩
              have hzk : z' ≤ k := by
                simp only [List.mem_append, List.mem_cons] at hk
                rcases hk with h | h | h | h
                · have := hA k h; omega
                · omega
                · omega
                · have := hC k h; omega
              exact k2 i hi ⟨by omega, by omega⟩)
          refine ⟨A ++ z' :: y' :: C, .inr ⟨by omega, hd1.drop, by simp; omega⟩, ?_⟩
          have hNN : x' ≤ N := by omega
          rw [show min (y' + (x' - y')) N - min y' N = x' - y' from by omega] at hcl
          omega
theorem low_all (R : Nat) {l s : Nat} {acs : List (Int × Int)} {m' : MS1} (hl : 0 < l) (ok : MOk ⟨0, -1, l, 0, List.replicate s (-1)⟩) (r : MRun ⟨0, -1, l, 0, List.replicate s (-1)⟩ acs m') (hp : m'.pend = 0) : bst R l s ≤ m'.total := by
  obtain ⟨_, K, hK, hc⟩ := low_left R l r ok hp (by simp)
  have he : endN ⟨0, -1, l, 0, List.replicate s (-1)⟩ = l := by unfold endN; simp
  rw [he] at hK hc
  simp only [List.length_replicate] at hK hc
  rcases hK with ⟨h0, _⟩ | ⟨_, hd, hlen⟩
  · omega
  obtain ⟨z, K, rfl⟩ : ∃ x K', K = x :: K' := by
    cases K with
    | nil => exact hd.elim
    | cons x K => exact ⟨x, K, rfl⟩
  have h1 := segs_all R s l z K hd (by simp at hlen; omega)
  have hz := Down.lt hd
  have h2 : z ≤ cnt (unsh (infoOf ⟨0, -1, l, 0, List.replicate s (-1)⟩) (z :: K)) l := by
    have := cnt_less (p := unsh (infoOf ⟨0, -1, l, 0, List.replicate s (-1)⟩) (z :: K)) (q := fun _ => False) 0 z l (fun _ _ h => h.elim) (fun j _ _ hj => ⟨⟨z, by simp, by omega, fun i hi hh => by
      simp only [infoOf, List.mem_cons, List.mem_replicate] at hi
      rcases hi with rfl | ⟨_, rfl⟩ <;> omega⟩, id⟩)
    omega
  omega
end Go.VC
namespace Go.VC
open Go Go.Proofs
theorem split_all {n : Nat} (hn : 2 ≤ n) : splitOf n 1 = n - 1 := by
  have hsp := repsOf_spec (l := n) (s := 1) (by omega)
  have e : ∀ r, ch (1 + r) 1 = 1 + r := fun r => ch_one _
  have en := hsp.enough
  have le := hsp.least
  rw [e] at en le
  have h := split_le (n := n) (c := 1) hn (by omega)
  have hr : 1 ≤ repsOf n 1 := by
    rcases Nat.eq_zero_or_pos (repsOf n 1) with h0 | h0
    · rw [h0] at en; omega
    · exact h0
  unfold splitOf at h ⊢
  rw [show 1 - 1 = 0 from rfl, ch_zero] at h ⊢
  omega
theorem filt_set (p : Int → Bool) : ∀ (l : List Int) (k : Nat) (v : Int), k < l.length → ((l.set k v).filter p).Perm ((if p v then [v] else []) ++ (l.eraseIdx k).filter p)
  | a :: l, 0, v, _ => by
    simp only [List.set_cons_zero, List.eraseIdx_zero, List.tail_cons, List.filter_cons]
    cases p v <;> simp
  | a :: l, k + 1, v, h => by
    have ih := filt_set p l k v (by simpa using h)
    simp only [List.set_cons_succ, List.eraseIdx_cons_succ, List.filter_cons]
    cases p a
    · simpa using ih
    · simp only [if_true]
      exact (ih.cons a).trans List.perm_middle.symm
theorem filt_self (p : Int → Bool) (l : List Int) (k : Nat) (h : k < l.length) : (l.filter p).Perm ((if p l[k] then [l[k]] else []) ++ (l.eraseIdx k).filter p) := by
  have := filt_set p l k l[k] h
  rwa [List.set_getElem_self] at this
def Stk (tags : List Int) (B : List Nat) : Prop := (tags.filter fun t => decide (0 ≤ t)).Perm (B.map fun b : Nat => (b : Int))
theorem gt_get {tags : List Int} {k : Nat} (h : k < tags.length) : gt tags k = tags[k] := by
  unfold gt; rw [List.getD_eq_getElem?_getD, List.getElem?_eq_getElem h]; rfl
theorem Stk.store {tags : List Int} {B : List Nat} (w : Stk tags B) {k : Nat} (hk : k < tags.length) (hn : gt tags k < 0) (x : Nat) : Stk (tags.set k x) (x :: B) := by
  have h1 := filt_set (fun t => decide (0 ≤ t)) tags k x hk
  have h2 := filt_self (fun t => decide (0 ≤ t)) tags k hk
  rw [gt_get hk] at hn
  rw [if_neg (by simpa using hn)] at h2
  rw [if_pos (by simp)] at h1
  simp only [List.nil_append] at h2
  exact h1.trans ((h2.symm.trans w).cons _)
theorem Stk.freed {tags : List Int} {b : Nat} {B : List Nat} (w : Stk tags (b :: B)) {k : Nat} (hk : k < tags.length) (hn : gt tags k = b) : Stk (tags.set k (-1)) B := by
  have h1 := filt_set (fun t => decide (0 ≤ t)) tags k (-1) hk
  have h2 := filt_self (fun t => decide (0 ≤ t)) tags k hk
  rw [gt_get hk] at hn
  rw [if_pos (by simp; omega), hn] at h2
  rw [if_neg (by simp)] at h1
  simp only [List.nil_append] at h1
  exact h1.trans ((h2.symm.trans w).cons_inv)
theorem Stk.len {tags : List Int} {B : List Nat} (w : Stk tags B) : heldN tags = B.length := by
  have := w.length_eq
  rw [List.length_map] at this
  unfold heldN
  rw [List.countP_eq_length_filter]; exact this
theorem Stk.le {tags : List Int} {B : List Nat} (w : Stk tags B) : B.length ≤ tags.length := by rw [← w.len]; exact heldN_le _
theorem stk_nil {tags : List Int} (ht : ∀ t ∈ tags, -1 ≤ t) (w : Stk tags []) : baseOf tags = -1 := by
  refine base_none ht fun j hj => ?_
  have h := w.length_eq
  simp only [List.map_nil, List.length_nil] at h
  have := List.filter_eq_nil_iff.1 (List.length_eq_zero_iff.1 h) _ (gt_mem hj)
  simpa using this
theorem stk_top {tags : List Int} (ht : ∀ t ∈ tags, -1 ≤ t) {e b : Nat} {B : List Nat} (w : Stk tags (b :: B)) (hd : Down e (b :: B)) : baseOf tags = b := by
  have hb : (b : Int) ∈ tags := (List.mem_filter.1 (w.mem_iff.2 (by simp))).1
  obtain ⟨j, hj, e1⟩ := List.getElem_of_mem hb
  refine base_eq ht (by omega) hj (by rw [gt_get hj]; exact e1) fun i hi => ?_
  rcases Int.lt_or_le (gt tags i) 0 with h | h
  · omega
  · have : gt tags i ∈ (b :: B).map fun b : Nat => (b : Int) := w.mem_iff.1 (List.mem_filter.2 ⟨gt_mem hi, by simpa using h⟩)
    obtain ⟨x, hx, e2⟩ := List.mem_map.1 this
    rcases List.mem_cons.1 hx with rfl | hx
    · omega
    · have : Down (b + 1) (b :: B) := hd.mono (by omega)
      cases B with
      | nil => simp at hx
      | cons c B => have := Down.all this.2 x hx; omega
theorem stk_free {tags : List Int} (ht : ∀ t ∈ tags, -1 ≤ t) {B : List Nat} (w : Stk tags B) : (lookF tags).free = tags.length - (B.length : Int) := by
  have h := (seen_of ht).fr
  rw [List.take_length] at h
  have h2 := w.len
  unfold heldN at h2
  have h3 := List.length_eq_countP_add_countP (fun t : Int => decide (0 ≤ t)) (l := tags)
  have h4 : tags.countP (fun t => decide (t < 0)) = tags.countP (fun a => decide ¬ (decide (0 ≤ a) = true)) := by
    congr 1; funext t
    by_cases h : 0 ≤ t
    · simp [h]
    · simp [h]; omega
  rw [h, h4]
  omega
def phi (R s : Nat) (l at_ pend : Int) (tags : List Int) (B : List Nat) : Int :=
  if baseOf tags < at_ ∧ at_ < endOf l pend then segs R s (endOf l pend).toNat (at_.toNat :: B) else segs R s (endOf l pend).toNat B
def Up (R s : Nat) (c l at_ pend total : Int) (tags : List Int) : Prop :=
  tags.length = s ∧ ∃ B, Stk tags B ∧ (B = [] ∨ Down ((endOf l pend).toNat + 1) B) ∧ (B ≠ [] → baseOf tags < at_ → at_ < endOf l pend → at_ = endOf l pend - 1 ∨ 0 < (lookF tags).free) ∧ total + phi R s l at_ pend tags B ≤ c
theorem segs_nonneg (R s : Nat) : ∀ (B : List Nat) (e : Nat), 0 ≤ segs R s e B
  | [], _ => by simp [segs]
  | b :: B, e => by have := segs_nonneg R s B b; have := bst_nonneg R (e - b) (s - B.length); simp only [segs]; omega
theorem Up.le {R s : Nat} {c l at_ pend total : Int} {tags : List Int} (w : Up R s c l at_ pend total tags) : total ≤ c := by
  obtain ⟨_, B, _, _, _, h⟩ := w
  have : 0 ≤ phi R s l at_ pend tags B := by unfold phi; split <;> exact segs_nonneg _ _ _ _
  omega
theorem Up.first (R s : Nat) {l : Int} (h0 : 0 ≤ l) : Up R s (if 0 < l then bst R l.toNat s else 0) l 0 (-1) 0 (List.replicate s (-1)) := by
  have hst : Stk (List.replicate s (-1)) [] := by
    unfold Stk
    rw [List.filter_eq_nil_iff.2 (by intro t ht; rw [List.mem_replicate] at ht; simp [ht.2])]; exact List.Perm.refl _
  refine ⟨by simp, [], hst, .inl rfl, fun h => (h rfl).elim, ?_⟩
  have hb := stk_nil (by intro t ht; rw [List.mem_replicate] at ht; omega) hst
  have he : endOf l (-1) = l := rfl
  unfold phi
  rw [hb, he]
  by_cases hl : 0 < l
  · rw [if_pos hl, if_pos ⟨by omega, hl⟩]
    simp [segs]
  · rw [if_neg hl, if_neg (by omega)]
    simp [segs]
theorem up_step {R s : Nat} {c l at_ pend total : Int} {tags : List Int} {k n : Int} {m : MS1} (hR : l ≤ R) (h : OffInv l at_ pend tags) (u : Up R s c l at_ pend total tags) (hx : revNext l at_ pend tags = some (k, n)) (hs : mstep ⟨at_, pend, l, 0, tags⟩ k n = some m) :
    Up R s c l m.at_ m.pend (if k = 1 then total + n else total) m.tags := by
  obtain ⟨mok, dist, n1, start, has0, top, pos⟩ := h
  have mok1 := mstep_ok mok hs
  have ⟨l0, l1, at0, at1, p0, p1, tg, few⟩ := mok
  dsimp only at l0 l1 at0 at1 p0 p1 tg few
  have tg1 : ∀ t ∈ tags, -1 ≤ t := fun t ht => (tg t ht).1
  have seen := seen_of tg1
  have hb : baseOf tags = (lookF tags).base := rfl
  have he : 0 ≤ endOf l pend ∧ endOf l pend ≤ l := by unfold endOf; split <;> omega
  have hpe : 0 ≤ pend → endOf l pend = pend := by intro hp; unfold endOf; rw [if_neg (by omega)]
  have hne : pend < 0 → endOf l pend = l := by intro hp; unfold endOf; rw [if_pos hp]
  have b0 := seen.b0
  have hs0 := seen.slot0
  have hslot : 0 ≤ baseOf tags → (lookF tags).slot < tags.length ∧ gt tags (lookF tags).slot.toNat = baseOf tags := fun h0 => seen.at_ h0
  obtain ⟨hlen, B, hB, hd, hfr, hc⟩ := u
  have hnil : B = [] → baseOf tags = -1 := fun e => by subst e; exact stk_nil tg1 hB
  have htop : ∀ b B', B = b :: B' → baseOf tags = b ∧ Down ((endOf l pend).toNat + 1) (b :: B') := fun b B' e => by
    subst e
    have hd : Down ((endOf l pend).toNat + 1) (b :: B') := by rcases hd with h | h; cases h; exact h
    exact ⟨stk_top tg1 hB hd, hd⟩
  have hcons : 0 ≤ baseOf tags → ∃ b B', B = b :: B' := fun h0 => by
    cases B with
    | nil => have := hnil rfl; omega
    | cons b B => exact ⟨b, B, rfl⟩
  have hfree := stk_free tg1 hB
  have hble := hB.le
  rw [revNext_eq] at hx
  split at hx
  ·
    rename_i c1
    cases hx
    rcases mstep_inv hs with ⟨hk, _⟩ | ⟨hk, _⟩ | ⟨hk, _⟩ | ⟨-, -, -, -, rfl⟩ | ⟨hk, _⟩ | ⟨hk, _⟩ | ⟨hk, _⟩ <;> try omega
    have hp := hpe c1.1
    have hbe : baseOf tags = pend := by omega
    obtain ⟨b, B', rfl⟩ := hcons (by omega)
    obtain ⟨ht1, ht2⟩ := htop _ _ rfl
    obtain ⟨hsl, hsg⟩ := hslot (by omega)
    have hat : at_ = pend := by rcases pos (by omega) with h1 | h1 <;> omega
    rw [if_neg (by omega)]
    refine ⟨by simpa using hlen, B', hB.freed (by omega) (by rw [hsg]; omega), ?_, fun _ _ h2 => by dsimp only at h2; omega, ?_⟩
    · cases B' with
      | nil => exact .inl rfl
      | cons x B' => exact .inr (ht2.2.mono (by have := Down.lt ht2.2; have := Down.lt ht2; dsimp only; omega))
    · unfold phi at hc ⊢
      rw [if_neg (by omega)] at hc
      rw [if_neg (by dsimp only; omega)]
      have e1 : (endOf l pend).toNat = b := by omega
      simp only [e1, segs, Nat.sub_self, bst_none] at hc ⊢
      omega
  rename_i c1
  split at hx
  · cases hx
  rename_i c2
  split at hx
  ·
    rename_i c3
    cases hx
    rcases mstep_inv hs with ⟨hk, _⟩ | ⟨hk, _⟩ | ⟨hk, _⟩ | ⟨hk, _⟩ | ⟨-, -, -, -, rfl⟩ | ⟨hk, _⟩ | ⟨hk, _⟩ <;> try omega
    have hbn : baseOf tags = -1 := by
      apply Classical.byContradiction
      intro hn
      rcases pos (by omega) with h1 | h1
      · have := hne c3.1; omega
      · omega
    have hl : l = 0 := by rcases start hbn with h1 | h1 <;> omega
    have hBn : B = [] := by
      cases B with
      | nil => rfl
      | cons b B => have := (htop _ _ rfl).1; omega
    subst hBn
    rw [if_neg (by omega)]
    have e1 : endOf l at_ = 0 := by unfold endOf; rw [if_neg (by omega)]; omega
    have e2 := hne c3.1
    refine ⟨hlen, [], hB, .inl rfl, fun h => (h rfl).elim, ?_⟩
    unfold phi at hc ⊢
    dsimp only
    rw [if_neg (by omega)] at hc
    rw [if_neg (by omega)]
    simpa [segs] using hc
  rename_i c3
  split at hx
  ·
    rename_i c4
    have key : (if k = 1 then total + n else total) = total ∧ m = { at_ := at_, pend := at_, l := l, total := 0, tags := tags } := by
      split at hx
      · cases hx
        rcases mstep_inv hs with ⟨hk, _⟩ | ⟨hk, _⟩ | ⟨hk, _⟩ | ⟨hk, _⟩ | ⟨hk, _⟩ | ⟨hk, _⟩ | ⟨-, -, -, -, rfl⟩ <;> try omega
        exact ⟨rfl, rfl⟩
      · cases hx
        rcases mstep_inv hs with ⟨hk, _⟩ | ⟨hk, _⟩ | ⟨hk, _⟩ | ⟨hk, _⟩ | ⟨hk, _⟩ | ⟨-, -, -, -, rfl⟩ | ⟨hk, _⟩ <;> try omega
        exact ⟨rfl, rfl⟩
    obtain ⟨k1, rfl⟩ := key
    rw [k1]
    have e1 : endOf l at_ = at_ := by unfold endOf; rw [if_neg (by omega)]
    have hba : baseOf tags ≤ at_ := by
      rcases Int.lt_or_le (baseOf tags) 0 with h0 | h0
      · omega
      · rcases pos h0 with h1 | h1
        · omega
        · have := hpe h1.1; omega
    refine ⟨hlen, B, hB, ?_, fun _ _ h2 => by dsimp only at h2; omega, ?_⟩
    · cases B with
      | nil => exact .inl rfl
      | cons b B => obtain ⟨t1, t2⟩ := htop _ _ rfl; exact .inr (t2.mono (by dsimp only; rw [e1]; omega))
    · unfold phi at hc ⊢
      dsimp only
      rw [e1, if_neg (by omega)]
      have e3 : (endOf l pend).toNat = at_.toNat + 1 := by omega
      rw [e3] at hc
      split at hc
      · simp only [segs] at hc
        rw [show at_.toNat + 1 - at_.toNat = 1 from by omega, bst_one] at hc
        omega
      · obtain ⟨b, B', rfl⟩ := hcons (by omega)
        have t1 := (htop _ _ rfl).1
        have e4 : at_.toNat = b := by omega
        rw [e4] at hc ⊢
        simp only [segs, Nat.sub_self, bst_none] at hc ⊢
        rw [show b + 1 - b = 1 from by omega, bst_one] at hc
        omega
  rename_i c4
  split at hx
  ·
    rename_i c5
    split at hx
    · cases hx
    rename_i c5'
    cases hx
    rcases mstep_inv hs with ⟨hk, _⟩ | ⟨-, -, q1, q2, rfl⟩ | ⟨hk, _⟩ | ⟨hk, _⟩ | ⟨hk, _⟩ | ⟨hk, _⟩ | ⟨hk, _⟩ <;> try omega
    obtain ⟨ha0, hp1⟩ : at_ = 0 ∧ pend = -1 := by rcases start (by omega) with h1 | h1; exact h1; omega
    have hBn : B = [] := by
      cases B with
      | nil => rfl
      | cons b B => have := (htop _ _ rfl).1; omega
    subst hBn
    rw [if_neg (by omega)]
    have hB' : Stk (tags.set (0 : Int).toNat at_) [0] := by rw [ha0]; exact hB.store (k := 0) (by omega) q2 0
    have hbase := stk_top (e := 1) (fun t ht => (mok1.tg t ht).1) hB' ⟨by omega, rfl⟩
    dsimp only at hbase
    refine ⟨by simpa using hlen, [0], hB', .inr ⟨by omega, rfl⟩, fun _ h1 => by dsimp only at h1; omega, ?_⟩
    unfold phi at hc ⊢
    dsimp only
    rw [if_neg (by omega)]
    rw [if_pos (by omega), ha0] at hc
    exact hc
  rename_i c5
  split at hx
  ·
    rename_i c6
    cases hx
    rcases mstep_inv hs with ⟨hk, _⟩ | ⟨hk, _⟩ | ⟨-, q0, q1, q2, rfl⟩ | ⟨hk, _⟩ | ⟨hk, _⟩ | ⟨hk, _⟩ | ⟨hk, _⟩ <;> try omega
    obtain ⟨hsl, hsg⟩ := hslot (by omega)
    have hta : tagAt ⟨at_, pend, l, 0, tags⟩ (lookF tags).slot = baseOf tags := hsg
    rw [if_neg (by omega)]
    refine ⟨hlen, B, hB, hd, fun _ h1 => by dsimp only at h1; omega, ?_⟩
    unfold phi at hc ⊢
    dsimp only
    rw [if_neg (by omega)] at hc
    rw [if_neg (by omega)]
    exact hc
  rename_i c6
  obtain ⟨b, B', rfl⟩ := hcons (by omega)
  obtain ⟨t1, t2⟩ := htop _ _ rfl
  split at hx
  ·
    rename_i c7
    cases hx
    rcases mstep_inv hs with ⟨hk, _⟩ | ⟨-, q0, q1, q2, rfl⟩ | ⟨hk, _⟩ | ⟨hk, _⟩ | ⟨hk, _⟩ | ⟨hk, _⟩ | ⟨hk, _⟩ <;> try omega
    dsimp only at q1
    rw [if_neg (by omega)]
    have hB' : Stk (tags.set (lookF tags).vac.toNat at_) (at_.toNat :: b :: B') := by
      have := hB.store (k := (lookF tags).vac.toNat) (by omega) q2 at_.toNat
      rwa [Int.toNat_of_nonneg at0] at this
    have hD : Down ((endOf l pend).toNat + 1) (at_.toNat :: b :: B') := ⟨by omega, t2.mono (by omega)⟩
    have hbase := stk_top (fun t ht => (mok1.tg t ht).1) hB' hD
    dsimp only at hbase
    refine ⟨by simpa using hlen, _, hB', .inr hD, fun _ h1 => by dsimp only at h1; omega, ?_⟩
    unfold phi at hc ⊢
    dsimp only
    rw [if_neg (by omega)]
    rw [if_pos (by omega)] at hc
    exact hc
  rename_i c7
  split at hx
  · rename_i c8
    have := hfr (by simp) c8 (by omega)
    omega
  rename_i c8
  cases hx
  rcases mstep_inv hs with ⟨-, -, -, -, rfl⟩ | ⟨hk, _⟩ | ⟨hk, _⟩ | ⟨hk, _⟩ | ⟨hk, _⟩ | ⟨hk, _⟩ | ⟨hk, _⟩ <;> try omega
  have hab : at_ = baseOf tags := by omega
  have hfs : ((lookF tags).free + 1).toNat = s - (B'.length + 1) + 1 := by simp at hble hfree; omega
  have hnn : (endOf l pend - baseOf tags).toNat = (endOf l pend).toNat - b := by omega
  have h2 : 2 ≤ (endOf l pend).toNat - b := by omega
  have hsp := split_le (n := (endOf l pend).toNat - b) (c := s - (B'.length + 1) + 1) h2 (by omega)
  have hbest := split_bst (R := R) (n := (endOf l pend).toNat - b) (c := s - (B'.length + 1)) h2 (by omega)
  have hone : (lookF tags).free = 0 → splitOf ((endOf l pend).toNat - b) (s - (B'.length + 1) + 1) = (endOf l pend).toNat - b - 1 := by
    intro h0
    rw [show s - (B'.length + 1) + 1 = 1 from by omega]; exact split_all h2
  rw [if_pos rfl]
  rw [hfs, hnn]
  generalize splitOf ((endOf l pend).toNat - b) (s - (B'.length + 1) + 1) = q at *
  refine ⟨hlen, b :: B', hB, hd, fun _ _ _ => ?_, ?_⟩
  · rcases Int.lt_or_le 0 (lookF tags).free with h0 | h0
    · exact .inr h0
    · have := hone (by have := seen.f0; omega)
      left; dsimp only; omega
  · unfold phi at hc ⊢
    dsimp only
    rw [if_neg (by omega)] at hc
    rw [if_pos (by omega)]
    simp only [segs, List.length_cons] at hc ⊢
    have e1 : (at_ + (q : Int)).toNat - b = q := by omega
    have e2 : (endOf l pend).toNat - (at_ + (q : Int)).toNat = (endOf l pend).toNat - b - q := by omega
    have e3 : s - B'.length = s - (B'.length + 1) + 1 := by simp at hble; omega
    rw [e1, e2]
    rw [e3] at hc ⊢
    omega
end Go.VC
namespace Go.VC
open Go Go.Proofs
theorem c137 {H : Heap} {R : Value → Heap → Prop} (s : UInt64) (hs : s.toNat < 4294967296) (k : R (.tuple #[.int .u64 ((0 : UInt64).toNat : Int), .int .u64 (s.toNat : Int)]) H) :
    Ru 137 [.int .u64 ((1 : UInt64).toNat : Int), .int .u64 (s.toNat : Int)] H R := by
  have k32 : ((0 : Int) ≤ (32 : Int) ∧ (32 : Int) < (64 : Int)) := by omega
  refine v137 _ _ (v208 _ _ ⟨k32, k32, k32, k32, k32, _, _, rfl, ?_⟩)
  have e1 : UInt64.ofNat (UInt64.toNat 1 / 4294967296) = 0 := by decide
  have e2 : UInt64.ofNat (s.toNat / 4294967296) = 0 := by rw [Nat.div_eq_of_lt hs]; rfl
  have e3 : (1 : UInt64) &&& UInt64.ofNat (nat_lit 4294967295) = 1 := by decide
  have e4 : (s &&& UInt64.ofNat (nat_lit 4294967295)).toNat < 4294967296 := by
    rw [UInt64.toNat_and]
    have : (UInt64.ofNat (nat_lit 4294967295)).toNat = 4294967295 := by decide
    rw [this]
    have := Nat.and_le_right (n := s.toNat) (m := 4294967295)
    omega
  have e5 : UInt64.ofNat (UInt64.toNat (s &&& UInt64.ofNat (nat_lit 4294967295)) / 4294967296) = 0 := by rw [Nat.div_eq_of_lt e4]; rfl
  rw [e1, e2, e3]
  simp only [UInt64.zero_mul, UInt64.mul_zero, UInt64.one_mul, UInt64.zero_add, UInt64.add_zero, e5]
  exact k
theorem c73 {H : Heap} {R : Value → Heap → Prop} {a : Option Addr} {c : Nat} (v : Int) (s : Nat) (hs : s ≤ 1048576) (hr : RowI H a 1 [v])
    (k : ∀ H' a' c', Buf 1 H' H.size a' s c' (i64s (List.replicate s v)) → Ext H H' → R (.slice a' s c') H') : Ru 73 [.slice a 1 c, .int .i64 (s : Int)] H R := by
  have es : UInt64.toNat (UInt64.ofInt (s : Int)) = s := by
    rw [ofInt_nat, UInt64.toNat_ofNat']; omega
  have e1 : UInt64.ofInt ((1 : Nat) : Int) = 1 := by decide
  refine v73 _ _ _ _ ⟨fun h => by omega, fun _ => ?_⟩
  rw [e1]
  refine c137 _ (by rw [es]; omega) ⟨_, _, rfl, fun H' => H' = H, ⟨fun h => by exact absurd h (by decide), fun _ => ⟨fun h => ?_, fun _ => rfl⟩⟩, ?_⟩
  · have h2 := UInt64.lt_iff_toNat_lt.1 h
    rw [es] at h2
    have : (UInt64.ofNat (nat_lit 9223372036854775807)).toNat = 9223372036854775807 := by decide
    omega
  intro H0 h0
  subst h0
  rw [es]
  refine ⟨by omega, ⟨by omega, by omega, by omega, by unfold I64; omega⟩, fun H1 q n1 => ?_⟩
  simp only [Int.toNat_natCast]
  rw [Int.toNat_natCast, rep_i64] at n1
  have o1 := n1.own
  have hfin : ∀ H', Own H' q (i64s (List.replicate s v)) → Ext H1 H' ∨ Mod [q] H1 H' → R (.slice (some ⟨q, 0, none⟩) s s) H' := by
    intro H' o m
    refine k H' _ _ ⟨by simp, Nat.le_refl _, .inr ⟨q, rfl, n1.ge, o.1, by have := o.2; simpa using this⟩⟩ ?_
    rcases m with m | m
    · exact n1.mod.thenExt m
    · exact n1.mod.trans_new m (by simpa using n1.ge)
  have hloop : ∀ (m0 : Nat) (H2 : Heap), m0 ≤ s → (0 < m0 ∨ s = 0) → Own H2 q (i64s (List.replicate m0 v ++ List.replicate (s - m0) 0)) → Mod [q] H1 H2 →
      ∃ (I : Int → Heap → Prop), ∃ (μ : Int → Heap → Nat), I (m0 : Int) H2 ∧ ∀ H n, I n H → (n < (s : Int) → ((0 : Int) ≤ n ∧ n ≤ (s : Int)) ∧ ((0 : Int) ≤ n ∧ n ≤ (s : Int)) ∧ ∃ new, List.length new = min (Int.toNat n) (s - Int.toNat n) ∧ SlL H (some ⟨q, 0, none⟩) new ∧ (new = [] ∧ I64 (n + ((min (Int.toNat n) (s - Int.toNat n) : Nat) : Int)) ∧ I (n + ((min (Int.toNat n) (s - Int.toNat n) : Nat) : Int)) H ∧ μ (n + ((min (Int.toNat n) (s - Int.toNat n) : Nat) : Int)) H < μ n H ∨ ∃ b off, At (slA (some ⟨q, 0, none⟩) (Int.toNat n) s 1) b off ∧ WOk H b off (List.length new) ∧ (∀ (v : Value), v ∈ new → VC.One v) ∧ ∀ H', H' = wrL H b off new → I64 (n + ((min (Int.toNat n) (s - Int.toNat n) : Nat) : Int)) ∧ I (n + ((min (Int.toNat n) (s - Int.toNat n) : Nat) : Int)) H' ∧ μ (n + ((min (Int.toNat n) (s - Int.toNat n) : Nat) : Int)) H' < μ n H)) ∧ (¬n < (s : Int) → R (.slice (some ⟨q, 0, none⟩) s s) H) := by
    intro m0 H2 hm hpos o2 m2
    refine ⟨fun n H' => ∃ i : Nat, n = i ∧ i ≤ s ∧ (0 < i ∨ s = 0) ∧ Own H' q (i64s (List.replicate i v ++ List.replicate (s - i) 0)) ∧ Mod [q] H1 H', fun n _ => (s - n).toNat, ⟨m0, rfl, hm, hpos, o2, m2⟩, ?_⟩
    rintro H3 n ⟨i, rfl, hi, hi0, o3, m3⟩
    refine ⟨fun hlt => ?_, fun hge => ?_⟩
    · rw [Int.toNat_natCast]
      generalize hd : min i (s - i) = d
      refine ⟨by omega, by omega, i64s (List.replicate d v), by simp, .inr ⟨q, 0, rfl, ?_⟩, .inr ⟨q, i, ?_, ?_, i64s_one, fun H4 h4 => ?_⟩⟩
      · have := rdL_take (k := d) o3.1
        have e : (i64s (List.replicate i v ++ List.replicate (s - i) 0)).take d = i64s (List.replicate d v) := by
          simp only [i64s, ← List.map_take]
          rw [List.take_append_of_le_length (by simp; omega), List.take_replicate, show min d i = d from by omega]
        rwa [e] at this
      · have := slA_own (q := q) (m := i) (n := 1) (l := s) (by omega)
        rwa [Nat.mul_one] at this
      · refine wok_sub o3.2 (by omega) ?_
        simp; omega
      · have o4 := o3.wrL i (i64s (List.replicate d v)) (by simp; omega)
        rw [← h4] at o4
        have e : (i64s (List.replicate i v ++ List.replicate (s - i) 0)).take i ++ i64s (List.replicate d v) ++ (i64s (List.replicate i v ++ List.replicate (s - i) 0)).drop (i + (i64s (List.replicate d v)).length) = i64s (List.replicate (i + d) v ++ List.replicate (s - (i + d)) 0) := by
          simp only [i64s, ← List.map_take, ← List.map_drop, ← List.map_append]
          congr 1
          rw [List.take_append_of_le_length (by simp), List.drop_append]
          simp only [List.length_map, List.length_replicate, List.take_replicate, Nat.min_self, List.drop_replicate]
          rw [show i - (i + d) = 0 from by omega, List.replicate_zero, List.nil_append, show s - i - (i + d - i) = s - (i + d) from by omega, List.replicate_append_replicate]
        rw [e] at o4
        have m4 : Mod [q] H1 H4 := by rw [h4]; exact m3.wrL (.inl (by simp))
        exact ⟨by unfold I64; omega, ⟨i + d, by omega, by omega, by omega, o4, m4⟩, by dsimp only; omega⟩
    · have : i = s := by omega
      subst this
      rw [Nat.sub_self, List.replicate_zero, List.append_nil] at o3
      exact hfin H3 o3 (.inr m3)
  generalize hd : min 1 s = d
  refine ⟨i64s (List.replicate d v), by simp, ?_, ?_⟩
  · have hr1 := Ext.row n1.mod hr
    rcases Nat.eq_zero_or_pos d with h0 | h0
    · left; rw [h0]; rfl
    · right
      obtain ⟨b, o, e, hb⟩ := hr1.at (by omega)
      refine ⟨b, o, e, ?_⟩
      rw [show d = 1 from by omega]; exact hb
  · rcases Nat.eq_zero_or_pos s with h0 | h0
    · left
      refine ⟨by rw [show d = 0 from by omega]; rfl, ?_⟩
      refine hloop d H1 (by omega) (.inr h0) ?_ Mod.refl
      rw [show d = 0 from by omega, Nat.sub_zero]; exact o1
    · right
      refine ⟨q, 0, rfl, ?_, i64s_one, fun H2 h2 => ?_⟩
      · refine wok_sub o1.2 (by omega) ?_
        simp; omega
      · have o2 := o1.wrL 0 (i64s (List.replicate d v)) (by simp; omega)
        rw [← h2] at o2
        have e : (i64s (List.replicate s 0)).take 0 ++ i64s (List.replicate d v) ++ (i64s (List.replicate s 0)).drop (0 + (i64s (List.replicate d v)).length) = i64s (List.replicate d v ++ List.replicate (s - d) 0) := by
          simp only [i64s, ← List.map_drop, ← List.map_append, List.take_zero, List.nil_append, List.length_map, List.length_replicate, Nat.zero_add, List.drop_replicate]
        rw [e] at o2
        exact hloop d H2 (by omega) (.inl (by omega)) o2 (by rw [h2]; exact Mod.refl.wrL (.inl (by simp)))
theorem c29 {H : Heap} {R : Value → Heap → Prop} (l s : Int) (hl : 0 ≤ l ∧ l < 65536) (hs : 0 ≤ s ∧ s ≤ 1048576)
    (k : ∀ H' bm a c, Mach H' H.size bm a c ⟨0, -1, l, 0, List.replicate s.toNat (-1)⟩ → Ext H H' → R (.tuple #[.pointer (some ⟨bm, 0, none⟩), .int .i64 0]) H') : Ru 29 [.int .i64 l, .int .i64 s] H R := by
  refine v29 _ _ ⟨fun H' => H' = H, c72 l ⟨_, rfl, fun h => by simp at h; omega, fun _ => ⟨by omega, fun _ => ⟨by omega, fun _ => rfl⟩⟩⟩, ?_⟩
  intro H0 h0
  subst h0
  refine ⟨rfl, fun H1 p n1 H2 q n2 => ?_⟩
  obtain ⟨m, rfl⟩ : ∃ m : Nat, s = m := ⟨s.toNat, by omega⟩
  refine c73 (-1) m (by omega) ⟨rfl, .inr ⟨q, 0, rfl, n2.rdL⟩⟩ fun H3 a c hB e3 => ⟨_, _, _, rfl, ?_, fun H4 h4 => ?_⟩
  · exact ((n1.own.mod n2.mod (by simp)).mod e3 (by simp)).w 4 1 rfl
  have o4 := ((n1.own.mod n2.mod (by simp)).mod e3 (by simp)).wr 4 (.slice a m c)
  rw [← h4] at o4
  have hp : p < H2.size := Nat.lt_of_lt_of_le n1.lt n2.mod.1
  have m4 : Mod [p] H3 H4 := by rw [h4]; exact Mod.refl.wr (.inl (by simp))
  have hpg := n1.ge
  have hB4 : Buf 1 H4 H2.size a m c (i64s (List.replicate m (-1))) := hB.mod m4 (by simpa using hp)
  refine k H4 p a c ⟨?_, hpg, ?_, ?_⟩ ((((n1.mod.new n2)).thenExt e3).trans_new m4 (by simpa using hpg))
  · simpa [machC] using o4
  · simp only [Int.toNat_natCast, List.length_replicate]
    exact hB4.down (by omega)
  · intro hc b e hb
    subst hb
    rcases hB4.ok with h | ⟨b', e', hn, _⟩
    · omega
    · rw [e] at e'; cases e'; omega
def actsC (acs : List (Int × Int)) : List Value := acs.flatMap fun a => actC a.1 a.2
theorem actsC_length (acs : List (Int × Int)) : (actsC acs).length = acs.length * 2 := by
  induction acs with
  | nil => rfl
  | cons a acs ih => simp only [actsC, List.flatMap_cons, List.length_append, List.length_cons] at ih ⊢; rw [ih]; simp [actC]; omega
theorem actsC_rdL {H : Heap} {b : Nat} : ∀ {acs : List (Int × Int)} {o i : Nat}, RdL H b o (actsC acs) → (h : i < acs.length) → RdL H b (o + i * 2) (actC acs[i].1 acs[i].2)
  | a :: acs, o, 0, h, _ => by
    have : actsC (a :: acs) = actC a.1 a.2 ++ actsC acs := rfl
    rw [this, rdL_append] at h
    simpa using h.1
  | a :: acs, o, i + 1, h, hi => by
    have : actsC (a :: acs) = actC a.1 a.2 ++ actsC acs := rfl
    rw [this, rdL_append] at h
    have := actsC_rdL (i := i) h.2 (by simpa using hi)
    have e : o + (actC a.1 a.2).length + i * 2 = o + (i + 1) * 2 := by simp [actC]; omega
    rw [e] at this
    simpa using this
abbrev RowA (H : Heap) (a : Option Addr) (l : Nat) (acs : List (Int × Int)) : Prop := Row 2 H a l (actsC acs)
theorem RowA.len {H : Heap} {a : Option Addr} {l : Nat} {acs : List (Int × Int)} (h : RowA H a l acs) : acs.length = l := by have := h.1; rw [actsC_length] at this; omega
theorem MRun.snoc {m m' m'' : MS1} {acs : List (Int × Int)} {k n : Int} (r : MRun m acs m') (e : mstep m' k n = some m'') : MRun m (acs ++ [(k, n)]) m'' := by
  induction r with
  | nil m => exact .cons e (.nil _)
  | cons a _ ih => exact .cons a (ih e)
theorem c23 {H : Heap} {R : Value → Heap → Prop} (l s : Int) (hl : 0 ≤ l ∧ l < 65536) (hs : 0 ≤ s ∧ s ≤ 1048576) {a : Option Addr} {n c : Nat} {acs : List (Int × Int)} (hr : RowA H a n acs) (hn : n ≤ 17592186044416)
    (k1 : ∀ e n H', e ≠ 0 → Ext H H' → R (.tuple #[.int .i64 0, .int .i64 n, .int .i64 e]) H')
    (k2 : ∀ m n H', MRun ⟨0, -1, l, 0, List.replicate s.toNat (-1)⟩ acs m → m.pend = 0 → Ext H H' → R (.tuple #[.int .i64 m.total, .int .i64 n, .int .i64 0]) H') : Ru 23 [.int .i64 l, .int .i64 s, .slice a n c] H R := by
  have hal := hr.len
  refine v23 _ _ _ _ _ (c29 l s hl hs fun H1 bm am cm hM e1 => ⟨_, _, rfl, fun h => (h rfl).elim, fun _ => ?_⟩)
  have ok0 : MOk ⟨0, -1, l, 0, List.replicate s.toNat (-1)⟩ := ⟨hl.1, hl.2, by simp, hl.1, by simp, by simp only []; omega, fun t ht => by
    simp only [List.mem_replicate] at ht; rw [ht.2]; exact ⟨by omega, by simp only []; omega⟩, by simp; omega⟩
  refine ⟨fun _ e H' => Ext H H' ∧ (e = 0 → ∃ m c', Mach H' H.size bm am c' m ∧ MRun ⟨0, -1, l, 0, List.replicate s.toNat (-1)⟩ acs m), ⟨fun x e y H' => Ext H H' ∧ e = 0 ∧ x = y ∧ ∃ (i : Nat) (m : MS1), y = i ∧ i ≤ n ∧ Mach H' H.size bm am cm m ∧ MOk m ∧ MRun ⟨0, -1, l, 0, List.replicate s.toNat (-1)⟩ (acs.take i) m ∧ 0 ≤ m.total ∧ m.total ≤ 65535 * i, fun _ _ y _ => (n - y).toNat, ⟨e1, rfl, rfl, 0, _, rfl, by omega, hM, ok0, .nil _, by simp, by simp⟩, ?_⟩, ?_⟩
  · rintro H2 x e y ⟨e2, rfl, rfl, i, m, rfl, hi, hM2, ok, run, t0, t1⟩
    refine ⟨fun hlt => ?_, fun hge => ⟨e2, fun _ => ⟨m, cm, hM2, ?_⟩⟩⟩
    · have hin : i < n := by omega
      obtain ⟨b, o, ea, hb⟩ := (Ext.row e2 hr).at (by omega)
      have hcs := actsC_rdL hb (show i < acs.length by omega)
      refine ⟨b, o, ea, by omega, _, rfl, by rw [Int.toNat_natCast]; exact hcs, fun H3 p n3 => ⟨rfl, act_one, n3.own.w 0 2 rfl, fun H4 h4 => ?_⟩⟩
      obtain ⟨e4, o4⟩ := tmpE (cs := actC acs[i].1 acs[i].2) n3 rfl h4
      refine ⟨_, rfl, o4.1, c34 (hM2.ext e4) ok ⟨t0, by omega⟩ _ _ ⟨fun m' H5 hs5 hM5 mm => ⟨0, rfl, fun h => (h rfl).elim, fun _ => ?_⟩, fun e5 H5 hs5 hne hM5 x5 => ⟨e5, rfl, fun _ => ⟨(e2.thenExt e4).thenExt x5, fun h => (hne h).elim⟩, fun h => (h hne).elim⟩⟩⟩
      have htot := mstep_total hs5 ok
      obtain ⟨S, mS, hS⟩ := mm
      have e5 : Ext H H5 := (e2.thenExt e4).trans_new mS fun b hb => .inr (hM5.ge (hS b hb))
      refine ⟨by unfold I64; omega, by unfold I64; omega, ⟨e5, rfl, by omega, i + 1, m', by omega, by omega, hM5, mstep_ok ok hs5, ?_, by omega, by omega⟩, by dsimp only; omega⟩
      rw [List.take_succ_eq_append_getElem (by omega)]
      exact run.snoc hs5
    · have : i = n := by omega
      rw [this, ← hal, List.take_length] at run
      exact run
  · rintro H2 x e ⟨e2, he⟩
    refine ⟨fun hne => k1 e x H2 hne e2, fun h0 => ?_⟩
    obtain ⟨m, c', hM2, run⟩ := he (by omega)
    refine c40 hM2 ⟨_, rfl, fun hp => k1 19 x H2 (by omega) e2, fun hp => c62 hM2 ⟨_, rfl, ?_⟩⟩
    have : m.pend = 0 := by simpa using hp
    exact k2 m x H2 run this e2
end Go.VC
namespace Go.VC
open Go Go.Proofs Go.Proofs.YthenlgnbegeliaaGreat
variable {H : Type} {enc : TypeId × Value → H}
theorem und62 : Tryz.prog.underlying 62 = some (.slice 39) := by kernel_rfl
theorem und39 : Tryz.prog.underlying 39 = some (.struct #[⟨"Kind", 3, 0, false, "", "", 0⟩, ⟨"N", 3, 1, false, "", "", 8⟩]) := by kernel_rfl
theorem cells39 : Tryz.prog.cellsOf 39 = 2 := by kernel_rfl
theorem bytes39 : Tryz.prog.bytesOf 39 = 16 := by kernel_rfl
theorem open_act {w : World} {base : Nat} {sp : Nat → Bool} {held : Bool} {fuel : Nat} {cs : List Value} {x : DataW H × List MemPlace} (h : DataW.trod enc Tryz.prog w base sp held fuel 39 cs = some x) : ∃ o : Int × Int, cs = actC o.1 o.2 := by
  obtain ⟨xs, n, _, _, hl, hxl, hf⟩ := DataW.trod_struct und39 h
  have hl' : cs.length = 2 := hl.trans cells39
  obtain ⟨c0, c1, rfl⟩ : ∃ c0 c1, cs = [c0, c1] := by
    clear hf hl h
    match cs, hl' with
    | [c0, c1], _ => exact ⟨c0, c1, rfl⟩
  have hx : xs.length = 2 := hxl
  have f0 : DataW.trod enc Tryz.prog w base sp held n 3 (([c0, c1].drop 0).take (Tryz.prog.cellsOf 3)) = xs[0]? := hf 0 _ rfl
  have f1 : DataW.trod enc Tryz.prog w base sp held n 3 (([c0, c1].drop 1).take (Tryz.prog.cellsOf 3)) = xs[1]? := hf 1 _ rfl
  rw [cells3, List.getElem?_eq_getElem (by omega)] at f0 f1
  obtain ⟨n0, e0, _, _⟩ := DataW.trod_int und3 f0
  obtain ⟨n1, e1, _, _⟩ := DataW.trod_int und3 f1
  simp at e0 e1
  subst e0 e1
  exact ⟨(n0, n1), rfl⟩
theorem open_acts {w : World} {base : Nat} {sp : Nat → Bool} {held : Bool} {fuel : Nat} {cs : List Value} {x : DataW H × List MemPlace} (h : DataW.trod enc Tryz.prog w base sp held fuel 62 cs = some x) :
    ∃ a l c acs, cs = [.slice a l c] ∧ RowA w.heap a l acs ∧ ((x.1.weights Tryz.prog 62).all (· ≤ reachBytes) = true → l ≤ 17592186044416) := by
  rcases DataW.trod_slice und62 h with ⟨rfl, rfl⟩ | ⟨a, len, cap, elems, rest, n, _, rfl, rfl, _, _, _, hel, hget, _, _⟩
  · exact ⟨none, 0, 0, [], rfl, ⟨rfl, .inl rfl⟩, fun _ => by omega⟩
  · rw [cells39] at hget
    obtain ⟨xs, hx1, hx2⟩ := choose_list (Q := fun i (o : Int × Int) => (i = 0 → a.spot = none) ∧ RdL w.heap a.block (a.off + i * 2) (actC o.1 o.2)) len fun i hi => by
      have h1 := hget i hi
      rw [List.getElem?_eq_getElem (by omega)] at h1
      obtain ⟨cs', hc, ht⟩ := Option.bind_eq_some_iff.1 h1
      obtain ⟨o, rfl⟩ := open_act ht
      obtain ⟨_, hcell⟩ := cells_get hc
      refine ⟨o, fun h0 => ?_, rdL_iff.2 fun j v hj => ?_⟩
      · have := (cellRd (hcell 0 _ rfl)).1; rw [h0, Nat.zero_mul, add_zero', add_zero'] at this; exact this
      · have := (cellRd (hcell j v hj)).2
        rw [add_block, add_block, add_off, add_off] at this; exact this
    refine ⟨some a, len, cap, xs, rfl, ⟨by rw [actsC_length, hx1], ?_⟩, fun hw => ?_⟩
    · rcases Nat.eq_zero_or_pos len with h0 | h0
      · left
        have : xs = [] := List.length_eq_zero_iff.1 (by omega)
        subst this; rfl
      · right
        have hs := (hx2 0 _ (List.getElem?_eq_getElem (show 0 < xs.length by omega))).1 rfl
        refine ⟨a.block, a.off, ?_, ?_⟩
        · obtain ⟨ab, ao, asp⟩ := a
          simp only at hs
          subst hs; rfl
        · have key : ∀ (ys : List (Int × Int)) (o : Nat), (∀ i u, ys[i]? = some u → RdL w.heap a.block (o + i * 2) (actC u.1 u.2)) → RdL w.heap a.block o (actsC ys) := by
            intro ys
            induction ys with
            | nil => intro o _; exact trivial
            | cons y ys ih =>
              intro o hy
              have e : actsC (y :: ys) = actC y.1 y.2 ++ actsC ys := rfl
              rw [e, rdL_append]
              refine ⟨by have := hy 0 y rfl; simpa using this, ih (o + (actC y.1 y.2).length) fun i u hu => ?_⟩
              have := hy (i + 1) u (by simpa using hu)
              rw [show (actC y.1 y.2).length = 2 from rfl, show o + 2 + i * 2 = o + (i + 1) * 2 from by omega]; exact this
          exact key xs a.off fun i u hu => (hx2 i u hu).2
    · simp only [DataW.weights, und62, List.all_cons, Bool.and_eq_true, decide_eq_true_eq, List.length_map, hel, bytes39] at hw
      have := hw.1
      unfold reachBytes at this
      omega
end Go.VC
namespace Go.VC
open Go Go.Proofs
structure Both (H : Heap) (h : Hdr) (A B : DB) (ea eb : Nat) (d : DS) (tags : List Int) (fa fb : Bool) (pa pb : List UInt64) : Prop where
  a : ∃ s, EngS H ea A h d tags fa false s pa
  b : ∃ s, EngS H eb B h d tags fb false s pb
theorem Both.ext {H H' : Heap} {h : Hdr} {A B : DB} {ea eb : Nat} {d : DS} {tags : List Int} {fa fb : Bool} {pa pb : List UInt64} (w : Both H h A B ea eb d tags fa fb pa pb) (e : Ext H H') : Both H' h A B ea eb d tags fa fb pa pb := by
  obtain ⟨⟨s, x⟩, ⟨t, y⟩⟩ := w
  exact ⟨⟨s, x.ext e⟩, ⟨t, y.ext e⟩⟩
structure Ahead (d : DS) (tags : List Int) : Prop where
  pd : d.pend = -1
  inv : AInv d.l d.at_ tags
  cnt : DCnt d (65535 * (4194304 * (d.l + 1) - aM d.l d.at_ tags))
theorem enext_ahead {h : Hdr} (hm : h.mode = 2) {d : DS} {tags : List Int} (hp : d.pend = -1) (ended : Bool) : enext h d tags ended = strideNext d.l ended d.at_ (-1) tags := by
  unfold enext; rw [if_neg (by omega), hp]
theorem Ahead.step {h : Hdr} {d : DS} {tags : List Int} (w : Ahead d tags) {k n : Int} {m : MS1} (hs : mstep (dMS d tags) k n = some m) (hp : m.pend = -1) (hi : AInv d.l m.at_ m.tags) (hM : aM d.l m.at_ m.tags < aM d.l d.at_ tags) : Ahead (dact h d k n m) m.tags := by
  refine ⟨hp, hi, (dcnt_step hs w.cnt).mono ?_⟩
  show 65535 * (4194304 * (d.l + 1) - aM d.l d.at_ tags) + 65535 ≤ 65535 * (4194304 * (d.l + 1) - aM d.l m.at_ m.tags)
  omega
theorem Ahead.more {d : DS} {tags : List Int} (w : Ahead d tags) (hf : AFull d.l d.at_ tags) (hl : d.l < 65535) : Ahead { d with l := d.l + 1 } tags := by
  have h1 := a_more hf hl
  have b1 := aM_bound h1
  have b2 := aM_bound w.inv
  refine ⟨w.pd, h1, ?_⟩
  obtain ⟨p, t, l, s⟩ := w.cnt
  refine DCnt.mono (A := 65535 * (4194304 * (d.l + 1) - aM d.l d.at_ tags)) ⟨p, t, l, s⟩ ?_
  show _ ≤ 65535 * (4194304 * (d.l + 1 + 1) - aM (d.l + 1) d.at_ tags)
  omega
theorem Ahead.first {h : Hdr} (hp : PlanOk h) (hm : h.mode = 2) : Ahead (d0 h (fixedOf h)) (tags0 h) := by
  obtain ⟨h1, h2⟩ := str_first hp hm
  refine ⟨rfl, by rw [h1]; exact h2, (d0_cnt _ _).mono ?_⟩
  have := aM_bound h2
  rw [h1]
  show 0 ≤ 65535 * (4194304 * (0 + 1) - aM 0 0 (tags0 h))
  omega
end Go.VC
namespace Go.VC
open Go Go.Proofs
theorem v120n {H : Heap} {R : Value → Heap → Prop} (h : R (.slice none 0 0) H) : Ru 120 [.pointer none] H R := vcr mixed nn [.nil] (by kernel_rfl) (by kernel_rfl) h
theorem ptr3 {h : Hdr} (hm : h.mode = 3) (b : DB) : slotsPtr h b = .pointer none := by unfold slotsPtr; rw [if_pos hm]
theorem c57b {H : Heap} {R : Value → Heap → Prop} {b : DB} {h : Hdr} {d : DS} {s : PS} {K post : List UInt64} (v : Drv H b h d s K post) (hm : h.mode = 3)
    (k : ∀ H', Ext H H' → R (.agg (spotC d.at_ d.pend none 0 0).toArray) H') : Ru 57 [.pointer (some ⟨b.d, 0, none⟩)] H R := by
  refine v57 _ _ fun H1 p n1 => ?_
  have v1 := v.ext n1.mod
  refine ⟨_, by rw [Nat.zero_add]; exact v1.rd 18 rfl, _, by rw [Nat.zero_add]; exact v1.rd 19 rfl, _, by rw [Nat.zero_add]; exact v1.rd 15 rfl, ?_⟩
  rw [ptr3 hm]
  refine v120n ⟨_, _, _, rfl, by rw [Nat.zero_add]; exact v1.rd 19 rfl, by rw [Nat.zero_add]; exact v1.rd 18 rfl, ?_⟩
  exact cpy (cs := spotC d.at_ d.pend none 0 0) (f := fun cs => .agg cs.toArray) n1.own rfl rfl spot_one n1.mod n1.ge k
structure EngG (H : Heap) (be : Nat) (b : DB) (h : Hdr) (d : DS) (tags : List Int) (ended failed : Bool) (s : PS) (K post : List UInt64) : Prop where
  top : Own H be (engC h b.d ended failed)
  drv : Drv H b h d s K post
  off : DOff h b [be]
  sem : (h.mode ≠ 3 ∧ K = slotsW (nX h) (heldOf h tags) ∧ DSem h d tags s) ∨ (h.mode = 3 ∧ tags = [] ∧ BSem h d s K)
theorem EngS.g {H : Heap} {be : Nat} {b : DB} {h : Hdr} {d : DS} {tags : List Int} {ended failed : Bool} {s : PS} {post : List UInt64} (e : EngS H be b h d tags ended failed s post) (hm : h.mode ≠ 3) : EngG H be b h d tags ended failed s (slotsW (nX h) (heldOf h tags)) post :=
  ⟨e.top, e.drv, e.off, .inl ⟨hm, rfl, e.sem⟩⟩
theorem EngG.s {H : Heap} {be : Nat} {b : DB} {h : Hdr} {d : DS} {tags : List Int} {ended failed : Bool} {s : PS} {K post : List UInt64} (e : EngG H be b h d tags ended failed s K post) (hm : h.mode ≠ 3) : EngS H be b h d tags ended failed s post := by
  obtain ⟨t, dr, o, hs⟩ := e
  rcases hs with ⟨_, rfl, sem⟩ | ⟨h3, _⟩
  · exact ⟨t, dr, sem, o⟩
  · exact (hm h3).elim
theorem EngG.b {H : Heap} {be : Nat} {b : DB} {h : Hdr} {d : DS} {tags : List Int} {ended failed : Bool} {s : PS} {K post : List UInt64} (e : EngG H be b h d tags ended failed s K post) (hm : h.mode = 3) : tags = [] ∧ BSem h d s K := by
  rcases e.sem with ⟨h3, _⟩ | ⟨_, q⟩
  · exact (h3 hm).elim
  · exact q
theorem EngG.keep {S : List Nat} {H H' : Heap} {be : Nat} {b : DB} {h : Hdr} {d : DS} {tags : List Int} {ended failed : Bool} {s : PS} {K post : List UInt64} (e : EngG H be b h d tags ended failed s K post) (m : Mod S H H') (h1 : be ∉ S) (h2 : DOff h b S) : EngG H' be b h d tags ended failed s K post :=
  ⟨e.top.mod m h1, e.drv.keep m h2, e.off, e.sem⟩
theorem EngG.ext {H H' : Heap} {be : Nat} {b : DB} {h : Hdr} {d : DS} {tags : List Int} {ended failed : Bool} {s : PS} {K post : List UInt64} (e : EngG H be b h d tags ended failed s K post) (m : Ext H H') : EngG H' be b h d tags ended failed s K post := e.keep m (by simp) (DOff.nil h b)
theorem EngG.ne {H : Heap} {be : Nat} {b : DB} {h : Hdr} {d : DS} {tags : List Int} {ended failed : Bool} {s : PS} {K post : List UInt64} (e : EngG H be b h d tags ended failed s K post) : be ∉ [b.d, b.m, b.w] := by
  simp; exact ⟨fun h => e.off.d (by simp [h]), fun h => e.off.m (by simp [h]), fun h => e.off.w (by simp [h])⟩
theorem g16 {H : Heap} {R : Value → Heap → Prop} {be : Nat} {b : DB} {h : Hdr} {d : DS} {tags : List Int} {ended failed : Bool} {s : PS} {K post : List UInt64} (e : EngG H be b h d tags ended failed s K post)
    (k : ∀ a c H', Buf 1 H' H.size a tags.length c (i64s tags) → Ext H H' → R (.agg (spotC d.at_ d.pend a tags.length c).toArray) H') : Ru 16 [.pointer (some ⟨be, 0, none⟩)] H R := by
  by_cases hm : h.mode = 3
  · obtain ⟨rfl, sem⟩ := e.b hm
    refine v16 _ _ fun H1 p n1 => c54 (e.ext n1.mod).top (c57b (e.ext n1.mod).drv hm fun H2 e2 => ⟨_, rfl, rfl, ?_⟩)
    have o2 := n1.own.mod e2 (by simp)
    exact cpy (cs := spotC d.at_ d.pend none 0 0) (f := fun cs => .agg cs.toArray) o2 rfl rfl spot_one (n1.mod.thenExt e2) n1.ge fun H' e' => k none 0 H' Buf.nil e'
  · exact c16 (e.s hm) hm k
noncomputable def gnext (h : Hdr) (d : DS) (tags : List Int) (ended : Bool) : Option (Int × Int) :=
  if h.mode = 3 then (bnext d).map fun k => (k, 0) else enext h d tags ended
theorem g13 {H : Heap} {R : Value → Heap → Prop} {be : Nat} {b : DB} {h : Hdr} {d : DS} {tags : List Int} {ended failed : Bool} {s : PS} {K post : List UInt64} (e : EngG H be b h d tags ended failed s K post) (k : R (.int .i64 d.l) H) : Ru 13 [.pointer (some ⟨be, 0, none⟩)] H R := c13 e.top e.drv k
theorem c115 {H : Heap} {R : Value → Heap → Prop} {be : Nat} {b : DB} {h : Hdr} {d : DS} {tags : List Int} {ended failed : Bool} {s : PS} {K post : List UInt64} (e : EngG H be b h d tags ended failed s K post) (hm : h.mode = 3)
    (k : ∀ H', Ext H H' → R (actR ((bnext d).map fun k => (k, 0))) H') : Ru 115 [.pointer (some ⟨be, 0, none⟩)] H R := by
  refine v115 _ _ fun H1 p n1 => g16 (e.ext n1.mod) fun a c H2 hB e2 => ⟨_, rfl, rfl, fun H3 p1 n3 => ⟨rfl, spot_one, n3.own.w 0 3 rfl, fun H4 h4 => ?_⟩⟩
  obtain ⟨e4, o4⟩ := tmpE (cs := spotC d.at_ d.pend a tags.length c) n3 rfl h4
  have e24 := (n1.mod.thenExt e2).thenExt e4
  have op := n1.own.mod (e2.thenExt e4) (by simp)
  have fin : ∀ (kd : Int) (b : Bool), actR ((bnext d).map fun k => (k, 0)) = .tuple #[.agg (actC kd 0).toArray, .bool b] → 2 = 2 ∧ (∀ v ∈ [Value.int .i64 kd, .int .i64 0], One v) ∧ WOk H4 p 0 2 ∧ ∀ H', H' = wrL H4 p 0 [.int .i64 kd, .int .i64 0] → ∃ cs : List Value, cs.length = 2 ∧ RdL H' p 0 cs ∧ R (.tuple #[.agg cs.toArray, .bool b]) H' := by
    intro kd b hb
    refine cpy (cs := [.int .i64 kd, .int .i64 0]) (f := fun cs => .tuple #[.agg cs.toArray, .bool b]) op rfl rfl act_one e24 n1.ge fun H' e' => ?_
    have := k H' e'
    rwa [hb] at this
  refine ⟨_, o4.rd 1 rfl, fun hp => ⟨_, o4.rd 0 rfl, g13 ((e.ext n1.mod).ext (e2.thenExt e4)) ⟨_, rfl, o4.rd 0 rfl, fun hlt => ?_, fun hge => ⟨_, o4.rd 1 rfl, fun _ => ?_, fun h' => (h' hp).elim⟩⟩⟩, fun hp => ⟨_, o4.rd 1 rfl, fun h' => (hp h').elim, fun _ => ⟨_, o4.rd 1 rfl, fun hpos => ?_, fun hpos => ?_⟩⟩⟩
  · exact fin 8 true (by unfold bnext; rw [if_pos hp, if_pos hlt]; rfl)
  · exact fin 5 true (by unfold bnext; rw [if_pos hp, if_neg hge]; rfl)
  · exact fin 9 true (by unfold bnext; rw [if_neg hp, if_pos hpos]; rfl)
  · exact fin 0 false (by unfold bnext; rw [if_neg hp, if_neg hpos]; rfl)
theorem gnextc {H : Heap} {be : Nat} {b : DB} {h : Hdr} {d : DS} {tags : List Int} {ended failed : Bool} {s : PS} {K post : List UInt64} (e : EngG H be b h d tags ended failed s K post) :
    ∃ g, nextF h.mode = .func (.func g) #[] #[] ∧ callable Tryz.prog g = true ∧ ∀ R : Value → Heap → Prop, (∀ H', Ext H H' → R (actR (gnext h d tags ended)) H') → Ru g [.pointer (some ⟨be, 0, none⟩)] H R := by
  have hmo := e.drv.ok.1.mode
  by_cases hm : h.mode = 3
  · refine ⟨115, by unfold nextF; rw [if_neg (by omega), if_neg (by omega)], by kernel_rfl, fun R hR => c115 e hm fun H' e' => ?_⟩
    have := hR H' e'
    unfold gnext at this
    rwa [if_pos hm] at this
  · obtain ⟨g, h1, h2, h3⟩ := cnext (e.s hm) (by omega)
    refine ⟨g, h1, h2, fun R hR => h3 R fun H' e' => ?_⟩
    have := hR H' e'
    unfold gnext at this
    rwa [if_neg hm] at this
theorem g52 {H : Heap} {R : Value → Heap → Prop} {be : Nat} {b : DB} {h : Hdr} {d : DS} {tags : List Int} {ended : Bool} {s : PS} {K post : List UInt64} (e : EngG H be b h d tags ended false s K post)
    (k : ∀ H', Ext H H' → R (.bool (gnext h d tags ended).isNone) H') : Ru 52 [.pointer (some ⟨be, 0, none⟩)] H R := by
  obtain ⟨g, hg, hc, hr⟩ := gnextc e
  refine v52 _ _ ⟨false, e.top.rd 4 rfl, by simp, fun _ => ⟨_, e.top.rd 2 rfl, g, _, _, hg, hc, hr _ fun H1 e1 => ?_⟩⟩
  obtain ⟨x, y, c, hs, hcc, _⟩ := actR_shape (gnext h d tags ended)
  refine ⟨actC x y, rfl, c, hs, fun H2 p n2 => ⟨rfl, act_one, n2.own.w 0 2 rfl, fun H3 h3 => ?_⟩⟩
  have : (!c) = (gnext h d tags ended).isNone := by rw [hcc]; cases gnext h d tags ended <;> rfl
  rw [this]
  exact k H3 (e1.thenExt (tmpE (cs := actC x y) n2 rfl h3).1)
theorem g11 {H : Heap} {R : Value → Heap → Prop} {be : Nat} {b : DB} {h : Hdr} {d : DS} {tags : List Int} {ended : Bool} {s : PS} {K post : List UInt64} (e : EngG H be b h d tags ended false s K post)
    (k : ∀ H', Ext H H' → R (.bool ((gnext h d tags ended).isNone && decide (h.mode = 2) && !ended)) H') : Ru 11 [.pointer (some ⟨be, 0, none⟩)] H R := by
  refine v11 _ _ (g52 e fun H1 e1 => ⟨_, rfl, fun h1 => ⟨_, (e.ext e1).top.rd 1 rfl, fun h2 => ⟨ended, (e.ext e1).top.rd 3 rfl, ?_⟩, fun h2 => ?_⟩, fun h1 => ?_⟩)
  · have := k H1 e1; simp only [h1, h2, decide_true, Bool.true_and] at this; exact this
  · have := k H1 e1; simp only [h2, decide_false, Bool.and_false, Bool.false_and] at this; exact this
  · have := k H1 e1; simp only [h1, Bool.false_and] at this; exact this
theorem g31 {H : Heap} {R : Value → Heap → Prop} {be : Nat} {b : DB} {h : Hdr} {d : DS} {tags : List Int} {ended : Bool} {s : PS} {K post : List UInt64} (e : EngG H be b h d tags ended false s K post)
    (k : ∀ H', Ext H H' → R (.bool ((gnext h d tags ended).isNone && decide (d.pend = 0))) H') : Ru 31 [.pointer (some ⟨be, 0, none⟩)] H R := by
  refine v31 _ _ (g52 e fun H1 e1 => ⟨_, rfl, fun h1 => g16 (e.ext e1) fun a c H2 hB e2 => ⟨_, rfl, rfl, trivial, _, rfl, _, rfl, ?_⟩, fun h1 => ?_⟩)
  · have := k H2 (e1.thenExt e2); simp only [h1, Bool.true_and] at this; exact this
  · have := k H1 e1; simp only [h1, Bool.false_and] at this; exact this
noncomputable def gact (h : Hdr) (d : DS) (tags : List Int) (k n : Int) : DS × List Int :=
  if h.mode = 3 then (bact h d k, tags) else match mstep (dMS d tags) k n with
    | some m => (dact h d k n m, m.tags)
    | none => (d, tags)
theorem gact3 {h : Hdr} (hm : h.mode = 3) (d : DS) (tags : List Int) (k n : Int) : gact h d tags k n = (bact h d k, tags) := by unfold gact; rw [if_pos hm]
theorem gactS {h : Hdr} (hm : h.mode ≠ 3) {d : DS} {tags : List Int} {k n : Int} {m : MS1} (e : mstep (dMS d tags) k n = some m) : gact h d tags k n = (dact h d k n m, m.tags) := by unfold gact; rw [if_neg hm, e]
theorem c53b {H : Heap} {R : Value → Heap → Prop} {b : DB} {h : Hdr} {d : DS} {s : PS} {K post : List UInt64} (v : Drv H b h d s K post) (hm : h.mode = 3) (sem : BSem h d s K) (cnt : DCnt d 2305843009213693952) {kd : Int} (hk : bnext d = some kd)
    (k : ∀ H' s' K', Drv H' b h (bact h d kd) s' K' post → BSem h (bact h d kd) s' K' → Mod [b.d, b.m, b.w] H H' → R (.int .i64 0) H') : Ru 53 [.pointer (some ⟨b.d, 0, none⟩), .agg (actC kd 0).toArray] H R := by
  refine v53 _ _ (actC kd 0) fun H1 p n1 => c110 (v.ext n1.mod) ⟨_, rfl, fun _ => ⟨_, rfl, n1.rdL, c116 (v.ext n1.mod) hm sem cnt hk fun H2 s' K' v2 sem2 m2 => ⟨_, rfl, k H2 s' K' v2 sem2 ((Mod.ext n1.mod).trans m2)⟩⟩, fun h' => by simp [hm] at h'⟩
theorem g12 {H : Heap} {R : Value → Heap → Prop} {be : Nat} {b : DB} {h : Hdr} {d : DS} {tags : List Int} {ended : Bool} {s : PS} {K post : List UInt64} (e : EngG H be b h d tags ended false s K post)
    (cnt : DCnt d 2305843009213693952) (hleg : h.mode ≠ 3 → ∀ k n, gnext h d tags ended = some (k, n) → ∃ m, mstep (dMS d tags) k n = some m)
    (k1 : gnext h d tags ended = none → ∀ H', Ext H H' → R (.tuple #[.agg (actC 0 0).toArray, .bool false, .int .i64 0]) H')
    (k2 : ∀ k n, gnext h d tags ended = some (k, n) → ∀ H' s' K', EngG H' be b h (gact h d tags k n).1 (gact h d tags k n).2 ended false s' K' post → Mod [b.d, b.m, b.w] H H' → R (.tuple #[.agg (actC k n).toArray, .bool true, .int .i64 0]) H') :
    Ru 12 [.pointer (some ⟨be, 0, none⟩)] H R := by
  refine v12 _ _ fun H1 p n1 => ⟨false, (e.ext n1.mod).top.rd 4 rfl, by simp, fun _ => ?_⟩
  have e1 := e.ext n1.mod
  obtain ⟨g, hg, hc, hr⟩ := gnextc e1
  refine ⟨_, e1.top.rd 2 rfl, g, _, _, hg, hc, hr _ fun H2 x2 => ?_⟩
  obtain ⟨x, y, c, hs, hcc, hso, hno⟩ := actR_shape (gnext h d tags ended)
  refine ⟨actC x y, rfl, c, hs, fun H3 q n3 => ⟨rfl, act_one, n3.own.w 0 2 rfl, fun H4 h4 => ?_⟩⟩
  obtain ⟨x24, oq⟩ := tmpE (cs := actC x y) n3 rfl h4
  clear h4
  have x14 := x2.thenExt x24
  have op := n1.own.mod x14 (by simp)
  have x04 := n1.mod.thenExt x14
  have hp := n1.ge
  refine ⟨fun hc' => ?_, fun hc' => ?_⟩
  · have hnone : gnext h d tags ended = none := by rw [hcc] at hc'; cases hh : gnext h d tags ended <;> simp_all
    exact cpy (cs := actC 0 0) (f := fun cs => .tuple #[.agg cs.toArray, .bool false, .int .i64 0]) op rfl rfl act_one x04 hp (k1 hnone)
  · have hsome : gnext h d tags ended = some (x, y) := by
      rw [hcc] at hc'
      cases hh : gnext h d tags ended with
      | none => rw [hh] at hc'; simp at hc'
      | some q => rw [hso q hh]
    have e4 := e.ext x04
    have hlow : ∀ z ∈ [b.d, b.m, b.w], z < H.size := by
      intro z hz
      simp only [List.mem_cons, List.not_mem_nil, or_false] at hz
      rcases hz with rfl | rfl | rfl
      · exact e.drv.top.lt (by unfold drvC; simp [i64s, planL])
      · exact e.drv.met.lt (by simp [meterC])
      · exact e.drv.ar.row.lt (u64s_ne e.drv.words)
    have hqS : q ∉ [b.d, b.m, b.w] := fun hz => by have := hlow q hz; have := n3.ge; have := x2.1; have := n1.mod.1; omega
    have hpS : p ∉ [b.d, b.m, b.w] := fun hz => by have := hlow p hz; omega
    have key : Ru 53 [.pointer (some ⟨b.d, 0, none⟩), .agg (actC x y).toArray] H4 fun r H5 => r = .int .i64 0 ∧ ∃ s' K', EngG H5 be b h (gact h d tags x y).1 (gact h d tags x y).2 ended false s' K' post ∧ Mod [b.d, b.m, b.w] H4 H5 := by
      by_cases hm : h.mode = 3
      · obtain ⟨rfl, sem⟩ := e4.b hm
        have hb : bnext d = some x ∧ y = 0 := by
          unfold gnext at hsome
          rw [if_pos hm] at hsome
          cases hb : bnext d with
          | none => rw [hb] at hsome; cases hsome
          | some q => rw [hb] at hsome; cases hsome; exact ⟨rfl, rfl⟩
        obtain ⟨hb, rfl⟩ := hb
        rw [gact3 hm]
        exact c53b e4.drv hm sem cnt hb fun H5 s' K' v5 sem5 m5 => ⟨rfl, s', K', ⟨e4.top.mod m5 e.ne, v5, e.off, .inr ⟨hm, rfl, sem5⟩⟩, m5⟩
      · obtain ⟨m, hms⟩ := hleg hm x y hsome
        rw [gactS hm hms]
        have eS := e4.s hm
        exact c53 eS.drv hm eS.sem cnt hms fun H5 s' v5 sem5 m5 => ⟨rfl, s', _, ⟨e4.top.mod m5 e.ne, v5, e.off, .inl ⟨hm, rfl, sem5⟩⟩, m5⟩
    refine ⟨_, e4.top.rd 0 rfl, actC x y, rfl, oq.1, Runs.mono key ?_⟩
    rintro _ H5 ⟨rfl, s', K', e5, m5⟩
    refine ⟨_, rfl, by simp, fun _ => ?_⟩
    have op5 := op.mod m5 hpS
    refine ⟨actC x y, rfl, (oq.mod m5 hqS).1, rfl, act_one, op5.w 0 2 rfl, fun H6 h6 => ⟨actC x y, rfl, by rw [h6]; exact rdL_wrL op5.2, ?_⟩⟩
    have m6 : Mod [p] H5 H6 := by rw [h6]; exact Mod.refl.wrL (.inl (by simp))
    have hpb : be ≠ p := by have := e.top.lt (by simp [engC]); omega
    exact k2 x y hsome H6 s' K' (e5.keep m6 (by simpa using hpb) (e.drv.fresh (by simpa using hp))) (((Mod.ext x04).trans m5).trans_new m6 (by simp; omega))
theorem bact5 (h : Hdr) (d : DS) : bact h d 5 = { d with pend := d.l, losses := d.losses + 1, sweeps := d.sweeps + 1, loss := lossOf h d.l.toNat, peak := max d.peak (d.live + wr_ h.loss) } := by unfold bact; rw [if_neg (by omega), if_pos rfl]
theorem bcnt_step {h : Hdr} {d : DS} {k B : Int} (c : DCnt d B) : DCnt (bact h d k) (B + 1) := by
  obtain ⟨p, t, l, s⟩ := c
  unfold bact
  refine ⟨?_, ?_, ?_, ?_⟩ <;> (repeat' split) <;> dsimp only <;> omega
def plM (d : DS) : Int := if d.pend < 0 then 2 * d.l + 1 - d.at_ else d.pend
theorem plM_lo {h : Hdr} {d : DS} {s : PS} {K : List UInt64} (w : BSem h d s K) : 0 ≤ plM d ∧ plM d ≤ 2 * d.l + 1 := by
  have := w.at0; have := w.at1; have := w.p0; have := w.p1
  unfold plM; split <;> omega
theorem plM_step {h : Hdr} {d : DS} {s : PS} {K : List UInt64} (w : BSem h d s K) {k : Int} (e : bnext d = some k) : plM (bact h d k) < plM d := by
  have := w.at0; have := w.at1; have := w.p0; have := w.p1
  unfold bnext at e
  split at e
  · split at e
    · cases e; rw [bact8]; unfold plM; dsimp only; (repeat' split) <;> omega
    · cases e; rw [bact5]; unfold plM; dsimp only; (repeat' split) <;> omega
  · split at e
    · cases e; rw [bact9]; unfold plM; dsimp only; (repeat' split) <;> omega
    · cases e
theorem c17b {H : Heap} {R : Value → Heap → Prop} {be : Nat} {b : DB} {h : Hdr} {d : DS} {tags : List Int} {ended : Bool} {s : PS} {K post : List UInt64} (e : EngG H be b h d tags ended false s K post) (hm : h.mode = 3) {B : Int} (cnt : DCnt d B) (hB : 0 ≤ B ∧ B ≤ 1152921504606846976)
    (k : ∀ n d' s' K' H', bnext d' = none → d'.l = d.l → EngG H' be b h d' tags ended false s' K' post → Mod [b.d, b.m, b.w] H H' → R (.tuple #[.int .i64 n, .int .i64 0]) H') : Ru 17 [.pointer (some ⟨be, 0, none⟩)] H R := by
  obtain ⟨rfl, sem0⟩ := e.b hm
  have hM0 := plM_lo sem0
  have hlen := (base_facts e.drv.ok hm).2
  have hl0 := sem0.l
  let J : Nat → Int → Heap → Prop := fun N n H' => ∃ d' s' K', N = (plM d').toNat ∧ EngG H' be b h d' [] ended false s' K' post ∧ d'.l = d.l ∧ DCnt d' (B + n) ∧ 0 ≤ n ∧ n ≤ plM d - plM d' ∧ Mod [b.d, b.m, b.w] H H'
  refine v17 _ _ ⟨fun n H' => ∃ N, J N n H', fun n H' => least fun N => J N n H', ⟨_, d, s, K, rfl, e, rfl, by simpa using cnt, by omega, by omega, Mod.refl⟩, ?_⟩
  intro H1 n hI
  obtain ⟨N, hJ⟩ := hI
  obtain ⟨d1, s1, K1, hN, e1, l1, c1, n0, nle, m1⟩ := least_spec (p := fun N => J N n H1) hJ
  obtain ⟨_, sem1⟩ := e1.b hm
  have hM1 := plM_lo sem1
  refine g12 e1 (c1.mono (by omega)) (fun h3 => (h3 hm).elim) ?_ ?_
  · intro hnone H2 x2
    have hb : bnext d1 = none := by
      unfold gnext at hnone
      rw [if_pos hm] at hnone
      cases hb : bnext d1 with
      | none => rfl
      | some q => rw [hb] at hnone; cases hnone
    refine ⟨_, rfl, _, _, rfl, fun H3 q n3 => ⟨rfl, act_one, n3.own.w 0 2 rfl, fun H4 h4 => ?_⟩⟩
    obtain ⟨x4, _⟩ := tmpE n3 rfl h4
    have x14 := x2.thenExt x4
    refine ⟨fun hc => (hc rfl).elim, fun _ => ⟨fun hc => by simp at hc, fun _ => ?_⟩⟩
    exact k n d1 s1 K1 H4 hb l1 (e1.ext x14) (m1.thenExt x14)
  · intro x y hxy H2 s2 K2 e2 m2
    rw [gact3 hm] at e2
    have hb : bnext d1 = some x := by
      unfold gnext at hxy
      rw [if_pos hm] at hxy
      cases hb : bnext d1 with
      | none => rw [hb] at hxy; cases hxy
      | some q => rw [hb] at hxy; cases hxy; rfl
    have hlt := plM_step sem1 hb
    obtain ⟨_, sem2⟩ := e2.b hm
    have hM2 := plM_lo sem2
    dsimp only at hM2 e2
    have hl2 : (bact h d1 x).l = d1.l := by unfold bact; (repeat' split) <;> rfl
    refine ⟨_, rfl, _, _, rfl, fun H3 q n3 => ⟨rfl, act_one, n3.own.w 0 2 rfl, fun H4 h4' => ?_⟩⟩
    obtain ⟨x4, _⟩ := tmpE (cs := actC x y) n3 rfl h4'
    refine ⟨fun hc => (hc rfl).elim, fun _ => ⟨fun _ => ?_, fun hc => by simp at hc⟩⟩
    have hJ' : J (plM (bact h d1 x)).toNat (n + 1) H4 := ⟨_, s2, K2, rfl, e2.ext x4, hl2.trans l1, (bcnt_step c1).mono (by omega), by omega, by omega, (m1.trans m2).thenExt x4⟩
    refine ⟨by unfold I64; omega, ⟨_, hJ'⟩, ?_⟩
    exact Nat.lt_of_lt_of_eq (least_lt (p := fun N => J N (n + 1) H4) hJ' (by omega)) hN.symm
theorem bsem0 {h : Hdr} (hp : PlanOk h) (hm : h.mode = 3) : BSem h (d0 h (fixedOf h)) (s0 h) (k0 h) := by
  obtain ⟨f1, f2, f3, f4, f5⟩ := base_facts hp hm
  obtain ⟨a, b, c, d⟩ := slots_small hp
  have ht := parts_small hp.1 (tapeOf h) (List.getElem_mem _)
  refine ⟨rfl, rfl, rfl, by simp [d0], by simpa [d0] using f2, by simp [d0], fun h0 => by simp [d0] at h0, fun _ => rfl, fun h0 => by simp [d0] at h0, fun i hi => by simp [d0] at hi, by simp [d0], by simp [d0], ?_⟩
  show fixedOf h ≤ h.words
  omega
theorem g9 {H : Heap} {R : Value → Heap → Prop} (h : Hdr) (p : HAt) (r : HRows H h p)
    (k1 : PlanOk h → ∀ H' be b tags, (h.mode ≠ 3 → tags = tags0 h) → EngG H' be b h (d0 h (fixedOf h)) tags false false (s0 h) (k0 h) (post0 h) → DIn h b H.size → H.size ≤ be → be < H'.size → Ext H H' → (∀ S, (∀ x ∈ S, H'.size ≤ x) → DOff h b S) → R (.tuple #[.pointer (some ⟨be, 0, none⟩), .int .i64 0]) H')
    (k2 : ∀ n H', n ≠ 0 → ¬ PlanOk h → Ext H H' → R (.tuple #[.pointer none, .int .i64 n]) H') : Ru 9 [.agg (hdrC h p).toArray] H R := by
  refine c9g h p r (fun hp H' be b o v f di h1 h2 e hS => ?_) k2
  by_cases hm : h.mode = 3
  · exact k1 hp H' be b [] (fun h3 => (h3 hm).elim) ⟨o, v, f, .inr ⟨hm, rfl, bsem0 hp hm⟩⟩ di h1 h2 e hS
  · exact k1 hp H' be b (tags0 h) (fun _ => rfl) ⟨o, v, f, .inl ⟨hm, k0_slots h hp hm, dsem0 hp hm⟩⟩ di h1 h2 e hS
theorem g18 {H : Heap} {R : Value → Heap → Prop} {be : Nat} {b : DB} {h : Hdr} {d : DS} {tags : List Int} {ended failed : Bool} {s : PS} {K post : List UInt64} (e : EngG H be b h d tags ended failed s K post) (hp : d.pend = 0)
    (k : ∀ H' a1 c1 a2 c2, Buf 1 H' H.size a1 (nX h) c1 (u64s s.ax) → Buf 1 H' H.size a2 (nT h) c2 (u64s s.ag) → Ext H H' → R (.tuple #[.agg [.int .u64 (d.loss.toNat : Int), .slice a1 (nX h) c1, .slice a2 (nT h) c2].toArray, .int .i64 0]) H') : Ru 18 [.pointer (some ⟨be, 0, none⟩)] H R :=
  c18c e.top e.drv hp k
end Go.VC
