/- TOPSTREAMS returns true, whatever came in, and what came in reads as it did. No condition. -/
import Derived.OpenShut
import Derived.ProofKit
import Derived.Test.YthenlgnbegeliaaGreatRows
import Derived.WalkKit
import Derived.Test.YthenlgnbegeliaaGreatM05
namespace Go.VC
open Go Go.Proofs
theorem c19 {H : Heap} {R : Value → Heap → Prop} (h : Hdr) (p : HAt) (r : HRows H h p) (dm : dimsOk h) (gs : ∃ t, GoodP h.step t) (gl : ∃ t, GoodP h.loss t) (L : Nat) (hL : L < 65536) (sc lc xc tc : Nat)
    (k : ∀ H' a1 c1 a2 c2, RowU H' a1 (nX h) (grad h L L).1 → RowU H' a2 (nT h) (grad h L L).2 → Ext H H' → R (.tuple #[.agg [.int .u64 ((lossOf h L).toNat : Int), .slice a1 (nX h) c1, .slice a2 (nT h) c2].toArray, .int .i64 0]) H') :
    Ru 19 [.agg (progC h.step p.sa h.step.ops.length sc).toArray, .agg (progC h.loss p.la h.loss.ops.length lc).toArray, .slice p.xa h.x.length xc, .slice p.ta h.th.length tc, .int .i64 (L : Int)] H R := by
  have hdm := dm
  obtain ⟨d1, d2, d3, d4, d5⟩ := dm
  have hx : nX h = h.x.length := rfl
  have ht : nT h = h.th.length := rfl
  have hN : nN h = h.x.length + h.th.length := rfl
  obtain ⟨gl1, gl2⟩ := grad_length hdm L L
  obtain ⟨ts, gs'⟩ := gs
  obtain ⟨tl, gl'⟩ := gl
  refine v19 _ _ _ _ _ _ _ _ _ fun H1 p1 n1 H2 p2 n2 H3 p3 n3 => ⟨progC h.step p.sa h.step.ops.length sc, rfl, (n2.mod.new n3).rdL (by simp) n1.rdL, progC h.loss p.la h.loss.ops.length lc, rfl, n3.mod.rdL (by simp) n2.rdL, ?_⟩
  have e3 := (n1.mod.new n2).new n3
  refine c59 _ _ _ _ _ gs' (Ext.row e3 r.s) gl' (Ext.row e3 r.l) ⟨by omega, by omega⟩ (by omega) (by omega) (by omega) ⟨by omega, by omega⟩ fun H4 e4 => ⟨_, rfl, by simp, fun _ => fun H5 p5 n5 => ⟨rfl, ?_, n5.own.w 0 3 rfl, fun H6 h6 => ?_⟩⟩
  · intro x hx; simp at hx; rcases hx with rfl | rfl | rfl <;> trivial
  obtain ⟨e6, o6⟩ := tmpE (cs := [.int .u64 ((0 : UInt64).toNat : Int), .slice none 0 0, .slice none 0 0]) n5 rfl h6
  have e06 := (e3.thenExt e4).thenExt e6
  have hp5 : p5 < H6.size := o6.lt (by simp)
  have hp5' : H4.size ≤ p5 := n5.ge
  have h46 := e3.thenExt e4
  let lo : Nat → UInt64 := fun j => if j = 0 then 0 else lossOf h L
  refine ⟨fun m H' => ∃ (j : Nat) (a1 a2 : Option Addr) (c1 c2 : Nat), m = j ∧ j ≤ nN h ∧ Own H' p5 [.int .u64 ((lo j).toNat : Int), .slice a1 (min j (nX h)) c1, .slice a2 (j - nX h) c2] ∧ Buf 1 H' H6.size a1 (min j (nX h)) c1 (u64s ((grad h L L).1.take j)) ∧ Buf 1 H' H6.size a2 (j - nX h) c2 (u64s ((grad h L L).2.take (j - nX h))) ∧ Apart a1 c1 a2 c2 ∧ Mod [p5] H6 H',
    fun m _ => (nN h - m).toNat, ⟨0, none, none, 0, 0, rfl, by omega, by rw [Nat.zero_min, Nat.zero_sub]; exact o6, by simpa [u64s] using Buf.nil, by simpa [u64s] using Buf.nil, fun b h0 => by omega, Mod.refl⟩, ?_⟩
  rintro H7 m ⟨j, a1, a2, c1, c2, rfl, hj, o7, hB1, hB2, ap, m7⟩
  have x07 : Ext H H7 := e06.trans_new m7 (by have := h46.1; simp; omega)
  have x47 : Ext H4 H7 := e6.trans_new m7 (by simpa using hp5')
  refine ⟨by unfold I64; omega, fun hlt => ?_, fun hge => ?_⟩
  · have hjN : j < nN h := by omega
    refine ⟨progC h.step p.sa h.step.ops.length sc, rfl, ((n2.mod.new n3).thenExt (e4.thenExt x47)).rdL (by simp) n1.rdL, progC h.loss p.la h.loss.ops.length lc, rfl, (n3.mod.thenExt (e4.thenExt x47)).rdL (by simp) n2.rdL, c60 h p (r.ext x07) hdm ⟨ts, gs'⟩ ⟨tl, gl'⟩ L j hL hjN _ _ _ _ fun H8 e8 => ⟨lossOf h L, along h L j, _, rfl, ?_⟩⟩
    have o8 := o7.mod e8 (by simp)
    refine ⟨o8.w 0 1 rfl, fun H9 h9 => ?_⟩
    have o9 := o8.wr 0 (.int .u64 ((lossOf h L).toNat : Int))
    rw [← h9] at o9
    simp only [List.set_cons_zero] at o9
    have m9 : Mod [p5] H6 H9 := (m7.thenExt e8).trans (wrM h9)
    have lowp : ∀ b ∈ [p5], b < H6.size := by simpa using hp5
    have hB1' := (hB1.ext e8).mod (wrM h9) lowp
    have hB2' := (hB2.ext e8).mod (wrM h9) lowp
    have hz : H6.size ≤ H9.size := m9.1
    have hlo : lo (j + 1) = lossOf h L := by simp [lo]
    refine ⟨fun hltx => ⟨_, _, _, o9.rd 1 rfl, fun Ha q na => ?_⟩, fun hgex => ⟨_, _, _, o9.rd 2 rfl, fun Ha q na => ?_⟩⟩
    · have hjx : j < (grad h L L).1.length := by omega
      refine ⟨u64s [along h L j], rfl, .inr ⟨q, 0, rfl, by have := na.rdL; simpa [u64s] using this⟩, (hB1'.ext na.mod).app2 (hB2'.ext na.mod) ap (by omega) (by omega) (by have := na.mod.1; omega) rfl rfl u64s_one (by omega) (by omega) fun a' c' Hb S q1 q2 q3 q4 q5 => ?_⟩
      have hmb : Mod [p5] H6 Hb := (m9.new na).trans_new q4 fun b hb => .inr (q5 b hb).1
      have ob : Own Hb p5 _ := (o9.mod na.mod (by simp)).mod q4 (fun hb => by have := (q5 _ hb).1; omega)
      refine ⟨ob.w 1 1 rfl, fun Hc hc => ⟨by unfold I64; omega, ⟨j + 1, a', a2, c', c2, by omega, by omega, ?_, ?_, ?_, q3, hmb.trans (wrM hc)⟩, by dsimp only; omega⟩⟩
      · have oc := ob.wr 1 (.slice a' (min j (nX h) + 1) c')
        rw [← show Hc = _ from hc] at oc
        rw [hlo, show min (j + 1) (nX h) = min j (nX h) + 1 from by omega, show j + 1 - nX h = j - nX h from by omega]
        exact oc
      · have := q1.mod (wrM hc) lowp
        rw [show min (j + 1) (nX h) = min j (nX h) + 1 from by omega, List.take_succ_eq_append_getElem hjx, u64s_append]
        have e1 : along h L j = (grad h L L).1[j] := by unfold along; rw [if_pos (by omega), List.getD_eq_getElem?_getD, List.getElem?_eq_getElem hjx]; rfl
        rw [e1] at this; exact this
      · have := q2.mod (wrM hc) lowp
        rw [show j + 1 - nX h = j - nX h from by omega]; exact this
    · have hjx : j - nX h < (grad h L L).2.length := by omega
      refine ⟨u64s [along h L j], rfl, .inr ⟨q, 0, rfl, by have := na.rdL; simpa [u64s] using this⟩, (hB2'.ext na.mod).app2 (hB1'.ext na.mod) ap.symm (by omega) (by omega) (by have := na.mod.1; omega) rfl rfl u64s_one (by omega) (by omega) fun a' c' Hb S q1 q2 q3 q4 q5 => ?_⟩
      have hmb : Mod [p5] H6 Hb := (m9.new na).trans_new q4 fun b hb => .inr (q5 b hb).1
      have ob : Own Hb p5 _ := (o9.mod na.mod (by simp)).mod q4 (fun hb => by have := (q5 _ hb).1; omega)
      refine ⟨ob.w 2 1 rfl, fun Hc hc => ⟨by unfold I64; omega, ⟨j + 1, a1, a', c1, c', by omega, by omega, ?_, ?_, ?_, q3.symm, hmb.trans (wrM hc)⟩, by dsimp only; omega⟩⟩
      · have oc := ob.wr 2 (.slice a' (j - nX h + 1) c')
        rw [← show Hc = _ from hc] at oc
        rw [hlo, show min (j + 1) (nX h) = min j (nX h) from by omega, show j + 1 - nX h = j - nX h + 1 from by omega]
        exact oc
      · have := q2.mod (wrM hc) lowp
        rw [show min (j + 1) (nX h) = min j (nX h) from by omega, List.take_of_length_le (by omega)]
        rw [List.take_of_length_le (by omega)] at this; exact this
      · have := q1.mod (wrM hc) lowp
        rw [show j + 1 - nX h = j - nX h + 1 from by omega, List.take_succ_eq_append_getElem hjx, u64s_append]
        have e1 : along h L j = (grad h L L).2[j - nX h] := by unfold along; rw [if_neg (by omega), List.getD_eq_getElem?_getD, List.getElem?_eq_getElem hjx]; rfl
        rw [e1] at this; exact this
  · have e : j = nN h := by omega
    subst e
    have e1 : min (nN h) (nX h) = nX h := by omega
    have e2 : nN h - nX h = nT h := by omega
    have e3' : lo (nN h) = lossOf h L := by simp only [lo]; rw [if_neg (by omega)]
    rw [e1, e2, e3'] at o7
    rw [e1, List.take_of_length_le (by omega)] at hB1
    rw [e2, List.take_of_length_le (by omega)] at hB2
    have o3 := ((n3.own.mod e4 (by simp)).mod x47 (by simp))
    have hp3 : p3 < H4.size := by have := n3.lt; have := e4.1; omega
    refine ⟨[.int .u64 ((lossOf h L).toNat : Int), .slice a1 (nX h) c1, .slice a2 (nT h) c2], rfl, o7.1, rfl, ?_, o3.w 0 3 rfl, fun H8 h8 => ⟨[.int .u64 ((lossOf h L).toNat : Int), .slice a1 (nX h) c1, .slice a2 (nT h) c2], rfl, by rw [h8]; exact rdL_wrL o3.2, ?_⟩⟩
    · intro x hx; simp at hx; rcases hx with rfl | rfl | rfl <;> trivial
    have h3ge : H.size ≤ p3 := by have := n1.mod.1; have := n2.mod.1; have := n3.ge; omega
    have m8 : Mod [p3] H7 H8 := wrLM h8
    have low3 : ∀ b ∈ [p3], b < H6.size := by simp; omega
    exact k H8 a1 c1 a2 c2 (hB1.mod m8 low3).row (hB2.mod m8 low3).row (x07.trans_new m8 (by simpa using h3ge))
end Go.VC
namespace Go.VC
open Go Go.Proofs
noncomputable def scalI (h : Hdr) (d : DS) : List Int := [h.mode, d.l, d.at_, d.pend + 1, slotsOf h, d.plain, d.tapd, d.losses, d.sweeps, d.live, d.peak]
noncomputable def scal (h : Hdr) (d : DS) : List UInt64 := (scalI h d).map UInt64.ofInt ++ [d.loss] ++ zeros 4
theorem scal_length (h : Hdr) (d : DS) : (scal h d).length = 16 := rfl
theorem c61 {H : Heap} {R : Value → Heap → Prop} {b : DB} {h : Hdr} {d : DS} {P : List (List UInt64)} {K post : List UInt64} (v : DrvM H b h d P K post) (hp : -1 ≤ d.pend ∧ d.pend ≤ 65536) (k : ∀ H', Ext H H' → R (.agg (u64s (scal h d)).toArray) H') :
    Ru 61 [.pointer (some ⟨b.d, 0, none⟩)] H R := by
  refine v61 _ _ fun H1 p n1 H2 q n2 => ?_
  have e2 := n1.mod.new n2
  have v2 := v.ext e2
  refine ⟨i64s [d.plain, d.tapd, d.losses, d.sweeps], rfl, ⟨v2.top.rd 20 rfl, v2.top.rd 21 rfl, v2.top.rd 22 rfl, v2.top.rd 23 rfl, trivial⟩, fun H3 s n3 => ⟨rfl, i64s_one, n3.own.w 0 4 rfl, fun H4 h4 => ?_⟩⟩
  obtain ⟨e4, o4⟩ := tmpE (cs := i64s [d.plain, d.tapd, d.losses, d.sweeps]) n3 rfl h4
  have v4 := v2.ext e4
  refine ⟨_, by rw [Nat.zero_add]; exact v4.top.rd 4 rfl, _, by rw [Nat.zero_add]; exact v4.top.rd 17 rfl, _, by rw [Nat.zero_add]; exact v4.top.rd 18 rfl, _, by rw [Nat.zero_add]; exact v4.top.rd 19 rfl, by unfold I64; omega, _, by rw [Nat.zero_add]; exact v4.top.rd 3 rfl, _, o4.rd 0 rfl, _, o4.rd 1 rfl, _, o4.rd 2 rfl, _, o4.rd 3 rfl, ?_⟩
  refine v82 _ _ ⟨_, by rw [Nat.zero_add]; exact v4.top.rd 16 rfl, c150 v4.met ⟨_, rfl, _, rfl, o4.rd 3 rfl, o4.rd 2 rfl, o4.rd 1 rfl, o4.rd 0 rfl, by rw [Nat.zero_add]; exact v4.top.rd 3 rfl, by rw [Nat.zero_add]; exact v4.top.rd 19 rfl, by rw [Nat.zero_add]; exact v4.top.rd 18 rfl, by rw [Nat.zero_add]; exact v4.top.rd 17 rfl, by rw [Nat.zero_add]; exact v4.top.rd 4 rfl, ?_⟩⟩
  refine v84 _ _ ⟨_, by rw [Nat.zero_add]; exact v4.top.rd 16 rfl, c151 v4.met ⟨_, rfl, _, rfl, o4.rd 3 rfl, o4.rd 2 rfl, o4.rd 1 rfl, o4.rd 0 rfl, by rw [Nat.zero_add]; exact v4.top.rd 3 rfl, by rw [Nat.zero_add]; exact v4.top.rd 19 rfl, by rw [Nat.zero_add]; exact v4.top.rd 18 rfl, by rw [Nat.zero_add]; exact v4.top.rd 17 rfl, by rw [Nat.zero_add]; exact v4.top.rd 4 rfl, ?_⟩⟩
  have oq := n2.own.mod e4 (by simp)
  have op := (n1.own.mod n2.mod (by simp)).mod e4 (by simp)
  have hbase : b.d < H.size := v.top.lt (by unfold drvC; simp [i64s, planL])
  have hqd : b.d ≠ q := by have := n1.mod.1; have := n2.ge; omega
  have hpq : p ≠ q := by have := n1.lt; have := n2.ge; omega
  have hpH : H.size ≤ p := n1.ge
  have hqH : H.size ≤ q := by have := n1.mod.1; have := n2.ge; omega
  let V := (scalI h d).map UInt64.ofInt
  have hV : V.length = 11 := rfl
  refine ⟨fun n H' => ∃ i : Nat, n = i ∧ i ≤ 11 ∧ Own H' q (u64s (V.take i ++ zeros (16 - i))) ∧ Mod [q] H4 H', fun n _ => (11 - n).toNat, ⟨0, rfl, by omega, oq, Mod.refl⟩, ?_⟩
  rintro H5 n ⟨i, rfl, hi, o5, m5⟩
  have hlen : (V.take i ++ zeros (16 - i)).length = 16 := by simp [hV]; omega
  refine ⟨fun hlt => ?_, fun hge => ?_⟩
  · have hi1 : i < (scalI h d).length := by show i < 11; omega
    have hw := o5.2
    rw [u64s_length, hlen] at hw
    refine ⟨⟨by omega, hlt⟩, _, by rw [show Int.toNat (i : Int) * 1 = i from by omega]; exact i64s_get hi1, _, rfl, ⟨by omega, by omega⟩, wok_sub hw (by omega) (by omega), fun H6 h6 => ⟨by unfold I64; omega, ⟨i + 1, by omega, by omega, ?_, m5.trans (wrM h6)⟩, by dsimp only; omega⟩⟩
    have o6 := o5.wr (0 + Int.toNat (i : Int) * 1) (.int .u64 ((UInt64.ofInt (scalI h d)[i]).toNat : Int))
    rw [← show H6 = _ from h6, show 0 + Int.toNat (i : Int) * 1 = i from by omega, u64s_set, List.set_append, if_neg (by rw [List.length_take, hV]; omega), List.length_take, hV, Nat.min_eq_left (by omega), Nat.sub_self] at o6
    have h16 : zeros (16 - i) = 0 :: zeros (16 - (i + 1)) := by unfold zeros; rw [← List.replicate_succ]; congr 1; omega
    rw [h16, List.set_cons_zero] at o6
    rw [List.take_succ_eq_append_getElem (by rw [hV]; omega), List.append_assoc]
    have hVi : V[i]'(by rw [hV]; omega) = UInt64.ofInt (scalI h d)[i] := by simp [V]
    rw [hVi]; exact o6
  · have e : i = 11 := by omega
    subst e
    have v5 := v4.top.mod m5 (by simpa using hqd)
    rw [List.take_of_length_le (by rw [hV]; omega)] at o5
    have hw := o5.2
    rw [u64s_length] at hw
    refine ⟨d.loss, by rw [Nat.zero_add]; exact v5.rd 24 rfl, ⟨by omega, by omega⟩, wok_sub hw (by omega) (by simp [hV]), fun H6 h6 => ?_⟩
    have o6 := o5.wr 11 (.int .u64 (d.loss.toNat : Int))
    rw [← h6, u64s_set] at o6
    have hs : (V ++ zeros (16 - 11)).set 11 d.loss = scal h d := rfl
    rw [hs] at o6
    have m6 := m5.trans (wrM h6)
    have op6 := op.mod m6 (by simpa using hpq)
    refine ⟨u64s (scal h d), rfl, o6.1, rfl, u64s_one, op6.w 0 16 rfl, fun H7 h7 => ⟨u64s (scal h d), rfl, by rw [h7]; exact rdL_wrL op6.2, k H7 ?_⟩⟩
    exact ((e2.thenExt e4).trans_new m6 (by simpa using hqH)).trans_new (wrLM h7) (by simpa using hpH)
theorem c21 {H : Heap} {R : Value → Heap → Prop} {be : Nat} {b : DB} {h : Hdr} {d : DS} {tags : List Int} {ended failed : Bool} {s : PS} {post : List UInt64} (e : EngS H be b h d tags ended failed s post) (k : ∀ H', Ext H H' → R (.agg (u64s (scal h d)).toArray) H') : Ru 21 [.pointer (some ⟨be, 0, none⟩)] H R := by
  refine v21 _ _ fun H1 p n1 => c54 (e.ext n1.mod).top (c61 (e.ext n1.mod).drv ?_ fun H2 e2 => ⟨u64s (scal h d), rfl, rfl, rfl, u64s_one, ?_, fun H3 h3 => ⟨u64s (scal h d), rfl, ?_, k H3 ?_⟩⟩)
  · have := e.sem.mok.p0; have := e.sem.mok.p1; have := e.sem.mok.l1; simp only [dMS] at *; omega
  · exact (n1.own.mod e2 (by simp)).w 0 16 rfl
  · rw [h3]; exact rdL_wrL (n1.own.mod e2 (by simp)).2
  · exact (n1.mod.thenExt e2).trans_new (wrLM h3) (by have := n1.ge; simpa using this)
end Go.VC
set_option linter.unusedVariables false
namespace Go.VC
open Go Go.Proofs
set_option maxRecDepth 100000
variable {H : Heap} {R : Value → Heap → Prop}
theorem v3 (x0 : List Value) (x1 : Int) (x2 : Bool) (h :
  ∀ H' p, New H x0 27 H' p → ∃ cs : List Value, cs.length = 9 ∧ RdL H' p 0 cs ∧ Ru 8 [.agg cs.toArray] H' fun r H' => ∃ cs : List Value, cs.length = 4 ∧ ∃ n, r = .tuple #[.agg cs.toArray, .int
  .i64 n] ∧ ∀ H'_1 p_1, New H' [.int .i64 0, .int .i64 0, .int .i64 0, .int .i64 0] 30 H'_1 p_1 → cs.length = 4 ∧ (∀ v ∈ cs, One v) ∧ WOk H'_1 p_1 0 4 ∧ ∀ H', H' = wrL H'_1 p_1 0 cs → ∃ (cs : List
  Value), cs.length = 9 ∧ RdL H' p 0 cs ∧ Ru 9 [.agg cs.toArray] H' fun r H' => ∃ v n_1, r = .tuple #[v, .int .i64 n_1] ∧ ∃ cs : List Value, cs.length = 9 ∧ RdL H' p 0 cs ∧ Ru 9 [.agg cs.toArray]
  H' fun r H' => ∃ v_1 n_2, r = .tuple #[v_1, .int .i64 n_2] ∧ ∃ (J : Heap → Prop), ((¬n = 0 → Ru 10 [] H' fun r H' => ∃ c, r = .bool c ∧ R (.bool c) H') ∧ (¬¬n = 0 → ∃ n, rd H' p 0 = some (.int .i64 n) ∧
  (¬n = 2 → Ru 10 [] H' fun r H' => ∃ c, r = .bool c ∧ R (.bool c) H') ∧ (¬¬n = 2 → J H'))) ∧ ∀ H, J H → ∃ (J : Heap → Prop), ((¬n_1 = 0 → R (.bool false) H) ∧ (¬¬n_1 = 0 → (¬n_2 = 0
  → R (.bool false) H) ∧ (¬¬n_2 = 0 → ∃ a, v = .pointer a ∧ (a = none → R (.bool false) H) ∧ (¬a = none → ∃ a, v_1 = .pointer a ∧ (a = none → R (.bool false) H) ∧ (¬a = none → J H))))) ∧ ∀ H, J H → ∃ (J : Heap →
  Prop), (∃ (I : Int → Heap → Prop), ∃ (μ : Int → Heap → Nat), I (0 : Int) H ∧ ∀ H n, I n H → I64 x1 ∧ (n ≤ x1 → ∃ (J : Heap → Prop), (∃ (I : Heap → Prop), ∃ (μ : Heap → Nat), I H ∧ ∀ H, I H → Ru 11 [v] H fun r H' => ∃ c, r
  = .bool c ∧ ((!c) = true → Ru 12 [v] H' fun r H' => ∃ cs : List Value, cs.length = 2 ∧ ∃ c n, r = .tuple #[.agg cs.toArray, .bool c, .int .i64 n] ∧ ∀ H'_2 p, New H' [.int .i64 0, .int .i64 0] 39 H'_2 p →
  cs.length = 2 ∧ (∀ v ∈ cs, One v) ∧ WOk H'_2 p 0 2 ∧ ∀ H', H' = wrL H'_2 p 0 cs → Ru 12 [v_1] H' fun r H' => ∃ cs : List Value, cs.length = 2 ∧ ∃ c_1 n_3, r = .tuple #[.agg cs.toArray,
  .bool c_1, .int .i64 n_3] ∧ ∀ H'_3 p_2, New H' [.int .i64 0, .int .i64 0] 39 H'_3 p_2 → cs.length = 2 ∧ (∀ v ∈ cs, One v) ∧ WOk H'_3 p_2 0 2 ∧ ∀ H', H' = wrL H'_3 p_2 0 cs → ∃ cs : List Value,
  cs.length = 2 ∧ RdL H' p 0 cs ∧ ∃ cs_1 : List Value, cs_1.length = 2 ∧ RdL H' p_2 0 cs_1 ∧ ∃ c_2, IsB Tryz.prog (cmpS BinOp.neq 39 (Operand.tmp 92) (Operand.tmp 93) (.agg cs.toArray) (.agg (List.toArray
  cs_1))) c_2 ∧ (c_2 = true → R (.bool false) H') ∧ (c_2 = false → ((!c) = true → R (.bool false) H') ∧ ((!c) = false → ((!c_1) = true → R (.bool false) H') ∧ ((!c_1) = false → (¬n = 0 → R (.bool false) H') ∧ (¬¬n =
  (0 : Int) → (¬n_3 = 0 → R (.bool false) H') ∧ (¬¬n_3 = 0 → I H' ∧ μ H' < μ H)))))) ∧ ((!c) = false → J H')) ∧ ∀ H_1, J H_1 → ∃ (J : Heap → Prop), (Ru 11 [v_1] H_1 fun r H' => ∃ c, r = .bool c ∧ ((!c) =
  true → R (.bool false) H') ∧ ((!c) = false → Ru 13 [v] H' fun r H' => ∃ n_3, r = .int .i64 n_3 ∧ (¬n_3 = n → R (.bool false) H') ∧ (¬¬n_3 = n → Ru 13 [v_1] H' fun r H' => ∃ n_4, r = .int .i64 n_4 ∧ (¬n_4 = n → R (.bool
  false) H') ∧ (¬¬n_4 = n → J H')))) ∧ ∀ H_2, J H_2 → I64 x1 ∧ (n < x1 → Ru 14 [v, .bool true] H_2 fun r H' => ∃ n_3, r = .int .i64 n_3 ∧ (¬n_3 = 0 → R (.bool false) H') ∧ (¬¬n_3 = 0 → Ru 14 [v_1, .bool
  true] H' fun r H' => ∃ n_4, r = .int .i64 n_4 ∧ (¬n_4 = 0 → R (.bool false) H') ∧ (¬¬n_4 = 0 → I64 (n + (1 : Int)) ∧ I (n + (1 : Int)) H' ∧ μ (n + (1 : Int)) H' < μ n H))) ∧ (¬n < x1 → I64 (n + (1 : Int))
  ∧ I (n + (1 : Int)) H_2 ∧ μ (n + (1 : Int)) H_2 < μ n H)) ∧ (¬n ≤ x1 → J H)) ∧ ∀ H, J H → I64 x1 ∧ ∃ n, rd H p_1 3 = some (.int .i64 n) ∧ Ru 15 [.int .i64 x1, .int .i64 n] H fun r H' => ∃ n n_3, r = .tuple #[.int .i64 n,
  .int .i64 n_3] ∧ ∃ (J : Heap → Prop), ((¬n_3 = 0 → R (.bool false) H') ∧ (¬¬n_3 = 0 → (n < (1 : Int) → R (.bool false) H') ∧ (¬n < (1 : Int) → J H'))) ∧ ∀ H, J H → Ru 16 [v] H fun r H' => ∃ (cs : List
  Value), cs.length = 3 ∧ r = .agg cs.toArray ∧ True ∧ ∃ (v_2 : Value), cs[2]? = some v_2 ∧ ∃ a l c, v_2 = .slice a l c ∧ ∃ (J : Int → Heap → Prop), (∃ (I : Int → Int → Heap → Prop), ∃ (μ : Int → Int → Heap →
  Nat), I (0 : Int) (0 : Int) H' ∧ ∀ H n_4 n_5, I n_4 n_5 H → (n_5 < (↑l : Int) → ∃ b o, At a b o ∧ ((0 : Int) ≤ n_5 ∧ n_5 < (↑l : Int)) ∧ ∃ n_6, rd H b (o + n_5.toNat) = some (.int .i64 n_6) ∧ ((0 : Int) ≤ n_6 → ∃ b o,
  At a b o ∧ ((0 : Int) ≤ n_5 ∧ n_5 < (↑l : Int)) ∧ ∃ n_7, rd H b (o + n_5.toNat) = some (.int .i64 n_7) ∧ ((0 : Int) ≤ n_7 ∧ (0 : Int) < n) ∧ (¬n_7 % n = 0 → R (.bool false) H) ∧ (¬¬n_7 % n = 0 → ∃ b o,
  At a b o ∧ ((0 : Int) ≤ n_5 ∧ n_5 < (↑l : Int)) ∧ ∃ n, rd H b (o + n_5.toNat) = some (.int .i64 n) ∧ ((0 : Int) ≤ n → I64 (n_4 + (1 : Int)) ∧ I64 (n_5 + (1 : Int)) ∧ I (n_4 + (1 : Int)) (n_5 + (1 : Int)) H ∧ μ (n_4 +
  (1 : Int)) (n_5 + (1 : Int)) H < μ n_4 n_5 H) ∧ (¬(0 : Int) ≤ n → I64 (n_5 + (1 : Int)) ∧ I n_4 (n_5 + (1 : Int)) H ∧ μ n_4 (n_5 + (1 : Int)) H < μ n_4 n_5 H))) ∧ (¬(0 : Int) ≤ n_6 → ∃ b o, At a b o ∧ ((0 : Int) ≤ n_5 ∧
  n_5 < (↑l : Int)) ∧ ∃ n, rd H b (o + n_5.toNat) = some (.int .i64 n) ∧ ((0 : Int) ≤ n → I64 (n_4 + (1 : Int)) ∧ I64 (n_5 + (1 : Int)) ∧ I (n_4 + (1 : Int)) (n_5 + (1 : Int)) H ∧ μ (n_4 + (1 : Int)) (n_5 + (1 : Int)) H
  < μ n_4 n_5 H) ∧ (¬(0 : Int) ≤ n → I64 (n_5 + (1 : Int)) ∧ I n_4 (n_5 + (1 : Int)) H ∧ μ n_4 (n_5 + (1 : Int)) H < μ n_4 n_5 H))) ∧ (¬n_5 < (↑l : Int) → J n_4 H)) ∧ ∀ H n_4, J n_4 H → Ru 14 [v_1, .bool !x2] H fun r H' =>
  ∃ n_5, r = .int .i64 n_5 ∧ ∃ (J : Heap → Prop), (I64 x1 ∧ ((0 : Int) ≤ x1 ∧ (0 : Int) < n ∧ I64 x1) ∧ I64 (x1 / n + (1 : Int)) ∧ (¬n_4 = x1 / n + (1 : Int) → R (.bool false) H') ∧ (¬¬n_4 = x1 / n + (1 : Int) → Ru 14 [v,
  .bool false] H' fun r H' => ∃ n, r = .int .i64 n ∧ (¬n = 0 → R (.bool false) H') ∧ (¬¬n = 0 → (¬n_5 = 0 → (x2 = true → R (.bool false) H') ∧ (x2 = false → (x1 < (65535 : Int) → R (.bool false) H')
  ∧ (¬x1 < (65535 : Int) → (¬n_5 = 14 → R (.bool false) H') ∧ (¬¬n_5 = 14 → J H')))) ∧ (¬¬n_5 = 0 → J H')))) ∧ ∀ H, J H → Ru 17 [v] H fun r H' => ∃ n n_6, r = .tuple #[.int .i64 n, .int .i64 n_6] ∧
  Ru 18 [v] H' fun r H' => ∃ cs : List Value, cs.length = 3 ∧ ∃ n, r = .tuple #[.agg cs.toArray, .int .i64 n] ∧ ∀ H'_2 p_2, New H' [.int .u64 0, .slice none 0 0, .slice none 0 0] 53 H'_2 p_2 → cs.length =
  3 ∧ (∀ v ∈ cs, One v) ∧ WOk H'_2 p_2 0 3 ∧ ∀ H', H' = wrL H'_2 p_2 0 cs → ∃ cs : List Value, cs.length = 2 ∧ RdL H' p 3 cs ∧ ∃ cs_1 : List Value, cs_1.length = 2 ∧ RdL H' p 5 cs_1 ∧ ∃ a l c,
  rd H' p 1 = some (.slice a l c) ∧ ∃ a_1 l_1 c_1, rd H' p 2 = some (.slice a_1 l_1 c_1) ∧ I64 x1 ∧ Ru 19 [.agg cs.toArray, .agg cs_1.toArray, .slice a l c, .slice a_1 l_1 c_1, .int .i64 x1] H' fun r H' => ∃
  (cs : List Value), cs.length = 3 ∧ ∃ n_7, r = .tuple #[.agg cs.toArray, .int .i64 n_7] ∧ ∀ H'_3 p, New H' [.int .u64 0, .slice none 0 0, .slice none 0 0] 53 H'_3 p → cs.length = 3 ∧ (∀ v ∈ cs
 , One v) ∧ WOk H'_3 p 0 3 ∧ ∀ H', H' = wrL H'_3 p 0 cs → ∃ (J : Heap → Prop), ((¬n_6 = 0 → R (.bool false) H') ∧ (¬¬n_6 = 0 → (¬n = 0 → R (.bool false) H') ∧ (¬¬n = 0 → (¬n_7 = 0
  → R (.bool false) H') ∧ (¬¬n_7 = 0 → ∃ cs : List Value, cs.length = 3 ∧ RdL H' p_2 0 cs ∧ ∃ cs_2 : List Value, cs_2.length = 3 ∧ RdL H' p 0 cs_2 ∧ Ru 20 [.agg cs.toArray, .agg (List.toArray
  cs_2)] H' fun r H' => ∃ c, r = .bool c ∧ ((!c) = true → R (.bool false) H') ∧ ((!c) = false → J H'))))) ∧ ∀ H, J H → ((!x2) = true → Ru 10 [] H fun r H' => ∃ c, r = .bool c ∧ R (.bool c) H') ∧ ((!x2) = false → Ru 17 [v_1]
  H fun r H' => ∃ n n_8, r = .tuple #[.int .i64 n, .int .i64 n_8] ∧ (n_8 = 0 → Ru 21 [v] H' fun r H' => ∃ cs : List Value, cs.length = 16 ∧ r = .agg cs.toArray ∧ Ru 21 [v_1] H' fun r H' => ∃ (cs_2 :
  List Value), cs_2.length = 16 ∧ r = .agg cs_2.toArray ∧ ∃ c, IsB Tryz.prog (cmpS BinOp.eql 59 (Operand.tmp 267) (Operand.tmp 269) (.agg cs.toArray) (.agg cs_2.toArray)) c ∧ (c = true → Ru 10 []
  H' fun r H' => ∃ c, r = .bool c ∧ R (.bool c) H') ∧ (c = false → R (.bool false) H')) ∧ (¬n_8 = 0 → R (.bool false) H'))) :
  Ru 3 [.agg x0.toArray, .int .u16 x1, .bool x2] H R :=
  vcr mixed ⟨fun | 9 => some [(13, .int .i64)] | 11 => some [] | 26 => some [(22, .int .i64), (24, .int .i64)] | _ => none, fun | 6 => some [] | 8 => some [] | 16 => some [] | 18 => some [] | 20 => some [] | 23 => some [] | 32 => some [(22, .int .i64)] | 35 => some [] | 40 => some [] | _ => none⟩ [.agg x0, .int .u16 x1, .bl x2] (by kernel_rfl) (by kernel_rfl) h
theorem v4 (x0 : List Value) (x1 : Option Addr) (l1 c1 : Nat) (h :
  ∀ H' p, New H x0 27 H' p → ∃ cs : List Value, cs.length = 9 ∧ RdL H' p 0 cs ∧ Ru 8 [.agg cs.toArray] H' fun r H' => ∃ cs : List Value, cs.length = 4 ∧ ∃ n, r = .tuple #[.agg cs.toArray, .int
  .i64 n] ∧ ∀ H'_1 p_1, New H' [.int .i64 0, .int .i64 0, .int .i64 0, .int .i64 0] 30 H'_1 p_1 → cs.length = 4 ∧ (∀ v ∈ cs, One v) ∧ WOk H'_1 p_1 0 4 ∧ ∀ H', H' = wrL H'_1 p_1 0 cs → ∃ (J : Heap →
  Prop), ((¬n = 0 → Ru 10 [] H' fun r H' => ∃ c, r = .bool c ∧ R (.bool c) H') ∧ (¬¬n = 0 → ∃ n, rd H' p 0 = some (.int .i64 n) ∧ (¬n = 1 → Ru 10 [] H' fun r H' => ∃ c, r = .bool c ∧ R (.bool c) H')
  ∧ (¬¬n = 1 → J H'))) ∧ ∀ H, J H → ∃ cs : List Value, cs.length = 9 ∧ RdL H p 0 cs ∧ Ru 22 [.agg cs.toArray, .int .i64 0] H fun r H' => ∃ cs : List Value, cs.length = 3 ∧ ∃ cs_1 : List Value,
  cs_1.length = 4 ∧ ∃ c, r = .tuple #[.agg cs.toArray, .agg cs_1.toArray, .bool c] ∧ ∀ H'_2 p_2, New H' [.int .u64 0, .slice none 0 0, .slice none 0 0] 53 H'_2 p_2 → ∀ H' p_3, New H'_2 [.int .i64 0, .int
  .i64 0, .int .i64 0, .int .i64 0] 64 H' p_3 → cs.length = 3 ∧ (∀ v ∈ cs, One v) ∧ WOk H' p_2 0 3 ∧ ∀ H'_3, H'_3 = wrL H' p_2 0 cs → cs_1.length = 4 ∧ (∀ v ∈ cs_1, One v) ∧ WOk
  H'_3 p_3 0 4 ∧ ∀ H', H' = wrL H'_3 p_3 0 cs_1 → ∃ n, rd H' p 7 = some (.int .i64 n) ∧ ∃ n_1, rd H' p_1 3 = some (.int .i64 n_1) ∧ Ru 23 [.int .i64 n, .int .i64 n_1, .slice x1 l1 c1] H' fun r H' => ∃ n n_2 n_3, r = .tuple
  #[.int .i64 n, .int .i64 n_2, .int .i64 n_3] ∧ (c = true → (¬n_3 = 0 → Ru 10 [] H' fun r H' => ∃ c, r = .bool c ∧ R (.bool c) H') ∧ (¬¬n_3 = 0 → ∃ n_4, rd H' p_3 0 = some (.int .i64 n_4) ∧ (n_4 ≤ n → Ru 10
  [] H' fun r H' => ∃ c, r = .bool c ∧ R (.bool c) H') ∧ (¬n_4 ≤ n → R (.bool false) H'))) ∧ (c = false → R (.bool false) H')) :
  Ru 4 [.agg x0.toArray, .slice x1 l1 c1] H R :=
  vcr mixed ⟨fun _ => none, fun | 4 => some [] | _ => none⟩ [.agg x0, .slc x1 l1 c1] (by kernel_rfl) (by kernel_rfl) h
theorem v5 (x0 : List Value) (x1 : UInt64) (x2 : Int) (h :
  ∀ H' p, New H x0 27 H' p → ∃ cs : List Value, cs.length = 9 ∧ RdL H' p 0 cs ∧ Ru 8 [.agg cs.toArray] H' fun r H' => ∃ cs : List Value, cs.length = 4 ∧ ∃ n, r = .tuple #[.agg cs.toArray, .int
  .i64 n] ∧ ∀ H'_1 p_1, New H' [.int .i64 0, .int .i64 0, .int .i64 0, .int .i64 0] 30 H'_1 p_1 → cs.length = 4 ∧ (∀ v ∈ cs, One v) ∧ WOk H'_1 p_1 0 4 ∧ ∀ H', H' = wrL H'_1 p_1 0 cs → (¬n = 0 →
  Ru 10 [] H' fun r H' => ∃ c, r = .bool c ∧ R (.bool c) H') ∧ (¬¬n = 0 → ∃ cs : List Value, cs.length = 9 ∧ RdL H' p 0 cs ∧ Ru 24 [.agg cs.toArray, .int .u16 x2] H' fun r H' => ∃ n, r = .int .i64 n ∧
  ∃ cs : List Value, cs.length = 9 ∧ RdL H' p 0 cs ∧ Ru 22 [.agg cs.toArray, .int .i64 n] H' fun r H' => ∃ cs : List Value, cs.length = 3 ∧ ∃ cs_1 : List Value, cs_1.length = 4 ∧ ∃ c, r = .tuple
  #[.agg cs.toArray, .agg cs_1.toArray, .bool c] ∧ ∀ H'_2 p_2, New H' [.int .u64 0, .slice none 0 0, .slice none 0 0] 53 H'_2 p_2 → ∀ H' p_3, New H'_2 [.int .i64 0, .int .i64 0, .int .i64 0, .int .i64 0] 64 H'
  p_3 → cs.length = 3 ∧ (∀ v ∈ cs, One v) ∧ WOk H' p_2 0 3 ∧ ∀ H'_3, H'_3 = wrL H' p_2 0 cs → cs_1.length = 4 ∧ (∀ v ∈ cs_1, One v) ∧ WOk H'_3 p_3 0 4 ∧ ∀ H', H' = wrL H'_3 p_3 0
  cs_1 → ∀ H'_4 q, New H' [] 3 H'_4 q → ∃ (J : Option Addr → Nat → Nat → Heap → Prop), (∃ (I : Option Addr → Nat → Nat → Int → Heap → Prop), ∃ (μ : Option Addr → Nat → Nat → Int → Heap → Nat), I (some ⟨q, 0, none⟩) 0 0 (0 :
  Int) H'_4 ∧ ∀ H a l c n, I a l c n H → ∃ a_2 l_1 c_1, rd H p 1 = some (.slice a_2 l_1 c_1) ∧ (n < (↑l_1 : Int) → ∀ H' q, New H [.int .i64 n] 3 H' q → ∃ new, new.length = 1 ∧ SlL H' (some ⟨q, 0, none⟩) new ∧ App 1 8 3
  [.int .i64 0] H' a l c 1 new fun a' l' c' H' => I64 (n + (1 : Int)) ∧ I a' l' c' (n + (1 : Int)) H' ∧ μ a' l' c' (n + (1 : Int)) H' < μ a l c n H) ∧ (¬n < (↑l_1 : Int) → J a l c H)) ∧ ∀ H a l c_1, J a l c_1 H → ∃ (cs :
  List Value), cs.length = 9 ∧ RdL H p 0 cs ∧ ∀ H' p_4, New H [.int .i64 0, .slice none 0 0, .slice none 0 0, .int .i64 0, .slice none 0 0, .int .i64 0, .slice none 0 0, .int .i64 0, .int .i64 0] 27 H' p_4 →
  cs.length = 9 ∧ (∀ v ∈ cs, One v) ∧ WOk H' p_4 0 9 ∧ ∀ H'_5, H'_5 = wrL H' p_4 0 cs → ∃ cs : List Value, cs.length = 2 ∧ RdL H'_5 p 3 cs ∧ Ru 25 [.agg cs.toArray, .slice a l c_1] H'_5
  fun r H' => ∃ cs : List Value, cs.length = 2 ∧ ∃ n_1, r = .tuple #[.agg cs.toArray, .int .i64 n_1] ∧ ∀ H'_6 p_5, New H' [.int .i64 0, .slice none 0 0] 25 H'_6 p_5 → cs.length = 2 ∧ (∀ v ∈   cs, One v) ∧ WOk H'_6 p_5 0 2 ∧ ∀ H', H' = wrL H'_6 p_5 0 cs → ∃ cs : List Value, cs.length = 2 ∧ RdL H' p 5 cs ∧ ∀ H'_7 q, New H' [.int .i64 0] 3 H'_7 q → Ru 25 [.agg cs.toArray, .slice (some ⟨q, 0,
  none⟩) 1 1] H'_7 fun r H' => ∃ cs : List Value, cs.length = 2 ∧ ∃ n_2, r = .tuple #[.agg cs.toArray, .int .i64 n_2] ∧ ∀ H'_8 p_6, New H' [.int .i64 0, .slice none 0 0] 25 H'_8 p_6 → cs.length = 2 ∧ (∀
  (v : Value), v ∈ cs → One v) ∧ WOk H'_8 p_6 0 2 ∧ ∀ H', H' = wrL H'_8 p_6 0 cs → ∃ cs : List Value, cs.length = 2 ∧ RdL H' p_5 0 cs ∧ cs.length = 2 ∧ (∀ v ∈ cs, One v) ∧ WOk H' p_4 3 2 ∧ ∀
  H'_9, H'_9 = wrL H' p_4 3 cs → ∃ cs : List Value, cs.length = 2 ∧ RdL H'_9 p_6 0 cs ∧ cs.length = 2 ∧ (∀ v ∈ cs, One v) ∧ WOk H'_9 p_4 5 2 ∧ ∀ H', H' = wrL H'_9 p_4 5 cs → ∃ cs : List Value,
  cs.length = 9 ∧ RdL H' p_4 0 cs ∧ Ru 22 [.agg cs.toArray, .int .i64 n] H' fun r H' => ∃ cs : List Value, cs.length = 3 ∧ ∃ cs_2 : List Value, cs_2.length = 4 ∧ ∃ c_2, r = .tuple #[.agg
  cs.toArray, .agg cs_2.toArray, .bool c_2] ∧ ∀ H'_10 p_7, New H' [.int .u64 0, .slice none 0 0, .slice none 0 0] 53 H'_10 p_7 → ∀ H' p_8, New H'_10 [.int .i64 0, .int .i64 0, .int .i64 0, .int .i64 0] 64 H'
  p_8 → cs.length = 3 ∧ (∀ v ∈ cs, One v) ∧ WOk H' p_7 0 3 ∧ ∀ H'_11, H'_11 = wrL H' p_7 0 cs → cs_2.length = 4 ∧ (∀ v ∈ cs_2, One v) ∧ WOk H'_11 p_8 0 4 ∧ ∀ H', H' = wrL H'_11
  p_8 0 cs_2 → ∃ (J : Heap → Prop), (((!c) = true → R (.bool false) H') ∧ ((!c) = false → (¬n_1 = 0 → R (.bool false) H') ∧ (¬¬n_1 = 0 → (¬n_2 = 0 → R (.bool false) H') ∧ (¬¬n_2 = 0 → ((!c_2)
  = true → R (.bool false) H') ∧ ((!c_2) = false → ∃ cs : List Value, cs.length = 3 ∧ RdL H' p_2 0 cs ∧ ∃ cs_3 : List Value, cs_3.length = 3 ∧ RdL H' p_7 0 cs_3 ∧ Ru 20 [.agg cs.toArray, .agg
  cs_3.toArray] H' fun r H' => ∃ c, r = .bool c ∧ ((!c) = true → R (.bool false) H') ∧ ((!c) = false → J H')))))) ∧ ∀ H, J H → ∃ n_3, rd H p 5 = some (.int .i64 n_3) ∧ ∃ cs : List Value, cs.length = 9 ∧ RdL H
  p 0 cs ∧ cs.length = 9 ∧ (∀ v ∈ cs, One v) ∧ WOk H p_4 0 9 ∧ ∀ H', H' = wrL H p_4 0 cs → I64 (n_3 + (1 : Int)) ∧ ∀ H'_12 q, New H' [] 74 H'_12 q → ∃ a l c, rd H'_12 p 6 = some (.slice a l c) ∧ ∃ new,
  new.length = l * 5 ∧ SlL H'_12 a new ∧ App 5 40 74 [.int .i64 0, .int .i64 0, .int .i64 0, .int .i64 0, .int .u64 0] H'_12 (some ⟨q, 0, none⟩) 0 0 l new fun a' l' c' H' => (List.length (α := Value) [.int .i64 5, .int
  .i64 n_3, .int .i64 0, .int .i64 0, .int .u64 (↑(UInt64.toNat x1) : Int)] = 5 ∧ List.length (α := Value) [.int .i64 3, .int .i64 0, .int .i64 0, .int .i64 n_3, .int .u64 0] = 5) ∧ ∀ H'_13 q, New H' [.int .i64 5, .int .i64
  n_3, .int .i64 0, .int .i64 0, .int .u64 (↑(UInt64.toNat x1) : Int), .int .i64 3, .int .i64 0, .int .i64 0, .int .i64 n_3, .int .u64 0] 74 H'_13 q → ∃ new, new.length = 10 ∧ SlL H'_13 (some ⟨q, 0, none⟩) new ∧ App 5
  40 74 [.int .i64 0, .int .i64 0, .int .i64 0, .int .i64 0, .int .u64 0] H'_13 a' l' c' 2 new fun a' l' c' H' => List.length (α := Value) [.int .i64 (n_3 + (1 : Int)), .slice a' l' c'] = 2 ∧ (∀ v ∈ [.int .i64
  (n_3 + (1 : Int)), .slice a' l' c'], One v) ∧ WOk H' p_4 5 2 ∧ ∀ H'_14, H'_14 = wrL H' p_4 5 [.int .i64 (n_3 + (1 : Int)), .slice a' l' c'] → ∃ cs : List Value, cs.length = 9 ∧ RdL H'_14 p_4 0 cs ∧ Ru 8 [.agg
  cs.toArray] H'_14 fun r H' => ∃ cs : List Value, cs.length = 4 ∧ ∃ n_4, r = .tuple #[.agg cs.toArray, .int .i64 n_4] ∧ ∀ H'_15 p, New H' [.int .i64 0, .int .i64 0, .int .i64 0, .int .i64 0] 30 H'_15 p
  → cs.length = 4 ∧ (∀ v ∈ cs, One v) ∧ WOk H'_15 p 0 4 ∧ ∀ H', H' = wrL H'_15 p 0 cs → (¬n_4 = 0 → Ru 10 [] H' fun r H' => ∃ c, r = .bool c ∧ R (.bool c) H') ∧ (¬¬n_4 = 0 → ∃ (cs :
  List Value), cs.length = 9 ∧ RdL H' p_4 0 cs ∧ Ru 22 [.agg cs.toArray, .int .i64 n] H' fun r H' => ∃ cs : List Value, cs.length = 3 ∧ ∃ cs_3 : List Value, cs_3.length = 4 ∧ ∃ c, r = .tuple #[.agg
  cs.toArray, .agg cs_3.toArray, .bool c] ∧ ∀ H'_16 p, New H' [.int .u64 0, .slice none 0 0, .slice none 0 0] 53 H'_16 p → ∀ H' p_9, New H'_16 [.int .i64 0, .int .i64 0, .int .i64 0, .int .i64 0] 64 H' p_9 →
  cs.length = 3 ∧ (∀ v ∈ cs, One v) ∧ WOk H' p 0 3 ∧ ∀ H'_17, H'_17 = wrL H' p 0 cs → cs_3.length = 4 ∧ (∀ v ∈ cs_3, One v) ∧ WOk H'_17 p_9 0 4 ∧ ∀ H', H' = wrL H'_17 p_9 0 cs_3 →
  ∃ (J : Heap → Prop), (((!c) = true → R (.bool false) H') ∧ ((!c) = false → ∃ a l c, rd H' p_2 1 = some (.slice a l c) ∧ ∃ a l_1 c, rd H' p 1 = some (.slice a l_1 c) ∧ (¬(↑l : Int) = (↑l_1 : Int) → R (.bool false) H') ∧
  (¬¬(↑l : Int) = (↑l_1 : Int) → ∃ a l c, rd H' p_2 2 = some (.slice a l c) ∧ ∃ a l_2 c, rd H' p 2 = some (.slice a l_2 c) ∧ (¬(↑l : Int) = (↑l_2 : Int) → R (.bool false) H') ∧ (¬¬(↑l : Int) = (↑l_2 : Int) → ∃ x, rd H' p 0
  = some (.int .u64 (↑(UInt64.toNat x) : Int)) ∧ ∃ x_1, rd H' p_2 0 = some (.int .u64 (↑(UInt64.toNat x_1) : Int)) ∧ ∀ H'_18 q, New H' [.int .u64 (↑(UInt64.toNat x1) : Int), .int .u64 (↑(UInt64.toNat x_1) : Int)] 51 H'_18 q
  → rd H'_18 p 0 = some (.int .u64 (↑(UInt64.toNat x) : Int)) ∧ Ru 26 [.slice (some ⟨q, 0, none⟩) 2 2] H'_18 fun r H' => ∃ x_2, r = .int .u64 (↑(UInt64.toNat x_2) : Int) ∧ rd H' p 0 = some (.int .u64 (↑(UInt64.toNat x) :
  Int)) ∧ (¬x = x_2 → R (.bool false) H') ∧ (¬¬x = x_2 → J H'))))) ∧ ∀ H, J H → ∃ (J : Heap → Prop), (∃ (I : Int → Heap → Prop), ∃ (μ : Int → Heap → Nat), I (0 : Int) H ∧ ∀ H n, I n H → ∃ a l c, rd H p_2 1 = some (.slice a
  l c) ∧ (n < (↑l : Int) → ∃ a l c, rd H p 1 = some (.slice a l c) ∧ ∃ b o, At a b o ∧ ((0 : Int) ≤ n ∧ n < (↑l : Int)) ∧ ∃ x, rd H b (o + n.toNat) = some (.int .u64 (↑(UInt64.toNat x) : Int)) ∧ ∃ a_4 l_1 c_3, rd H p_2
  1 = some (.slice a_4 l_1 c_3) ∧ ∃ b_1 o_1, At a_4 b_1 o_1 ∧ ((0 : Int) ≤ n ∧ n < (↑l_1 : Int)) ∧ ∃ x_1, rd H b_1 (o_1 + n.toNat) = some (.int .u64 (↑(UInt64.toNat x_1) : Int)) ∧ ∀ H' q, New H [.int .u64
  (↑(UInt64.toNat x1) : Int), .int .u64 (↑(UInt64.toNat x_1) : Int)] 51 H' q → rd H' b (o + n.toNat) = some (.int .u64 (↑(UInt64.toNat x) : Int)) ∧ rd H' p 1 = some (.slice a l c) ∧ Ru 26 [.slice (some ⟨q, 0, none⟩) 2
  2] H' fun r H' => ∃ x_2, r = .int .u64 (↑(UInt64.toNat x_2) : Int) ∧ rd H' b (o + n.toNat) = some (.int .u64 (↑(UInt64.toNat x) : Int)) ∧ rd H' p 1 = some (.slice a l c) ∧ (¬x = x_2 → R (.bool false) H') ∧ (¬¬x = x_2
  → I64 (n + (1 : Int)) ∧ I (n + (1 : Int)) H' ∧ μ (n + (1 : Int)) H' < μ n H)) ∧ (¬n < (↑l : Int) → J H)) ∧ ∀ H, J H → ∃ (I : Int → Heap → Prop), ∃ (μ : Int → Heap → Nat), I (0 : Int) H ∧ ∀ H n, I n H → ∃ a l c, rd H p_2 2
  = some (.slice a l c) ∧ (n < (↑l : Int) → ∃ a l c, rd H p 2 = some (.slice a l c) ∧ ∃ b o, At a b o ∧ ((0 : Int) ≤ n ∧ n < (↑l : Int)) ∧ ∃ x, rd H b (o + n.toNat) = some (.int .u64 (↑(UInt64.toNat x) : Int)) ∧ ∃ a_4
  l_1 c_3, rd H p_2 2 = some (.slice a_4 l_1 c_3) ∧ ∃ b_1 o_1, At a_4 b_1 o_1 ∧ ((0 : Int) ≤ n ∧ n < (↑l_1 : Int)) ∧ ∃ x_1, rd H b_1 (o_1 + n.toNat) = some (.int .u64 (↑(UInt64.toNat x_1) : Int)) ∧ ∀ H' q, New H [.int
  .u64 (↑(UInt64.toNat x1) : Int), .int .u64 (↑(UInt64.toNat x_1) : Int)] 51 H' q → rd H' b (o + n.toNat) = some (.int .u64 (↑(UInt64.toNat x) : Int)) ∧ rd H' p 2 = some (.slice a l c) ∧ Ru 26 [.slice (some ⟨q, 0,
  none⟩) 2 2] H' fun r H' => ∃ x_2, r = .int .u64 (↑(UInt64.toNat x_2) : Int) ∧ rd H' b (o + n.toNat) = some (.int .u64 (↑(UInt64.toNat x) : Int)) ∧ rd H' p 2 = some (.slice a l c) ∧ (¬x = x_2 → R (.bool false) H') ∧
  (¬¬x = x_2 → I64 (n + (1 : Int)) ∧ I (n + (1 : Int)) H' ∧ μ (n + (1 : Int)) H' < μ n H)) ∧ (¬n < (↑l : Int) → Ru 10 [] H fun r H' => ∃ c, r = .bool c ∧ R (.bool c) H')))) :
  Ru 5 [.agg x0.toArray, .int .u64 (x1.toNat : Int), .int .u16 x2] H R :=
  vcr mixed ⟨fun | 8 => some [(13, .slc), (14, .int .i64)] | 29 => some [(29, .int .i64)] | 34 => some [(30, .int .i64)] | _ => none, fun | 11 => some [(13, .slc)] | 19 => some [] | 28 => some [] | 33 => some [] | _ => none⟩ [.agg x0, .u64 x1, .int .u16 x2] (by kernel_rfl) (by kernel_rfl) h
theorem v6 (x0 : List Value) (x1 : Int) (x2 : Int) (h :
  ∀ H' p, New H x0 27 H' p → ∃ cs : List Value, cs.length = 9 ∧ RdL H' p 0 cs ∧ Ru 8 [.agg cs.toArray] H' fun r H' => ∃ cs : List Value, cs.length = 4 ∧ ∃ n, r = .tuple #[.agg cs.toArray, .int
  .i64 n] ∧ ∀ H'_1 p_1, New H' [.int .i64 0, .int .i64 0, .int .i64 0, .int .i64 0] 30 H'_1 p_1 → cs.length = 4 ∧ (∀ v ∈ cs, One v) ∧ WOk H'_1 p_1 0 4 ∧ ∀ H', H' = wrL H'_1 p_1 0 cs → ∃ (cs : List
  Value), cs.length = 9 ∧ RdL H' p 0 cs ∧ Ru 9 [.agg cs.toArray] H' fun r H' => ∃ v n_1, r = .tuple #[v, .int .i64 n_1] ∧ (¬n = 0 → (¬n_1 = 0 → ∃ a, v = .pointer a ∧ (a = none → Ru 10 [] H' fun r
  H' => ∃ c, r = .bool c ∧ R (.bool c) H') ∧ (¬a = none → R (.bool false) H')) ∧ (¬¬n_1 = 0 → R (.bool false) H')) ∧ (¬¬n = 0 → ∃ cs : List Value, cs.length = 9 ∧ RdL H' p 0 cs ∧ Ru 24 [.agg
  cs.toArray, .int .u16 x1] H' fun r H' => ∃ n, r = .int .i64 n ∧ ∃ cs : List Value, cs.length = 2 ∧ RdL H' p 3 cs ∧ ∃ cs_1 : List Value, cs_1.length = 2 ∧ RdL H' p 5 cs_1 ∧ ∃ a l c, rd H' p 1 = some
  (.slice a l c) ∧ ∃ a l_1 c, rd H' p 2 = some (.slice a l_1 c) ∧ Ru 27 [.agg cs.toArray, .agg cs_1.toArray, .int .i64 (↑l : Int), .slice a l_1 c] H' fun r H' => ∃ v_1 n_2, r = .tuple #[v_1, .int .i64 n_2] ∧ ∃
  a l c, rd H' p 1 = some (.slice a l c) ∧ Ru 28 [v_1, .slice a l c, .int .i64 n] H' fun r H' => ∃ a l c n_3, r = .tuple #[.slice a l c, .int .i64 n_3] ∧ ∃ n_4, rd H' p_1 3 = some (.int .i64 n_4) ∧ Ru 29 [.int .i64 n, .int
  .i64 n_4] H' fun r H' => ∃ v_2 n_5, r = .tuple #[v_2, .int .i64 n_5] ∧ ∃ (J : Heap → Prop), ((¬n_1 = 0 → R (.bool false) H') ∧ (¬¬n_1 = 0 → ∃ a, v = .pointer a ∧ (a = none → R (.bool false) H') ∧ (¬a =
  none → (¬n_2 = 0 → R (.bool false) H') ∧ (¬¬n_2 = 0 → (¬n_3 = 0 → R (.bool false) H') ∧ (¬¬n_3 = 0 → (¬n_5 = 0 → R (.bool false) H') ∧ (¬¬n_5 = 0 → ∃ a, v_2 = .pointer a ∧
  (a = none → R (.bool false) H') ∧ (¬a = none → I64 (n + (1 : Int)) ∧ (¬(↑l : Int) = n + (1 : Int) → R (.bool false) H') ∧ (¬¬(↑l : Int) = n + (1 : Int) → ∃ n, rd H' p 8 = some (.int .i64 n) ∧ Ru 30 [v] H' fun r H' => ∃ a
  l c, r = .slice a l c ∧ rd H' p 8 = some (.int .i64 n) ∧ (¬(↑l : Int) = n → R (.bool false) H') ∧ (¬¬(↑l : Int) = n → J H'))))))))) ∧ ∀ H, J H → ∃ n_6, rd H p_1 3 = some (.int .i64 n_6) ∧ ((0 : Int) ≤ n_6 ∧ n_6 ≤ n_6 ∧ (8
  : Int) * n_6 ≤ (281474976710656 : Int) ∧ I64 n_6) ∧ ∀ H' q, New H (rep (n_6.toNat) [.int .i64 0]) 3 H' q → ∀ H'_2 p_2, New H' [.int .i64 0, .int .i64 0, .slice (some ⟨q, 0, none⟩) (n_6.toNat) (n_6.toNat)] 89
  H'_2 p_2 → ∃ (J : Nat → Nat → Heap → Prop), (∃ (I : Nat → Nat → Int → Int → Heap → Prop), ∃ (μ : Nat → Nat → Int → Int → Heap → Nat), False ∧ ∀ H b o n_7 n_8, I b o n_7 n_8 H → Ru 31 [.pointer (some ⟨b, o, none⟩)] H fun r
  H' => ∃ c, r = .bool c ∧ ((!c) = true → ∃ (J : Nat → Nat → Heap → Prop), ((n_8 = x2 → Ru 32 [.pointer (some ⟨b, o, none⟩)] H' fun r H' => ∃ a l c n, r = .tuple #[.slice a l c, .int .i64 n] ∧ ∃ cs : List Value,
  cs.length = 9 ∧ RdL H' p 0 cs ∧ Ru 33 [.agg cs.toArray, .slice a l c] H' fun r H' => ∃ v n_9, r = .tuple #[v, .int .i64 n_9] ∧ (¬n = 0 → R (.bool false) H') ∧ (¬¬n = 0 → (¬n_9 = 0 → R
  (.bool false) H') ∧ (¬¬n_9 = 0 → ∃ a, v = .pointer a ∧ (a = none → R (.bool false) H') ∧ (¬a = none → False)))) ∧ (¬n_8 = x2 → J b o H')) ∧ ∀ H_1 b_1 o_1, J b_1 o_1 H_1 → ∃ (J : Int → Heap → Prop), (∃ (I : Int →
  Heap → Prop), ∃ (μ : Int → Heap → Nat), I n_7 H_1 ∧ ∀ H n_9, I n_9 H → Ru 11 [.pointer (some ⟨b_1, o_1, none⟩)] H fun r H' => ∃ c, r = .bool c ∧ (c = true → I64 (n_9 + (1 : Int)) ∧ I64 (n + (1 : Int)) ∧ (n + (1 : Int) <
  n_9 + (1 : Int) → R (.bool false) H') ∧ (¬n + (1 : Int) < n_9 + (1 : Int) → Ru 14 [.pointer (some ⟨b_1, o_1, none⟩), .bool (decide (n_9 + (1 : Int) ≤ n))] H' fun r H' => ∃ n, r = .int .i64 n ∧ (¬n = 0 → R (.bool
  false) H') ∧ (¬¬n = 0 → I (n_9 + (1 : Int)) H' ∧ μ (n_9 + (1 : Int)) H' < μ n_9 H))) ∧ (c = false → J n_9 H')) ∧ ∀ H_2 n_9, J n_9 H_2 → Ru 31 [.pointer (some ⟨b_1, o_1, none⟩)] H_2 fun r H' => ∃ c, r = .bool c ∧
  (c = true → R (.bool false) H') ∧ (c = false → Ru 12 [.pointer (some ⟨b_1, o_1, none⟩)] H' fun r H' => ∃ cs : List Value, cs.length = 2 ∧ ∃ c n_10, r = .tuple #[.agg cs.toArray, .bool c, .int .i64 n_10] ∧ ∀
  H'_3 p_3, New H' [.int .i64 0, .int .i64 0] 39 H'_3 p_3 → cs.length = 2 ∧ (∀ v ∈ cs, One v) ∧ WOk H'_3 p_3 0 2 ∧ ∀ H', H' = wrL H'_3 p_3 0 cs → ∃ (J : Heap → Prop), (((!c) = true → R (.bool false)
  H') ∧ ((!c) = false → (¬n_10 = 0 → R (.bool false) H') ∧ (¬¬n_10 = 0 → J H'))) ∧ ∀ H_3, J H_3 → ∃ (J : Heap → Prop), (∃ n, rd H_3 p 0 = some (.int .i64 n) ∧ (n = 3 → Ru 16 [.pointer (some ⟨b_1,
  o_1, none⟩)] H_3 fun r H' => ∃ cs : List Value, cs.length = 3 ∧ r = .agg cs.toArray ∧ True ∧ ∃ v, cs[0]? = some v ∧ ∃ n, v = .int .i64 n ∧ WOk H' p_2 0 1 ∧ ∀ H'_4, H'_4 = wr H' p_2 0 (.int .i64 n) → J H'_4)
  ∧ (¬n = 3 → ∃ cs : List Value, cs.length = 2 ∧ RdL H_3 p_3 0 cs ∧ Ru 34 [v_2, .agg cs.toArray] H_3 fun r H' => ∃ n, r = .int .i64 n ∧ (¬n = 0 → R (.bool false) H') ∧ (¬¬n = 0 → ∃ (cs
  : List Value), cs.length = 2 ∧ RdL H' p_3 0 cs ∧ Ru 35 [.pointer (some ⟨p_2, 0, none⟩), .agg cs.toArray] H' fun r H' => ∃ n, rd H' p_2 1 = some (.int .i64 n) ∧ ∃ n_11, rd H' p_1 3 = some (.int .i64 n_11) ∧
  (n_11 < n → R (.bool false) H') ∧ (¬n_11 < n → ∃ n, rd H' p_1 0 = some (.int .i64 n) ∧ ∃ n_12, rd H' p_1 2 = some (.int .i64 n_12) ∧ ∃ n_13, rd H' p_2 1 = some (.int .i64 n_13) ∧ I64 (n_12 * n_13) ∧ I64 (n + n_12 * n_13)
  ∧ Ru 36 [.pointer (some ⟨b_1, o_1, none⟩)] H' fun r H' => ∃ n_14, r = .int .i64 n_14 ∧ rd H' p_2 1 = some (.int .i64 n_13) ∧ rd H' p_1 2 = some (.int .i64 n_12) ∧ rd H' p_1 0 = some (.int .i64 n) ∧ (¬n_14 = n + n_12 *
  n_13 → R (.bool false) H') ∧ (¬¬n_14 = n + n_12 * n_13 → J H'))))) ∧ ∀ H_4, J H_4 → ∃ n_11, rd H_4 p_2 0 = some (.int .i64 n_11) ∧ (n_11 < (0 : Int) → R (.bool false) H_4) ∧ (¬n_11 < (0 : Int) → ∃ n_12, rd H_4 p_2 0 =
  some (.int .i64 n_12) ∧ (n < n_12 → R (.bool false) H_4) ∧ (¬n < n_12 → ∃ n, rd H_4 p_2 0 = some (.int .i64 n) ∧ ∃ b_2 o_2, At a b_2 o_2 ∧ ((0 : Int) ≤ n ∧ n < (↑l : Int)) ∧ ∃ a l c, rd H_4 b_2 (o_2 + n.toNat) = some
  (.slice a l c) ∧ Ru 38 [.pointer (some ⟨b_1, o_1, none⟩)] H_4 fun r H' => ∃ a_15 l_2 c_1, r = .slice a_15 l_2 c_1 ∧ rd H' b_2 (o_2 + n.toNat) = some (.slice a l c) ∧ rd H' p_2 0 = some (.int .i64 n) ∧ Ru 37 [.slice
  a_15 l_2 c_1, .slice a l c] H' fun r H' => ∃ c, r = .bool c ∧ ((!c) = true → R (.bool false) H') ∧ ((!c) = false → ∃ n, rd H' p 8 = some (.int .i64 n) ∧ Ru 36 [.pointer (some ⟨b_1, o_1, none⟩)] H' fun r H' => ∃ n_13, r =
  .int .i64 n_13 ∧ rd H' p 8 = some (.int .i64 n) ∧ (n < n_13 → R (.bool false) H') ∧ (¬n < n_13 → ∃ n, rd H' p 8 = some (.int .i64 n) ∧ Ru 39 [.pointer (some ⟨b_1, o_1, none⟩)] H' fun r H' => ∃ n_14, r = .int .i64 n_14 ∧
  rd H' p 8 = some (.int .i64 n) ∧ (n < n_14 → R (.bool false) H') ∧ (¬n < n_14 → I64 (n_8 + (1 : Int)) ∧ I b_1 o_1 n_9 (n_8 + (1 : Int)) H' ∧ μ b_1 o_1 n_9 (n_8 + (1 : Int)) H' < μ b o n_7 n_8 H))))))) ∧ ((!c) = false → J
  b o H')) ∧ ∀ H b o, J b o H → Ru 18 [.pointer (some ⟨b, o, none⟩)] H fun r H' => ∃ cs : List Value, cs.length = 3 ∧ ∃ n_7, r = .tuple #[.agg cs.toArray, .int .i64 n_7] ∧ ∀ H'_3 p_3, New H' [.int .u64 0,
  .slice none 0 0, .slice none 0 0] 53 H'_3 p_3 → cs.length = 3 ∧ (∀ v ∈ cs, One v) ∧ WOk H'_3 p_3 0 3 ∧ ∀ H', H' = wrL H'_3 p_3 0 cs → ∃ cs : List Value, cs.length = 2 ∧ RdL H' p 3 cs ∧ ∃ (cs_2
  : List Value), cs_2.length = 2 ∧ RdL H' p 5 cs_2 ∧ ∃ a l c, rd H' p 1 = some (.slice a l c) ∧ ∃ a_4 l_2 c_1, rd H' p 2 = some (.slice a_4 l_2 c_1) ∧ Ru 19 [.agg cs.toArray, .agg cs_2.toArray, .slice a l
  c, .slice a_4 l_2 c_1, .int .i64 n] H' fun r H' => ∃ cs : List Value, cs.length = 3 ∧ ∃ n_8, r = .tuple #[.agg cs.toArray, .int .i64 n_8] ∧ ∀ H'_4 p_4, New H' [.int .u64 0, .slice none 0 0, .slice none 0 0]
  53 H'_4 p_4 → cs.length = 3 ∧ (∀ v ∈ cs, One v) ∧ WOk H'_4 p_4 0 3 ∧ ∀ H', H' = wrL H'_4 p_4 0 cs → (n_7 = 0 → (n_8 = 0 → ∃ cs : List Value, cs.length = 3 ∧ RdL H' p_3 0 cs ∧ ∃
  (cs_3 : List Value), cs_3.length = 3 ∧ RdL H' p_4 0 cs_3 ∧ Ru 20 [.agg cs.toArray, .agg cs_3.toArray] H' fun r H' => ∃ c, r = .bool c ∧ (c = true → ∃ n_9, rd H' p 0 = some (.int .i64 n_9) ∧ (n_9 = (3 :
  Int) → ∃ cs : List Value, cs.length = 9 ∧ RdL H' p 0 cs ∧ ∃ n_10, rd H' p_1 3 = some (.int .i64 n_10) ∧ Ru 42 [.pointer (some ⟨b, o, none⟩)] H' fun r H' => ∃ cs_4 : List Value, cs_4.length = 4 ∧ r = .agg
  cs_4.toArray ∧ rd H' p_1 3 = some (.int .i64 n_10) ∧ RdL H' p 0 cs ∧ Ru 41 [.agg cs.toArray, .int .i64 n, .int .i64 n_10, .agg cs_4.toArray] H' fun r H' => ∃ c, r = .bool c ∧ (c = true → ∃ n, rd H' p
  8 = some (.int .i64 n) ∧ Ru 30 [.pointer (some ⟨b, o, none⟩)] H' fun r H' => ∃ a l c, r = .slice a l c ∧ rd H' p 8 = some (.int .i64 n) ∧ ((↑l : Int) = n → Ru 10 [] H' fun r H' => ∃ c, r = .bool c ∧ R (.bool c) H') ∧
  (¬(↑l : Int) = n → R (.bool false) H')) ∧ (c = false → R (.bool false) H')) ∧ (¬n_9 = 3 → Ru 40 [v_2] H' fun r H' => ∃ c, r = .bool c ∧ (c = true → ∃ cs : List Value, cs.length = 9 ∧ RdL H' p 0 cs ∧ ∃ n_10,
  rd H' p_1 3 = some (.int .i64 n_10) ∧ Ru 42 [.pointer (some ⟨b, o, none⟩)] H' fun r H' => ∃ cs_4 : List Value, cs_4.length = 4 ∧ r = .agg cs_4.toArray ∧ rd H' p_1 3 = some (.int .i64 n_10) ∧ RdL H' p 0 cs ∧
  Ru 41 [.agg cs.toArray, .int .i64 n, .int .i64 n_10, .agg cs_4.toArray] H' fun r H' => ∃ c, r = .bool c ∧ (c = true → ∃ n, rd H' p 8 = some (.int .i64 n) ∧ Ru 30 [.pointer (some ⟨b, o, none⟩)] H' fun r H' =>
  ∃ a l c, r = .slice a l c ∧ rd H' p 8 = some (.int .i64 n) ∧ ((↑l : Int) = n → Ru 10 [] H' fun r H' => ∃ c, r = .bool c ∧ R (.bool c) H') ∧ (¬(↑l : Int) = n → R (.bool false) H')) ∧ (c = false → R (.bool false) H')) ∧ (c
  = false → R (.bool false) H'))) ∧ (c = false → R (.bool false) H')) ∧ (¬n_8 = 0 → R (.bool false) H')) ∧ (¬n_7 = 0 → R (.bool false) H'))) :
  Ru 6 [.agg x0.toArray, .int .u16 x1, .int .i64 x2] H R :=
  vcr mixed ⟨fun | 14 => some [(9, .ptr), (19, .int .i64), (20, .int .i64)] | 22 => some [(19, .int .i64)] | _ => none, fun | 11 => some [] | 22 => some [(9, .ptr)] | 26 => some [(19, .int .i64)] | 31 => some [] | 38 => some [] | 40 => some [(9, .ptr)] | _ => none⟩ [.agg x0, .int .u16 x1, .int .i64 x2] (by kernel_rfl) (by kernel_rfl) h
theorem v7 (x0 : List Value) (x1 : Int) (h :
  ∀ H' p, New H x0 27 H' p → ∃ cs : List Value, cs.length = 9 ∧ RdL H' p 0 cs ∧ Ru 8 [.agg cs.toArray] H' fun r H' => ∃ cs : List Value, cs.length = 4 ∧ ∃ n, r = .tuple #[.agg cs.toArray, .int
  .i64 n] ∧ ∀ H'_1 p_1, New H' [.int .i64 0, .int .i64 0, .int .i64 0, .int .i64 0] 30 H'_1 p_1 → cs.length = 4 ∧ (∀ v ∈ cs, One v) ∧ WOk H'_1 p_1 0 4 ∧ ∀ H', H' = wrL H'_1 p_1 0 cs → (¬n = 0 →
  Ru 10 [] H' fun r H' => ∃ c, r = .bool c ∧ R (.bool c) H') ∧ (¬¬n = 0 → ∃ cs : List Value, cs.length = 9 ∧ RdL H' p 0 cs ∧ Ru 24 [.agg cs.toArray, .int .u16 x1] H' fun r H' => ∃ n, r = .int .i64 n ∧
  ∃ cs : List Value, cs.length = 2 ∧ RdL H' p 3 cs ∧ ∃ cs_1 : List Value, cs_1.length = 2 ∧ RdL H' p 5 cs_1 ∧ ∃ a l c, rd H' p 1 = some (.slice a l c) ∧ ∃ a l_1 c, rd H' p 2 = some (.slice a l_1 c) ∧ Ru 43
  [.agg cs.toArray, .agg cs_1.toArray, .int .i64 (↑l : Int), .int .i64 (↑l_1 : Int), .int .i64 n] H' fun r H' => ∃ cs : List Value, cs.length = 2 ∧ ∃ n_1, r = .tuple #[.agg cs.toArray, .int .i64
  n_1] ∧ ∀ H'_2 p_2, New H' [.int .i64 0, .slice none 0 0] 101 H'_2 p_2 → cs.length = 2 ∧ (∀ v ∈ cs, One v) ∧ WOk H'_2 p_2 0 2 ∧ ∀ H', H' = wrL H'_2 p_2 0 cs → (¬n_1 = 0 → (n_1 = 20 →
  Ru 10 [] H' fun r H' => ∃ c, r = .bool c ∧ R (.bool c) H') ∧ (¬n_1 = 20 → R (.bool false) H')) ∧ (¬¬n_1 = 0 → ∃ cs : List Value, cs.length = 9 ∧ RdL H' p 0 cs ∧ Ru 22 [.agg cs.toArray, .int
  .i64 n] H' fun r H' => ∃ cs : List Value, cs.length = 3 ∧ ∃ cs_2 : List Value, cs_2.length = 4 ∧ ∃ c, r = .tuple #[.agg cs.toArray, .agg cs_2.toArray, .bool c] ∧ ∀ H'_3 p_3, New H' [.int .u64
  0, .slice none 0 0, .slice none 0 0] 53 H'_3 p_3 → ∀ H' p_4, New H'_3 [.int .i64 0, .int .i64 0, .int .i64 0, .int .i64 0] 64 H' p_4 → cs.length = 3 ∧ (∀ v ∈ cs, One v) ∧ WOk H' p_3 0 3 ∧ ∀ H'_4,
  H'_4 = wrL H' p_3 0 cs → cs_2.length = 4 ∧ (∀ v ∈ cs_2, One v) ∧ WOk H'_4 p_4 0 4 ∧ ∀ H', H' = wrL H'_4 p_4 0 cs_2 → ∃ a l c_1, rd H' p 1 = some (.slice a l c_1) ∧ ∃ a_1 l_2 c_2, rd H' p 2 = some
  (.slice a_1 l_2 c_2) ∧ ∀ H'_5 q, New H' [] 51 H'_5 q → rd H'_5 p 2 = some (.slice a_1 l_2 c_2) ∧ rd H'_5 p 1 = some (.slice a l c_1) ∧ ∃ new, new.length = l ∧ SlL H'_5 a new ∧ App 1 8 51 [.int .u64 0] H'_5 (some ⟨q,
  0, none⟩) 0 0 l new fun a' l' c' H' => rd H' p 2 = some (.slice a_1 l_2 c_2) ∧ ∃ new, new.length = l_2 ∧ SlL H' a_1 new ∧ App 1 8 51 [.int .u64 0] H' a' l' c' l_2 new fun a' l' c' H' => ∃ a l c_3, rd H' p_3 1 = some
  (.slice a l c_3) ∧ ∃ a_3 l_3 c_4, rd H' p_3 2 = some (.slice a_3 l_3 c_4) ∧ ∀ H'_6 q, New H' [] 51 H'_6 q → rd H'_6 p_3 2 = some (.slice a_3 l_3 c_4) ∧ rd H'_6 p_3 1 = some (.slice a l c_3) ∧ ∃ new, new.length = l ∧
  SlL H'_6 a new ∧ App 1 8 51 [.int .u64 0] H'_6 (some ⟨q, 0, none⟩) 0 0 l new fun a'_1 l'_1 c'_1 H' => rd H' p_3 2 = some (.slice a_3 l_3 c_4) ∧ ∃ new, new.length = l_3 ∧ SlL H' a_3 new ∧ App 1 8 51 [.int .u64 0] H'
  a'_1 l'_1 c'_1 l_3 new fun a'_2 l'_2 c'_2 H' => ∃ cs : List Value, cs.length = 2 ∧ RdL H' p_2 0 cs ∧ Ru 44 [.agg cs.toArray, .slice a' l' c'] H' fun r H' => ∃ x n, r = .tuple #[.int .u64 (↑(UInt64.toNat x) :
  Int), .int .i64 n] ∧ ∃ (J : Heap → Prop), (((!c) = true → R (.bool false) H') ∧ ((!c) = false → (¬n = 0 → R (.bool false) H') ∧ (¬¬n = 0 → ∃ x_1, rd H' p_3 0 = some (.int .u64 (↑(UInt64.toNat x_1) : Int))
  ∧ (¬x = x_1 → R (.bool false) H') ∧ (¬¬x = x_1 → (¬(↑l'_2 : Int) = (↑l' : Int) → R (.bool false) H') ∧ (¬¬(↑l'_2 : Int) = (↑l' : Int) → J H'))))) ∧ ∀ H, J H → ∃ (I : Int → Heap → Prop), ∃ (μ : Int → Heap → Nat), I (0 :
  Int) H ∧ ∀ H n, I n H → (n < (↑l' : Int) → ∃ cs : List Value, cs.length = 2 ∧ RdL H p_2 0 cs ∧ Ru 45 [.agg cs.toArray, .int .i64 n] H fun r H' => ∃ cs : List Value, cs.length = 2 ∧ ∃ n_2, r = .tuple
  #[.agg cs.toArray, .int .i64 n_2] ∧ ∀ H'_7 p, New H' [.int .i64 0, .slice none 0 0] 101 H'_7 p → cs.length = 2 ∧ (∀ v ∈ cs, One v) ∧ WOk H'_7 p 0 2 ∧ ∀ H', H' = wrL H'_7 p 0 cs → ∃ (cs : List
  Value), cs.length = 2 ∧ RdL H' p 0 cs ∧ Ru 44 [.agg cs.toArray, .slice a' l' c'] H' fun r H' => ∃ x n_3, r = .tuple #[.int .u64 (↑(UInt64.toNat x) : Int), .int .i64 n_3] ∧ (¬n_2 = 0 → R (.bool false)
  H') ∧ (¬¬n_2 = 0 → (¬n_3 = 0 → R (.bool false) H') ∧ (¬¬n_3 = 0 → ∃ b o, At a'_2 b o ∧ ((0 : Int) ≤ n ∧ n < (↑l'_2 : Int)) ∧ ∃ x_1, rd H' b (o + n.toNat) = some (.int .u64 (↑(UInt64.toNat x_1)
  : Int)) ∧ (¬x = x_1 → R (.bool false) H') ∧ (¬¬x = x_1 → I64 (n + (1 : Int)) ∧ I (n + (1 : Int)) H' ∧ μ (n + (1 : Int)) H' < μ n H)))) ∧ (¬n < (↑l' : Int) → Ru 10 [] H fun r H' => ∃ c, r = .bool c ∧ R (.bool c) H')))) :
  Ru 7 [.agg x0.toArray, .int .u16 x1] H R :=
  vcr mixed ⟨fun | 15 => some [(17, .int .i64)] | _ => none, fun | 14 => some [] | _ => none⟩ [.agg x0, .int .u16 x1] (by kernel_rfl) (by kernel_rfl) h
theorem v10  (h :
  Ru 51 [] H fun r H' => ∃ cs : List Value, cs.length = 9 ∧ r = .agg cs.toArray ∧ ∀ H'_1 p, New H' [.int .i64 0, .slice none 0 0, .slice none 0 0, .int .i64 0, .slice none 0 0, .int .i64 0, .slice none 0 0,
  .int .i64 0, .int .i64 0] 27 H'_1 p → cs.length = 9 ∧ (∀ v ∈ cs, One v) ∧ WOk H'_1 p 0 9 ∧ ∀ H', H' = wrL H'_1 p 0 cs → 2 = 2 ∧ (∀ v ∈ [.int .i64 3, .slice none 0 0], One v) ∧ WOk H'
  p 3 2 ∧ ∀ H'_2, H'_2 = wrL H' p 3 [.int .i64 3, .slice none 0 0] → (5 = 5 ∧ 5 = 5 ∧ 5 = 5 ∧ 5 = 5) ∧ ∀ H' q, New H'_2 [.int .i64 3, .int .i64 2, .int .i64 0, .int .i64 0, .int .u64 0, .int .i64 1, .int .i64 0, .int .i64
  0, .int .i64 2, .int .u64 0, .int .i64 5, .int .i64 2, .int .i64 0, .int .i64 0, .int .u64 9223372036854775808, .int .i64 3, .int .i64 0, .int .i64 0, .int .i64 2, .int .u64 0] 74 H' q → List.length (α := Value) [.int
  .i64 3, .slice (some ⟨q, 0, none⟩) 4 4] = 2 ∧ (∀ v ∈ [.int .i64 3, .slice (some ⟨q, 0, none⟩) 4 4], One v) ∧ WOk H' p 5 2 ∧ ∀ H'_3, H'_3 = wrL H' p 5 [.int .i64 3, .slice (some ⟨q, 0, none⟩) 4 4] → ∃ (cs
  : List Value), cs.length = 9 ∧ RdL H'_3 p 0 cs ∧ Ru 9 [.agg cs.toArray] H'_3 fun r H' => ∃ v n, r = .tuple #[v, .int .i64 n] ∧ ∃ (J : Heap → Prop), ((¬n = 0 → R (.bool false) H') ∧ (¬¬n = 0 → ∃
  a, v = .pointer a ∧ (a = none → R (.bool false) H') ∧ (¬a = none → J H'))) ∧ ∀ H, J H → Ru 17 [v] H fun r H' => ∃ n n_1, r = .tuple #[.int .i64 n, .int .i64 n_1] ∧ Ru 18 [v] H' fun r H' => ∃ cs : List Value, List.length
  cs = 3 ∧ ∃ n, r = .tuple #[.agg cs.toArray, .int .i64 n] ∧ ∀ H'_4 p, New H' [.int .u64 0, .slice none 0 0, .slice none 0 0] 53 H'_4 p → cs.length = 3 ∧ (∀ v ∈ cs, One v) ∧ WOk H'_4 p 0 3 ∧ ∀
  H', H' = wrL H'_4 p 0 cs → (n_1 = 0 → (n = 0 → Ru 31 [v] H' fun r H' => ∃ c, r = .bool c ∧ (c = true → ∃ cs : List Value, cs.length = 3 ∧ RdL H' p 0 cs ∧ ∀ H'_5 q, New H' [.int .u64
  9223372036854775808] 51 H'_5 q → ∀ H' q_1, New H'_5 [.int .u64 0] 51 H' q_1 → Ru 20 [.agg cs.toArray, .agg #[.int .u64 0, .slice (some ⟨q, 0, none⟩) 1 1, .slice (some ⟨q_1, 0, none⟩) 1 1]] H' fun r H' => ∃ c, r =
  .bool c ∧ R (.bool c) H') ∧ (c = false → R (.bool false) H')) ∧ (¬n = 0 → R (.bool false) H')) ∧ (¬n_1 = 0 → R (.bool false) H')) :
  Ru 10 [] H R :=
  vcr mixed ⟨fun _ => none, fun | 7 => some [] | _ => none⟩ [] (by kernel_rfl) (by kernel_rfl) h
theorem v51  (h :
  ∀ H' p, New H [.int .i64 0, .slice none 0 0, .slice none 0 0, .int .i64 0, .slice none 0 0, .int .i64 0, .slice none 0 0, .int .i64 0, .int .i64 0] 27 H' p → ∀ H'_1 q, New H' [.int .u64 5] 51 H'_1 q → ∀ H' q_1, New H'_1
  [.int .u64 2] 51 H' q_1 → 5 = 5 ∧ ∀ H'_2 q_2, New H' [.int .i64 1, .int .i64 0, .int .i64 0, .int .i64 2, .int .u64 0] 74 H'_2 q_2 → (List.length (α := Value) [.int .i64 3, .slice (some ⟨q_2, 0, none⟩) 1 1] = 2 ∧ 2 = 2) ∧
  List.length (α := Value) [.int .i64 1, .slice (some ⟨q, 0, none⟩) 1 1, .slice (some ⟨q_1, 0, none⟩) 1 1, .int .i64 3, .slice (some ⟨q_2, 0, none⟩) 1 1, .int .i64 2, .slice none 0 0, .int .i64 3, .int .i64 100] = 9 ∧ (∀ (v
  : Value), v ∈ [.int .i64 1, .slice (some ⟨q, 0, none⟩) 1 1, .slice (some ⟨q_1, 0, none⟩) 1 1, .int .i64 3, .slice (some ⟨q_2, 0, none⟩) 1 1, .int .i64 2, .slice none 0 0, .int .i64 3, .int .i64 100] → One v) ∧ WOk H'_2
  p 0 9 ∧ ∀ H', H' = wrL H'_2 p 0 [.int .i64 1, .slice (some ⟨q, 0, none⟩) 1 1, .slice (some ⟨q_1, 0, none⟩) 1 1, .int .i64 3, .slice (some ⟨q_2, 0, none⟩) 1 1, .int .i64 2, .slice none 0 0, .int .i64 3, .int .i64 100] → ∃
  (cs : List Value), cs.length = 9 ∧ RdL H' p 0 cs ∧ R (.agg cs.toArray) H') :
  Ru 51 [] H R :=
  vcr mixed nn [] (by kernel_rfl) (by kernel_rfl) h
end Go.VC
namespace Go.VC
open Go Go.Proofs
def ops4 : List Op := [⟨3, 2, 0, 0, 0⟩, ⟨1, 0, 0, 2, 0⟩, ⟨5, 2, 0, 0, 9223372036854775808⟩, ⟨3, 0, 0, 2, 0⟩]
def tree4 : Tree := .op ⟨3, 2, 0, 0, 0⟩ (.op ⟨1, 0, 0, 2, 0⟩ (.op ⟨5, 2, 0, 0, 9223372036854775808⟩ (.op ⟨3, 0, 0, 2, 0⟩ .nil)))
def hw : Hdr := ⟨1, [5], [2], ⟨3, []⟩, ⟨3, ops4⟩, 3, 100⟩
theorem good_none : GoodP hw.step .nil := ⟨⟨by decide, by decide, by decide⟩, ⟨by decide, by decide, by decide⟩, trivial, rfl, by decide, trivial, by decide⟩
theorem good_four : GoodP hw.loss tree4 := ⟨⟨by decide, by decide, by decide⟩, ⟨by decide, by decide, by decide⟩, ⟨by decide, by decide, by decide, by decide, by decide, by decide, by decide, by decide, trivial⟩, rfl, by decide, trivial, by decide⟩
theorem plan_hw : PlanOk hw := by
  have hl : (wr_ hw.loss : Int) = 4 := by rw [wr_eq good_four]; rfl
  have hs : (wr_ hw.step : Int) = 0 := by rw [wr_eq good_none]; rfl
  refine ⟨⟨by decide, ⟨_, good_none⟩, ⟨_, good_four⟩, by unfold dimsOk; decide, by unfold lenOk; decide, by decide⟩, ?_⟩
  have e1 : fixedOf hw = 13 := by
    unfold fixedOf partsOf
    simp only [hw]
    decide
  have e2 : tapeOf hw = 4 := by
    show (if hw.mode = 3 then (wr_ hw.loss : Int) else (wr_ hw.step : Int) + wr_ hw.loss) = 4
    rw [hl, hs]; rfl
  have e3 : slotOf hw = 2 := by
    show (if hw.mode = 3 then (wr_ hw.step : Int) + hw.step.regs else (hw.x.length : Int) + 1) = 2
    rw [hs]; rfl
  rw [e1, e2, e3]; decide
theorem unr_none : unr hw.step = [] := unr_eq good_none
theorem unr_four : unr hw.loss = ops4 := unr_eq good_four
theorem st_hw : ∀ t, st hw t = [5]
  | 0 => rfl
  | t + 1 => by
    rw [st, st_hw t, stepOut, unr_none]
    rfl
theorem loss_hw : lossOf hw 3 = 0 := by
  rw [lossOf, st_hw, lossOut, unr_four]; decide
theorem grad_hw : ∀ k, grad hw 3 k = ([9223372036854775808], [0])
  | 0 => by
    simp only [grad, pullLoss, lossTape, lossOut, st_hw, unr_four]
    decide
  | k + 1 => by
    have ih := grad_hw k
    simp only [grad, ih, pullStep, stepTape, stepOut, st_hw, unr_none]
    rfl
theorem ERun.l {h : Hdr} {ended : Bool} {d tags d' tags'} (r : ERun h ended d tags d' tags') : d'.l = d.l := by
  induction r with
  | refl => rfl
  | step _ _ _ ih => rw [ih]; rfl
theorem d0_cnt (h : Hdr) (x : Int) : DCnt (d0 h x) 0 := ⟨by simp [d0], by simp [d0], by simp [d0], by simp [d0]⟩
theorem c10 {H : Heap} {R : Value → Heap → Prop} (k : ∀ H', Ext H H' → R (.bool true) H') : Ru 10 [] H R := by
  refine v10 (v51 fun H1 p n1 H2 qx n2 H3 qt n3 => ⟨rfl, fun H4 qo n4 => ⟨⟨rfl, rfl⟩, rfl, ?_, ?_, fun H5 h5 => ?_⟩⟩)
  · intro x hx; simp at hx; rcases hx with rfl | rfl | rfl | rfl | rfl | rfl | rfl | rfl | rfl <;> trivial
  · exact (((n1.own.mod n2.mod (by simp)).mod n3.mod (by simp)).mod n4.mod (by simp)).w 0 9 rfl
  have op := ((n1.own.mod n2.mod (by simp)).mod n3.mod (by simp)).mod n4.mod (by simp)
  have e5 : Ext H H5 := (((n1.mod.new n2).new n3).new n4).trans_new (wrLM h5) (by have := n1.ge; simpa using this)
  have ox : Own H5 qx [.int .u64 5] := ((n2.own.mod n3.mod (by simp)).mod n4.mod (by simp)).mod (wrLM h5) (by have := n1.lt; have := n2.ge; simp; omega)
  have ot : Own H5 qt [.int .u64 2] := (n3.own.mod n4.mod (by simp)).mod (wrLM h5) (by have := n1.lt; have := n2.mod.1; have := n3.ge; simp; omega)
  refine ⟨[.int .i64 1, .slice (some ⟨qx, 0, none⟩) 1 1, .slice (some ⟨qt, 0, none⟩) 1 1, .int .i64 3, .slice (some ⟨qo, 0, none⟩) 1 1, .int .i64 2, .slice none 0 0, .int .i64 3, .int .i64 100], rfl, by rw [h5]; exact rdL_wrL op.2, ?_⟩
  refine ⟨[.int .i64 1, .slice (some ⟨qx, 0, none⟩) 1 1, .slice (some ⟨qt, 0, none⟩) 1 1, .int .i64 3, .slice (some ⟨qo, 0, none⟩) 1 1, .int .i64 2, .slice none 0 0, .int .i64 3, .int .i64 100], rfl, rfl, fun H6 s n6 => ⟨rfl, ?_, n6.own.w 0 9 rfl, fun H7 h7 => ⟨rfl, ?_, ?_, fun H8 h8 => ⟨⟨rfl, rfl, rfl, rfl⟩, fun H9 ql n9 => ⟨rfl, ?_, ?_, fun Ha ha => ?_⟩⟩⟩⟩⟩
  · intro x hx; simp at hx; rcases hx with rfl | rfl | rfl | rfl | rfl | rfl | rfl | rfl | rfl <;> trivial
  · intro x hx; simp at hx; rcases hx with rfl | rfl <;> trivial
  · exact (tmpE (cs := [.int .i64 1, .slice (some ⟨qx, 0, none⟩) 1 1, .slice (some ⟨qt, 0, none⟩) 1 1, .int .i64 3, .slice (some ⟨qo, 0, none⟩) 1 1, .int .i64 2, .slice none 0 0, .int .i64 3, .int .i64 100]) n6 rfl h7).2.w 3 2 rfl
  · intro x hx; simp at hx; rcases hx with rfl | rfl <;> trivial
  · obtain ⟨e7, o7⟩ := tmpE (cs := [.int .i64 1, .slice (some ⟨qx, 0, none⟩) 1 1, .slice (some ⟨qt, 0, none⟩) 1 1, .int .i64 3, .slice (some ⟨qo, 0, none⟩) 1 1, .int .i64 2, .slice none 0 0, .int .i64 3, .int .i64 100]) n6 rfl h7
    have o8 := o7.wrL 3 [.int .i64 3, .slice none 0 0] (by simp)
    rw [← h8] at o8
    exact (o8.mod n9.mod (by simp)).w 5 2 rfl
  obtain ⟨e7, o7⟩ := tmpE (cs := [.int .i64 1, .slice (some ⟨qx, 0, none⟩) 1 1, .slice (some ⟨qt, 0, none⟩) 1 1, .int .i64 3, .slice (some ⟨qo, 0, none⟩) 1 1, .int .i64 2, .slice none 0 0, .int .i64 3, .int .i64 100]) n6 rfl h7
  have o8 := o7.wrL 3 [.int .i64 3, .slice none 0 0] (by simp)
  rw [← h8] at o8
  have o9 := o8.mod n9.mod (by simp)
  have oa := o9.wrL 5 [.int .i64 3, .slice (some ⟨ql, 0, none⟩) 4 4] (by simp)
  rw [← ha] at oa
  have s5 : H5.size ≤ s := n6.ge
  have m58 : Ext H5 H8 := e7.trans_new (wrLM h8) (by simpa using s5)
  have m5a : Ext H5 Ha := (m58.new n9).trans_new (wrLM ha) (by simpa using s5)
  have hsq : s ≠ ql := by have := n6.lt; have := n9.ge; have : H8.size = H6.size := by rw [h8, h7, wrL_size, wrL_size]
                          omega
  have ol : Own Ha ql (opsC ops4) := n9.own.mod (wrLM ha) (by simpa using Ne.symm hsq)
  have e0a := e5.thenExt m5a
  let P : HAt := ⟨some ⟨qx, 0, none⟩, 1, some ⟨qt, 0, none⟩, 1, none, 0, some ⟨ql, 0, none⟩, 4⟩
  have rows : HRows Ha hw P := ⟨⟨rfl, .inr ⟨qx, 0, rfl, (ox.mod m5a (by simp)).1⟩⟩, ⟨rfl, .inr ⟨qt, 0, rfl, (ot.mod m5a (by simp)).1⟩⟩, ⟨rfl, .inl rfl⟩, ⟨rfl, .inr ⟨ql, 0, rfl, ol.1⟩⟩, by decide, by decide, by decide, by decide⟩
  refine ⟨hdrC hw P, rfl, oa.1, c9 hw P rows (fun hp Hb be b eng _ hbe hbl eb _ => ⟨_, _, rfl, ?_⟩) fun n _ _ hn _ => (hn plan_hw).elim⟩
  have eng := eng (by decide)
  refine ⟨fun H' => H' = Hb, ⟨fun h => (h rfl).elim, fun _ => ⟨_, rfl, fun h => by simp at h, fun _ => rfl⟩⟩, ?_⟩
  intro Hb' hb'; subst hb'
  have hm1 : hw.mode = 1 := rfl
  have hmu := offM_bound (off_first hp hm1)
  have hl3 : (d0 hw (fixedOf hw)).l = 3 := rfl
  rw [hl3] at hmu
  refine c17 eng (.inl hm1) (off_inv hm1 false) (off_first hp hm1) (B := 0) (d0_cnt _ _) (by rw [hl3]; omega) (by omega) fun n d' tags' s' Hc hnone hinv hrun engc mc => ⟨_, _, rfl, ?_⟩
  have hpend : d'.pend = 0 := off_end hm1 hinv hnone
  have hdl : d'.l = 3 := hrun.l
  have low : ∀ x ∈ [b.d, b.m, b.w], Ha.size ≤ x := by
    intro x hx; simp at hx
    rename_i di _ _
    rcases hx with rfl | rfl | rfl
    · exact di.d
    · exact di.m
    · exact di.w
  have e0c : Ext H Hc := (e0a.thenExt eb).trans_new mc (fun x hx => .inr (Nat.le_trans e0a.1 (low x hx)))
  obtain ⟨g1, g2, g3⟩ := engc.sem.gr (by omega)
  rw [hdl, hpend] at g1 g2
  rw [hdl] at g3
  have g1' : s'.ax = [9223372036854775808] := by rw [g1]; exact congrArg Prod.fst (grad_hw _)
  have g2' : s'.ag = [0] := by rw [g2]; exact congrArg Prod.snd (grad_hw _)
  have g3' : d'.loss = 0 := by rw [g3]; exact loss_hw
  refine c18 engc hpend fun Hd a1 c1 a2 c2 rx rt ed => ⟨_, rfl, _, rfl, fun He pe ne => ⟨rfl, ?_, ne.own.w 0 3 rfl, fun Hf hf => ⟨fun _ => ⟨fun _ => ?_, fun h => (h rfl).elim⟩, fun h => (h rfl).elim⟩⟩⟩
  · intro x hx; simp at hx; rcases hx with rfl | rfl | rfl <;> trivial
  obtain ⟨ef, of⟩ := tmpE (cs := [.int .u64 (d'.loss.toNat : Int), .slice a1 (nX hw) c1, .slice a2 (nT hw) c2]) ne rfl hf
  have ecf := ed.thenExt ef
  refine c31 (engc.ext ecf) (.inl hm1) fun Hg eg => ⟨_, rfl, fun _ => ?_, fun h => by rw [hnone, hpend] at h; simp at h⟩
  refine ⟨_, rfl, eg.rdL (by simp) of.1, fun Hh q1 nh Hi q2 ni => ?_⟩
  have efi := (eg.new nh).new ni
  rw [g3']
  rw [g1'] at rx
  rw [g2'] at rt
  refine c20 (w := 0) (x := [9223372036854775808]) (y := [0]) (Ext.row (ef.thenExt efi) rx) (Ext.row (ef.thenExt efi) rt) ⟨rfl, .inr ⟨q1, 0, rfl, ni.mod.rdL (by simp) nh.rdL⟩⟩ ⟨rfl, .inr ⟨q2, 0, rfl, ni.rdL⟩⟩ (by decide) (by decide) fun Hj ej => ⟨_, rfl, k Hj (((e0c.thenExt ecf).thenExt efi).thenExt ej)⟩
end Go.VC
namespace Go.VC
open Go Go.Proofs
theorem eqItems_same {P : Program} (w : World) (d : Nat) {e : TypeId} {k : IntKind} (he : P.underlying e = some (.int k)) (xs : Array Value) (hx : ∀ v ∈ xs.toList, ∃ k a, v = Value.int k a) : ∀ is : List Nat, (∀ i ∈ is, i < xs.size) → (Op.eqItems (d + 1) e 1 xs xs is).run P w = .ok true w
  | [], _ => by simp [Op.eqItems]
  | i :: is, h => by
    have hi := h i (by simp)
    have ih := eqItems_same w d he xs hx is fun j hj => h j (by simp [hj])
    obtain ⟨k', a, hv⟩ := hx xs[i] (by simp)
    have hp : xs[i * 1]? = some (.int k' a) := by simp only [Nat.mul_one]; rw [Array.getElem?_eq_getElem hi, hv]
    simp only [Op.eqItems, Sem.run_bind, run_partI he hp, Result.andThen_ok, run_equalIn_int w d e k' k a a he]
    simp [ih]
theorem eq59 (xo yo : Operand) {l : List UInt64} (hl : l.length = 16) : IsB Tryz.prog (cmpS BinOp.eql 59 xo yo (.agg (u64s l).toArray) (.agg (u64s l).toArray)) true := by
  intro w
  have hu : Program.underlying Tryz.prog 59 = some (.array 16 51) := by kernel_rfl
  have hm : Program.eqGuardType Tryz.prog (Program.depth Tryz.prog) 59 = false := by kernel_rfl
  have hc : Program.cellsOf Tryz.prog 51 = 1 := by kernel_rfl
  have hi0 : (Tryz.prog.info? 51).isSome = true := by kernel_rfl
  obtain ⟨i, hi⟩ := Option.isSome_iff_exists.1 hi0
  have he : Program.underlying Tryz.prog 51 = some (.int .u64) := by kernel_rfl
  unfold cmpS
  rw [Sem.run_bind, run_eqGuard_agg w BinOp.eql 59 xo yo _ _ hm, Result.andThen_ok, run_eql_struct]
  rw [run_equalIn_array w 9999 _ _ hu hi, hc, eqItems_same w 9998 he]
  · rfl
  · intro v hv
    simp only [u64s, List.mem_map] at hv
    obtain ⟨x, _, rfl⟩ := hv
    exact ⟨_, _, rfl⟩
  · intro j hj
    simp [hl]; simpa using hj
theorem neq39 (xo yo : Operand) (a b : Int) : IsB Tryz.prog (cmpS BinOp.neq 39 xo yo (.agg [Value.int .i64 a, .int .i64 b].toArray) (.agg [Value.int .i64 a, .int .i64 b].toArray)) false := by
  refine isB_neq [(3, 0), (3, 1)] (by kernel_rfl) (by kernel_rfl) (by kernel_rfl) (by kernel_rfl) (by kernel_rfl) ?_ ?_
  · intro q hq
    simp only [List.mem_cons, List.not_mem_nil, or_false] at hq
    rcases hq with rfl | rfl
    · exact ⟨⟨.i64, by kernel_rfl⟩, .i64, _, _, rfl, rfl⟩
    · exact ⟨⟨.i64, by kernel_rfl⟩, .i64, _, _, rfl, rfl⟩
  · simp [intOf]
end Go.VC
namespace Go.VC
open Go Go.Proofs
structure Two (n0 n : Nat) (h : Hdr) (A B : DB) (ea eb : Nat) : Prop where
  le : n0 ≤ n
  inA : DIn h A n0
  ea0 : n0 ≤ ea
  ea1 : ea < n
  a1 : A.d < n
  a2 : A.m < n
  a3 : A.w < n
  offA : ∀ S : List Nat, (∀ x ∈ S, n ≤ x) → DOff h A S
  inB : DIn h B n
  eb0 : n ≤ eb
theorem Two.keepB {n0 n : Nat} {h : Hdr} {A B : DB} {ea eb : Nat} (w : Two n0 n h A B ea eb) {S : List Nat} {H H' : Heap} {d : DS} {tags : List Int} {ended failed : Bool} {s : PS} {post : List UInt64} (e : EngS H eb B h d tags ended failed s post) (m : Mod S H H') (hS : ∀ x ∈ S, x ∈ [A.d, A.m, A.w, ea]) : EngS H' eb B h d tags ended failed s post := by
  have lt : ∀ x ∈ S, x < n := by
    intro x hx
    have := hS x hx
    simp only [List.mem_cons, List.not_mem_nil, or_false] at this
    rcases this with rfl | rfl | rfl | rfl
    · exact w.a1
    · exact w.a2
    · exact w.a3
    · exact w.ea1
  exact e.keep m (fun hb => by have := lt _ hb; have := w.eb0; omega) (w.inB.off lt)
theorem Two.keepA {n0 n : Nat} {h : Hdr} {A B : DB} {ea eb : Nat} (w : Two n0 n h A B ea eb) {S : List Nat} {H H' : Heap} {d : DS} {tags : List Int} {ended failed : Bool} {s : PS} {post : List UInt64} (e : EngS H ea A h d tags ended failed s post) (m : Mod S H H') (hS : ∀ x ∈ S, x ∈ [B.d, B.m, B.w, eb]) : EngS H' ea A h d tags ended failed s post := by
  have ge : ∀ x ∈ S, n ≤ x := by
    intro x hx
    have := hS x hx
    simp only [List.mem_cons, List.not_mem_nil, or_false] at this
    rcases this with rfl | rfl | rfl | rfl
    · exact w.inB.d
    · exact w.inB.m
    · exact w.inB.w
    · exact w.eb0
  exact e.keep m (fun hb => by have := ge _ hb; have := w.ea1; omega) (w.offA S ge)
theorem Two.geA {n0 n : Nat} {h : Hdr} {A B : DB} {ea eb : Nat} (w : Two n0 n h A B ea eb) : ∀ x ∈ [A.d, A.m, A.w, ea], n0 ≤ x := by
  intro x hx
  simp only [List.mem_cons, List.not_mem_nil, or_false] at hx
  rcases hx with rfl | rfl | rfl | rfl
  · exact w.inA.d
  · exact w.inA.m
  · exact w.inA.w
  · exact w.ea0
theorem Two.geB {n0 n : Nat} {h : Hdr} {A B : DB} {ea eb : Nat} (w : Two n0 n h A B ea eb) : ∀ x ∈ [B.d, B.m, B.w, eb], n0 ≤ x := by
  intro x hx
  have hle := w.le
  simp only [List.mem_cons, List.not_mem_nil, or_false] at hx
  rcases hx with rfl | rfl | rfl | rfl
  · have := w.inB.d; omega
  · have := w.inB.m; omega
  · have := w.inB.w; omega
  · have := w.eb0; omega
theorem Two.extA {H0 H H' : Heap} {n : Nat} {h : Hdr} {A B : DB} {ea eb : Nat} (w : Two H0.size n h A B ea eb) (e : Ext H0 H) {S : List Nat} (m : Mod S H H') (hS : ∀ x ∈ S, x ∈ [A.d, A.m, A.w, ea]) : Ext H0 H' := e.trans_new m fun x hx => .inr (w.geA x (hS x hx))
theorem Two.extB {H0 H H' : Heap} {n : Nat} {h : Hdr} {A B : DB} {ea eb : Nat} (w : Two H0.size n h A B ea eb) (e : Ext H0 H) {S : List Nat} (m : Mod S H H') (hS : ∀ x ∈ S, x ∈ [B.d, B.m, B.w, eb]) : Ext H0 H' := e.trans_new m fun x hx => .inr (w.geB x (hS x hx))
structure Both (H : Heap) (h : Hdr) (A B : DB) (ea eb : Nat) (d : DS) (tags : List Int) (fa fb : Bool) (pa pb : List UInt64) : Prop where
  a : ∃ s, EngS H ea A h d tags fa false s pa
  b : ∃ s, EngS H eb B h d tags fb false s pb
theorem Both.ext {H H' : Heap} {h : Hdr} {A B : DB} {ea eb : Nat} {d : DS} {tags : List Int} {fa fb : Bool} {pa pb : List UInt64} (w : Both H h A B ea eb d tags fa fb pa pb) (e : Ext H H') : Both H' h A B ea eb d tags fa fb pa pb := by
  obtain ⟨⟨s, x⟩, ⟨t, y⟩⟩ := w
  exact ⟨⟨s, x.ext e⟩, ⟨t, y.ext e⟩⟩
structure Ahead (d : DS) (tags : List Int) : Prop where
  pd : d.pend = -1
  inv : AInv d.l d.at_ tags
  cnt : DCnt d (65535 * (4194304 * (d.l + 1) - aM d.l d.at_ tags))
theorem enext_ahead {h : Hdr} (hm : h.mode = 2) {d : DS} {tags : List Int} (hp : d.pend = -1) (ended : Bool) : enext h d tags ended = strideNext d.l ended d.at_ (-1) tags := by
  unfold enext; rw [if_neg (by omega), hp]
theorem Ahead.cnt' {d : DS} {tags : List Int} (w : Ahead d tags) : DCnt d 2305843009213693952 := by
  have hb := aM_bound w.inv
  have := w.inv.mok.l1
  dsimp only at this
  exact w.cnt.mono (by omega)
theorem Ahead.step {h : Hdr} {d : DS} {tags : List Int} (w : Ahead d tags) {k n : Int} {m : MS1} (hs : mstep (dMS d tags) k n = some m) (hp : m.pend = -1) (hi : AInv d.l m.at_ m.tags) (hM : aM d.l m.at_ m.tags < aM d.l d.at_ tags) : Ahead (dact h d k n m) m.tags := by
  refine ⟨hp, hi, (dcnt_step hs w.cnt).mono ?_⟩
  show 65535 * (4194304 * (d.l + 1) - aM d.l d.at_ tags) + 65535 ≤ 65535 * (4194304 * (d.l + 1) - aM d.l m.at_ m.tags)
  omega
theorem Ahead.more {d : DS} {tags : List Int} (w : Ahead d tags) (hf : AFull d.l d.at_ tags) (hl : d.l < 65535) : Ahead { d with l := d.l + 1 } tags := by
  have h1 := a_more hf hl
  have b1 := aM_bound h1
  have b2 := aM_bound w.inv
  refine ⟨w.pd, h1, ?_⟩
  obtain ⟨p, t, l, s⟩ := w.cnt
  refine DCnt.mono (A := 65535 * (4194304 * (d.l + 1) - aM d.l d.at_ tags)) ⟨p, t, l, s⟩ ?_
  show _ ≤ 65535 * (4194304 * (d.l + 1 + 1) - aM (d.l + 1) d.at_ tags)
  omega
theorem Ahead.first {h : Hdr} (hp : PlanOk h) (hm : h.mode = 2) : Ahead (d0 h (fixedOf h)) (tags0 h) := by
  obtain ⟨h1, h2⟩ := str_first hp hm
  refine ⟨rfl, by rw [h1]; exact h2, (d0_cnt _ _).mono ?_⟩
  have := aM_bound h2
  rw [h1]
  show 0 ≤ 65535 * (4194304 * (0 + 1) - aM 0 0 (tags0 h))
  omega
end Go.VC
namespace Go.VC
open Go Go.Proofs
theorem c3 {H : Heap} {R : Value → Heap → Prop} (h : Hdr) (hp : HAt) (r : HRows H h hp) (x1 : Int) (x2 : Bool) (hx1 : 0 ≤ x1 ∧ x1 ≤ 65535) (k : ∀ H', Ext H H' → R (.bool true) H') : Ru 3 [.agg (hdrC h hp).toArray, .int .u16 x1, .bool x2] H R := by
  refine v3 (hdrC h hp) x1 x2 fun H1 p n1 => ⟨hdrC h hp, rfl, n1.rdL, ?_⟩
  have e1 := n1.mod
  refine c8 h hp (r.ext e1) (fun ok H2 e2 => ⟨i64s (planL h), rfl, _, rfl, fun H3 p1 n3 => ⟨rfl, i64s_one, n3.own.w 0 4 rfl, fun H4 h4 => ?_⟩⟩) (fun n H2 hn hno e2 => ⟨i64s [0, 0, 0, 0], rfl, _, rfl, fun H3 p1 n3 => ⟨rfl, i64s_one, n3.own.w 0 4 rfl, fun H4 h4 => ?_⟩⟩)
  rotate_left
  · obtain ⟨e4, o4⟩ := tmpE (cs := i64s [0, 0, 0, 0]) n3 rfl h4
    have e14 := e2.thenExt e4
    refine ⟨hdrC h hp, rfl, e14.rdL (by simp) n1.rdL, c9 h hp (r.ext (e1.thenExt e14)) (fun ok => (hno ok).elim) fun na H5 hna _ e5 => ⟨_, _, rfl, ?_⟩⟩
    refine ⟨hdrC h hp, rfl, (e14.thenExt e5).rdL (by simp) n1.rdL, c9 h hp (r.ext ((e1.thenExt e14).thenExt e5)) (fun ok => (hno ok).elim) fun nb H6 hnb _ e6 => ⟨_, _, rfl, ?_⟩⟩
    exact ⟨fun _ => False, ⟨fun _ => c10 fun H7 e7 => ⟨_, rfl, k H7 ((((e1.thenExt e14).thenExt e5).thenExt e6).thenExt e7)⟩, fun h' => (h' hn).elim⟩, fun _ h' => h'.elim⟩
  obtain ⟨e4, o4⟩ := tmpE (cs := i64s (planL h)) n3 rfl h4
  have e14 := e2.thenExt e4
  have e04 := e1.thenExt e14
  refine ⟨hdrC h hp, rfl, e14.rdL (by simp) n1.rdL, c9 h hp (r.ext e04) (fun _ H5 ea A engA inA ea0 ea1 e5 offA => ⟨_, _, rfl, ?_⟩) fun na H5 hna hno _ => (hno ok).elim⟩
  refine ⟨hdrC h hp, rfl, (e14.thenExt e5).rdL (by simp) n1.rdL, c9 h hp (r.ext (e04.thenExt e5)) (fun _ H6 eb B engB inB eb0 eb1 e6 offB => ⟨_, _, rfl, ?_⟩) fun nb H6 hnb hno _ => (hno ok).elim⟩
  have e46 := e5.thenExt e6
  have rp : ∀ {H' : Heap}, Ext H4 H' → ∀ i v, (hdrC h hp)[i]? = some v → rd H' p i = some v := fun e i v hv => (e14.thenExt e).rd (by simp) (by rw [n1.rd]; exact hv)
  refine ⟨fun H' => H' = H6 ∧ h.mode = 2, ⟨fun h' => (h' rfl).elim, fun _ => ⟨_, rp e46 0 _ rfl, fun _ => c10 fun H7 e7 => ⟨_, rfl, k H7 ((e04.thenExt e46).thenExt e7)⟩, fun hm => ⟨rfl, Classical.not_not.1 hm⟩⟩⟩, ?_⟩
  rintro H6' ⟨h6', hm⟩
  subst h6'
  have engA := engA (by omega)
  have engB := engB (by omega)
  have low : ∀ {H' : Heap} {be : Nat} {b : DB} {s : PS} {post : List UInt64}, EngS H' be b h (d0 h (fixedOf h)) (tags0 h) false false s post → b.d < H'.size ∧ b.m < H'.size ∧ b.w < H'.size := fun e => ⟨e.drv.top.lt (by unfold drvC; simp [i64s, planL]), e.drv.met.lt (by simp [meterC]), e.drv.ar.row.lt (u64s_ne e.drv.words)⟩
  obtain ⟨l1, l2, l3⟩ := low engA
  have two : Two H4.size H5.size h A B ea eb := ⟨e5.1, inA, ea0, ea1, l1, l2, l3, offA, inB, eb0⟩
  have ah0 := Ahead.first ok hm
  have hd0l : (d0 h (fixedOf h)).l = 0 := (str_first ok hm).1
  have slots := slots_small ok
  generalize hpA : post0 h = pa at *
  generalize d0 h (fixedOf h) = dd at *
  generalize htt : tags0 h = tt at *
  have both0 : Both H6' h A B ea eb dd tt false false pa pa := ⟨⟨_, engA.ext e6⟩, ⟨_, engB⟩⟩
  refine ⟨fun H' => H' = H6', ⟨fun h' => (h' rfl).elim, fun _ => ⟨fun h' => (h' rfl).elim, fun _ => ⟨_, rfl, fun h' => by simp at h', fun _ => ⟨_, rfl, fun h' => by simp at h', fun _ => rfl⟩⟩⟩⟩, ?_⟩
  rintro H7 h7
  subst h7
  let Fin : Heap → Prop := fun H' => ∃ d tags, d.l = x1 ∧ Both H' h A B ea eb d tags false false pa pa ∧ Ahead d tags ∧ AFull d.l d.at_ tags ∧ Ext H4 H'
  refine ⟨Fin, ?_, ?_⟩
  · refine ⟨fun n H' => (n ≤ x1 ∧ ∃ d tags, d.l = n ∧ Both H' h A B ea eb d tags false false pa pa ∧ Ahead d tags ∧ Ext H4 H') ∨ (n = x1 + 1 ∧ Fin H'), fun n _ => (x1 + 2 - n).toNat, .inl ⟨hx1.1, _, _, hd0l, both0, ah0, e46⟩, ?_⟩
    rintro H8 n hI
    refine ⟨by unfold I64; omega, fun hle => ?_, fun hgt => ?_⟩
    rotate_left
    · rcases hI with ⟨h', _⟩ | ⟨_, hf⟩
      · omega
      · exact hf
    obtain ⟨d, tags, hdl, both, ah, e8⟩ : ∃ d tags, d.l = n ∧ Both H8 h A B ea eb d tags false false pa pa ∧ Ahead d tags ∧ Ext H4 H8 := by
      rcases hI with ⟨_, h'⟩ | ⟨h', _⟩
      · exact h'
      · omega
    let JJ : Nat → Heap → Prop := fun N H' => ∃ d tags, N = (aM d.l d.at_ tags).toNat ∧ d.l = n ∧ Both H' h A B ea eb d tags false false pa pa ∧ Ahead d tags ∧ Ext H4 H'
    refine ⟨fun H' => ∃ d tags, d.l = n ∧ Both H' h A B ea eb d tags false false pa pa ∧ Ahead d tags ∧ AFull d.l d.at_ tags ∧ Ext H4 H', ⟨fun H' => ∃ N, JJ N H', fun H' => least fun N => JJ N H', ⟨_, d, tags, rfl, hdl, both, ah, e8⟩, ?_⟩, ?_⟩
    · rintro H9 ⟨N, hJ⟩
      obtain ⟨d, tags, hN, hdl, both, ah, e9⟩ := least_spec (p := fun N => JJ N H9) hJ
      obtain ⟨⟨sa, ga⟩, ⟨sb, gb⟩⟩ := both
      have hnx : enext h d tags false = strideNext d.l false d.at_ (-1) tags := enext_ahead hm ah.pd false
      refine c11 ga (.inr hm) fun H10 e10 => ⟨_, rfl, fun hc => ?_, fun hc => ?_⟩
      · rcases a_step ah.inv with hfull | ⟨kk, nn, m, s1, s2, s3, s4, s5⟩
        · rw [hnx, hfull.next] at hc; simp [hm] at hc
        have hsome : enext h d tags false = some (kk, nn) := by rw [hnx]; exact s1 false
        have s2' : mstep (dMS d tags) kk nn = some m := by
          have : dMS d tags = ⟨d.at_, -1, d.l, 0, tags⟩ := by simp only [dMS, ah.pd]
          rw [this]; exact s2
        have hleg : ∀ k' n', enext h d tags false = some (k', n') → ∃ m, mstep (dMS d tags) k' n' = some m := by
          intro k' n' hq; rw [hsome] at hq; cases hq; exact ⟨m, s2'⟩
        refine c12 (ga.ext e10) (.inr hm) ah.cnt' hleg (fun hnone => by rw [hsome] at hnone; cases hnone) fun k1 n1' m1 q1 q2 H11 sa' ga' m11 => ?_
        rw [hsome] at q1; cases q1
        rw [s2'] at q2; cases q2
        have gb11 := two.keepB (gb.ext e10) m11 (by simp +contextual)
        have e11 : Ext H4 H11 := two.extA (e9.thenExt e10) m11 (by simp +contextual)
        refine ⟨_, rfl, _, _, rfl, fun H12 t1 nt1 => ⟨rfl, act_one, nt1.own.w 0 2 rfl, fun H13 h13 => ?_⟩⟩
        obtain ⟨e13, o13⟩ := tmpE (cs := actC kk nn) nt1 rfl h13
        have ht1 : H4.size ≤ t1 := by have := e11.1; have := nt1.ge; omega
        have ht1n : ∀ x ∈ [B.d, B.m, B.w], t1 ≠ x := by
          intro x hx e
          subst e
          have hlt : t1 < H11.size := by
            simp only [List.mem_cons, List.not_mem_nil, or_false] at hx
            rcases hx with hx | hx | hx
            · rw [hx]; exact gb11.drv.top.lt (by unfold drvC; simp [i64s, planL])
            · rw [hx]; exact gb11.drv.met.lt (by simp [meterC])
            · rw [hx]; exact gb11.drv.ar.row.lt (u64s_ne gb11.drv.words)
          have := nt1.ge; omega
        refine c12 (gb11.ext e13) (.inr hm) ah.cnt' hleg (fun hnone => by rw [hsome] at hnone; cases hnone) fun k1 n1' m1 q1 q2 H14 sb' gb' m14 => ?_
        rw [hsome] at q1; cases q1
        rw [s2'] at q2; cases q2
        have ga14 := two.keepA (ga'.ext e13) m14 (by simp +contextual)
        have e14' : Ext H4 H14 := two.extB (e11.thenExt e13) m14 (by simp +contextual)
        have o14 := o13.mod m14 (fun hx => ht1n t1 hx rfl)
        refine ⟨_, rfl, _, _, rfl, fun H15 t2 nt2 => ⟨rfl, act_one, nt2.own.w 0 2 rfl, fun H16 h16 => ?_⟩⟩
        obtain ⟨e16, o16⟩ := tmpE (cs := actC kk nn) nt2 rfl h16
        refine ⟨actC kk nn, rfl, (o14.mod e16 (by simp)).1, actC kk nn, rfl, o16.1, false, neq39 _ _ _ _, (fun h' => by cases h'), fun _ => ⟨(fun h' => by simp at h'), fun _ => ⟨(fun h' => by simp at h'), fun _ => ⟨fun h' => (h' rfl).elim, fun _ => ⟨fun h' => (h' rfl).elim, fun _ => ?_⟩⟩⟩⟩⟩
        have hJ' : JJ (aM d.l m.at_ m.tags).toNat H16 := ⟨dact h d kk nn m, m.tags, rfl, hdl, ⟨⟨_, ga14.ext e16⟩, ⟨_, gb'.ext e16⟩⟩, ah.step s2' s3 s4 s5, e14'.thenExt e16⟩
        have b1 := aM_bound s4
        exact ⟨⟨_, hJ'⟩, Nat.lt_of_lt_of_eq (least_lt (p := fun N => JJ N H16) hJ' (by omega)) hN.symm⟩
      · rcases a_step ah.inv with hfull | ⟨kk, nn, m, s1, _⟩
        · exact ⟨d, tags, hdl, ⟨⟨_, ga.ext e10⟩, ⟨_, gb.ext e10⟩⟩, ah, hfull, e9.thenExt e10⟩
        · rw [hnx, s1 false] at hc; simp at hc
    · rintro H9 ⟨d, tags, hdl, both, ah, hfull, e9⟩
      obtain ⟨⟨sa, ga⟩, ⟨sb, gb⟩⟩ := both
      have hnone : enext h d tags false = none := by rw [enext_ahead hm ah.pd, hfull.next]; rfl
      refine ⟨fun H' => Ext H9 H', c11 gb (.inr hm) fun H10 e10 => ⟨_, rfl, fun hc => by rw [hnone] at hc; simp [hm] at hc, fun _ => c13 (ga.ext e10).top (ga.ext e10).drv ⟨_, rfl, fun h' => (h' hdl).elim, fun _ => c13 (gb.ext e10).top (gb.ext e10).drv ⟨_, rfl, fun h' => (h' hdl).elim, fun _ => e10⟩⟩⟩, ?_⟩
      intro H10 e10
      have e410 := e9.thenExt e10
      have hn0 : 0 ≤ n := by have := ah.inv.mok.l0; dsimp only at this; omega
      refine ⟨by unfold I64; omega, fun hlt => ?_, fun hge => ?_⟩
      · refine c14 (ga.ext e10) hm ah.pd hnone true (fun h' => by cases h') (fun _ hl H11 ga' m11 => ⟨_, rfl, fun h' => (h' rfl).elim, fun _ => ?_⟩) (fun _ hl => by omega)
        have gb11 := two.keepB (gb.ext e10) m11 (by simp +contextual)
        have e11 : Ext H4 H11 := two.extA e410 m11 (by simp +contextual)
        refine c14 gb11 hm ah.pd hnone true (fun h' => by cases h') (fun _ hl H12 gb' m12 => ⟨_, rfl, fun h' => (h' rfl).elim, fun _ => ?_⟩) (fun _ hl => by omega)
        have ga12 := two.keepA ga' m12 (by simp +contextual)
        have e12 : Ext H4 H12 := two.extB e11 m12 (by simp +contextual)
        refine ⟨by unfold I64; omega, .inl ⟨by omega, { d with l := d.l + 1 }, tags, by show d.l + 1 = n + 1; omega, ⟨⟨_, ga12⟩, ⟨_, gb'⟩⟩, ah.more hfull hl, e12⟩, by dsimp only; omega⟩
      · refine ⟨by unfold I64; omega, .inr ⟨by omega, d, tags, by omega, ⟨⟨_, ga.ext e10⟩, ⟨_, gb.ext e10⟩⟩, ah, hfull, e410⟩, by dsimp only; omega⟩
  · rintro H8 ⟨d, tags, hdl, both, ah, hfull, e8⟩
    obtain ⟨⟨sa, ga⟩, ⟨sb, gb⟩⟩ := both
    have hnone : enext h d tags false = none := by rw [enext_ahead hm ah.pd, hfull.next]; rfl
    have htl := ga.sem.len
    have hn1 := hfull.inv.n1
    have hD := strideD_pos (k := d.l.toNat) hn1 (by omega)
    have hDD : DD d.l tags = strideD x1.toNat (slotsOf h).toNat := by unfold DD; rw [hdl, htl]
    have hxn : ((x1.toNat : Nat) : Int) = x1 := by omega
    have hsn : (((slotsOf h).toNat : Nat) : Int) = slotsOf h := by omega
    have hDpos : 0 < DD d.l tags := hD
    have o48 := o4.mod e8 (by simp)
    refine ⟨by unfold I64; omega, slotsOf h, o48.rd 3 rfl, ?_⟩
    have key := c15 (R := fun rr H' => ∃ n n_3, rr = .tuple #[.int .i64 n, .int .i64 n_3] ∧ n = (DD d.l tags : Int) ∧ n_3 = 0 ∧ H' = H8) x1.toNat (slotsOf h).toNat (by omega) (by omega) (by omega) (H := H8) ⟨_, _, rfl, by rw [hDD], rfl, rfl⟩
    rw [hxn, hsn] at key
    refine Runs.mono key ?_
    rintro rr H8' ⟨D, z, rfl, hDv, rfl, e88⟩
    subst e88
    refine ⟨D, 0, rfl, fun H' => H' = H8', ⟨fun h' => (h' rfl).elim, fun _ => ⟨fun h' => by omega, fun _ => rfl⟩⟩, ?_⟩
    intro H9 h9
    subst h9
    refine c16 ga (by omega) fun a c H10 hB e10 => ⟨_, rfl, rfl, trivial, _, rfl, _, _, _, rfl, ?_⟩
    have e410 := e8.thenExt e10
    have hrow := hB.row
    have hheld := a_held hfull
    have hmulA := hfull.mul
    refine ⟨fun n4 H' => H' = H10 ∧ n4 = (heldN tags : Int), ⟨fun n4 n5 H' => H' = H10 ∧ ∃ q : Nat, n5 = q ∧ q ≤ tags.length ∧ n4 = ((tags.take q).countP (fun t => decide (0 ≤ t)) : Nat), fun _ n5 _ => (tags.length - n5).toNat, ⟨rfl, 0, rfl, by omega, by simp⟩, ?_⟩, ?_⟩
    · rintro H11 n4 n5 ⟨h11, q, rfl, hq, rfl⟩
      subst h11
      have hcl : (tags.take q).countP (fun t => decide (0 ≤ t)) ≤ q := Nat.le_trans List.countP_le_length (by simp; omega)
      have few := ga.sem.mok.few
      simp only [dMS] at few
      refine ⟨fun hlt => ?_, fun hge => ⟨rfl, ?_⟩⟩
      · have hql : q < tags.length := by omega
        have hmq := hmulA q hql
        have hgq : gt tags q = tags[q] := by unfold gt; rw [List.getD_eq_getElem?_getD, List.getElem?_eq_getElem hql]; rfl
        rw [hgq] at hmq
        have hct : (tags.take (q + 1)).countP (fun t => decide (0 ≤ t)) = (tags.take q).countP (fun t => decide (0 ≤ t)) + (if 0 ≤ tags[q] then 1 else 0) := by
          rw [List.take_succ_eq_append_getElem hql, List.countP_append]
          by_cases h0 : 0 ≤ tags[q] <;> simp [h0]
        have id1 : ∀ {K : Int → Prop}, K tags[q] → ∃ b o, At a b o ∧ ((0 : Int) ≤ (q : Int) ∧ (q : Int) < (tags.length : Int)) ∧ ∃ n, rd H11 b (o + Int.toNat (q : Int)) = some (.int .i64 n) ∧ K n := fun hk => RowI.idxn hrow (List.getElem?_eq_getElem hql) hk
        refine id1 ⟨fun h0 => id1 ⟨⟨h0, by omega⟩, fun h' => (h' (by rw [hDv]; exact hmq h0)).elim, fun _ => id1 ⟨fun _ => ⟨by unfold I64; omega, by unfold I64; omega, ⟨rfl, q + 1, by omega, by omega, by rw [hct, if_pos h0]; omega⟩, by dsimp only; omega⟩, fun h' => (h' h0).elim⟩⟩, fun h0 => id1 ⟨fun h' => (h0 h').elim, fun _ => ⟨by unfold I64; omega, ⟨rfl, q + 1, by omega, by omega, by rw [hct, if_neg h0]; omega⟩, by dsimp only; omega⟩⟩⟩
      · have e : q = tags.length := by omega
        subst e
        rw [List.take_length]; rfl
    · rintro H11 n4 ⟨h11, rfl⟩
      subst h11
      have ga10 := ga.ext e10
      have gb10 := gb.ext e10
      let Last : Heap → Prop := fun H' => (∃ s, EngS H' ea A h d tags true false s pa) ∧ (x2 = true → ∃ s, EngS H' eb B h d tags true false s pa) ∧ Ext H4 H'
      have key : Ru 14 [.pointer (some ⟨eb, 0, none⟩), .bool !x2] H11 (fun rr H' => ∃ n5, rr = .int .i64 n5 ∧ (n5 = 0 ∨ (x2 = false ∧ x1 = 65535 ∧ n5 = 14)) ∧ (x2 = true → ∃ s, EngS H' eb B h d tags true false s pa) ∧ (∃ s, EngS H' ea A h d tags false false s pa) ∧ Ext H4 H') := by
        refine c14 gb10 hm ah.pd hnone (!x2) (fun hx H12 gb' m12 => ?_) (fun hx hl H12 gb' m12 => ?_) (fun hx hl H12 gb' m12 => ?_)
        · exact ⟨0, rfl, .inl rfl, fun _ => ⟨_, gb'⟩, ⟨_, two.keepA ga10 m12 (by simp +contextual)⟩, two.extB e410 m12 (by simp +contextual)⟩
        · exact ⟨0, rfl, .inl rfl, fun h' => (by rw [h'] at hx; cases hx), ⟨_, two.keepA ga10 m12 (by simp +contextual)⟩, two.extB e410 m12 (by simp +contextual)⟩
        · exact ⟨14, rfl, .inr ⟨by simpa using hx, by omega, rfl⟩, fun h' => (by rw [h'] at hx; cases hx), ⟨_, two.keepA ga10 m12 (by simp +contextual)⟩, two.extB e410 m12 (by simp +contextual)⟩
      refine Runs.mono key ?_
      rintro _ H12 ⟨n5, rfl, hn5, hB12, ⟨s12, ga12⟩, e12⟩
      have hq : x1 / D ≤ x1 := Int.ediv_le_self _ hx1.1
      have hq0 : 0 ≤ x1 / D := Int.ediv_nonneg hx1.1 (by omega)
      refine ⟨n5, rfl, Last, ⟨by unfold I64; omega, ⟨hx1.1, by omega, by unfold I64; omega⟩, by unfold I64; omega, fun h' => (h' (by rw [hDv, hheld, hdl])).elim, fun _ => ?_⟩, ?_⟩
      · refine c14 ga12 hm ah.pd hnone false (fun _ H13 ga13 m13 => ⟨_, rfl, fun h' => (h' rfl).elim, fun _ => ?_⟩) (fun h' => by cases h') (fun h' => by cases h')
        have last : Last H13 := ⟨⟨_, ga13⟩, fun hx => by obtain ⟨s, g⟩ := hB12 hx; exact ⟨_, two.keepB g m13 (by simp +contextual)⟩, two.extA e12 m13 (by simp +contextual)⟩
        refine ⟨fun hne => ?_, fun _ => last⟩
        rcases hn5 with h0 | ⟨hx, hx65, h14⟩
        · exact (hne h0).elim
        · exact ⟨fun h' => (by rw [hx] at h'; cases h'), fun _ => ⟨fun h' => by omega, fun _ => ⟨fun h' => (h' h14).elim, fun _ => last⟩⟩⟩
      · rintro H13 ⟨⟨s13, ga13⟩, hB13, e13⟩
        have sinv : SInv d.l d.at_ d.pend tags := .inl ⟨ah.pd, by exact hfull⟩
        have sb := sM_bound sinv
        have cnt := ah.cnt
        have ab := aM_bound hfull.inv
        have hc : DCnt d 288230376151711744 := cnt.mono (by omega)
        refine c17 ga13 (.inr hm) (str_inv hm) sinv hc (by omega) (by omega) fun nA dA tA sA H14 stopA invA runA ga14 m14 => ⟨_, _, rfl, ?_⟩
        have hpend := str_end hm invA stopA
        have hB14 : x2 = true → ∃ s, EngS H14 eb B h d tags true false s pa := fun hx => by obtain ⟨s, g⟩ := hB13 hx; exact ⟨_, two.keepB g m14 (by simp +contextual)⟩
        have e14'' : Ext H4 H14 := two.extA e13 m14 (by simp +contextual)
        have hAl : dA.l = x1 := by rw [runA.l, hdl]
        obtain ⟨g1, g2, g3⟩ := ga14.sem.gr (by omega)
        rw [hAl, hpend] at g1 g2
        rw [hAl] at g3
        have hsub : (x1 - 0).toNat = x1.toNat := by omega
        rw [hsub] at g1 g2
        refine c18 ga14 hpend fun H15 a1 c1 a2 c2 rx rt e15 => ⟨_, rfl, _, rfl, fun H16 t1 nt1 => ⟨rfl, ?_, nt1.own.w 0 3 rfl, fun H17 h17 => ?_⟩⟩
        · intro x hx; simp only [List.mem_cons, List.not_mem_nil, or_false] at hx; rcases hx with rfl | rfl | rfl <;> trivial
        obtain ⟨e17, o17⟩ := tmpE (cs := [.int .u64 (dA.loss.toNat : Int), .slice a1 (nX h) c1, .slice a2 (nT h) c2]) nt1 rfl h17
        have e417 := (e14''.thenExt e15).thenExt e17
        rw [g1] at rx
        rw [g2] at rt
        rw [g3] at o17
        refine ⟨progC h.step hp.sa h.step.ops.length hp.sc, rfl, ⟨rp e417 3 _ rfl, rp e417 4 _ rfl, trivial⟩, progC h.loss hp.la h.loss.ops.length hp.lc, rfl, ⟨rp e417 5 _ rfl, rp e417 6 _ rfl, trivial⟩, _, _, _, rp e417 1 _ rfl, _, _, _, rp e417 2 _ rfl, by unfold I64; omega, ?_⟩
        have okH := ok.1
        have key2 := c19 (H := H17) h hp (r.ext (e04.thenExt e417)) okH.dims okH.step okH.loss x1.toNat (by omega) hp.sc hp.lc hp.xc hp.tc (R := fun rr H' => ∃ a3 c3 a4 c4, rr = .tuple #[.agg [.int .u64 ((lossOf h x1.toNat).toNat : Int), .slice a3 (nX h) c3, .slice a4 (nT h) c4].toArray, .int .i64 0] ∧ RowU H' a3 (nX h) (grad h x1.toNat x1.toNat).1 ∧ RowU H' a4 (nT h) (grad h x1.toNat x1.toNat).2 ∧ Ext H17 H') fun H' a3 c3 a4 c4 q1 q2 q3 => ⟨a3, c3, a4, c4, rfl, q1, q2, q3⟩
        rw [hxn] at key2
        refine Runs.mono key2 ?_
        rintro _ H18 ⟨a3, c3, a4, c4, rfl, rx3, rt3, e18⟩
        refine ⟨_, rfl, _, rfl, fun H19 t2 nt2 => ⟨rfl, ?_, nt2.own.w 0 3 rfl, fun H20 h20 => ?_⟩⟩
        · intro x hx; simp only [List.mem_cons, List.not_mem_nil, or_false] at hx; rcases hx with rfl | rfl | rfl <;> trivial
        obtain ⟨e20, o20⟩ := tmpE (cs := [.int .u64 ((lossOf h x1.toNat).toNat : Int), .slice a3 (nX h) c3, .slice a4 (nT h) c4]) nt2 rfl h20
        have e1720 := e18.thenExt e20
        have dms := okH.dims
        obtain ⟨dm1, dm2, dm3, _, _⟩ := dms
        refine ⟨fun H' => Ext H20 H', ⟨fun h' => (h' rfl).elim, fun _ => ⟨fun h' => (h' rfl).elim, fun _ => ⟨fun h' => (h' rfl).elim, fun _ => ⟨_, rfl, (o17.mod e1720 (by simp)).1, _, rfl, o20.1, ?_⟩⟩⟩⟩, ?_⟩
        · exact c20 (Ext.row (e17.thenExt e1720) rx) (Ext.row (e17.thenExt e1720) rt) (Ext.row e20 rx3) (Ext.row e20 rt3) (by simp only [nX]; omega) (by simp only [nT]; omega) fun H21 e21 => ⟨_, rfl, fun h' => by simp at h', fun _ => e21⟩
        intro H21 e21
        have e1421 : Ext H14 H21 := ((e15.thenExt e17).thenExt e1720).thenExt e21
        have e421 := e14''.thenExt e1421
        refine ⟨fun _ => c10 fun H22 e22 => ⟨_, rfl, k H22 ((e04.thenExt e421).thenExt e22)⟩, fun hx => ?_⟩
        have hx' : x2 = true := by simpa using hx
        obtain ⟨sB, gbB⟩ := hB14 hx'
        refine c17 (gbB.ext e1421) (.inr hm) (str_inv hm) sinv hc (by omega) (by omega) fun nB dB tB sB' H22 stopB invB runB gb22 m22 => ⟨_, _, rfl, fun _ => ?_, fun h' => (h' rfl).elim⟩
        have ga22 := two.keepA (ga14.ext e1421) m22 (by simp +contextual)
        have e422 : Ext H4 H22 := two.extB e421 m22 (by simp +contextual)
        obtain ⟨hdd, htt2⟩ := runA.det runB stopA stopB
        subst hdd
        subst htt2
        refine c21 ga22 fun H23 e23 => ⟨_, rfl, rfl, c21 (gb22.ext e23) fun H24 e24 => ⟨_, rfl, rfl, true, eq59 _ _ (scal_length _ _), fun _ => c10 fun H25 e25 => ⟨_, rfl, k H25 ((((e04.thenExt e422).thenExt e23).thenExt e24).thenExt e25)⟩, fun h' => by cases h'⟩⟩
end Go.VC
namespace Go.Proofs.YthenlgnbegeliaaGreat
open Go Go.VC Go.ChangeShapes Go.WideShapes Go.ChangeAt Go.RowKit Go.WideElems
set_option linter.unusedVariables false
theorem own3 : ownKnob Tryz.prog.godebug = none := by kernel_rfl
theorem laid3 : laidOutB Tryz.prog = true := by kernel_rfl
theorem read27 : Tryz.prog.readableRec 27 = true := by kernel_rfl
theorem read28 : Tryz.prog.readableRec 28 = true := by kernel_rfl
theorem read4 : Tryz.prog.readableRec 4 = true := by kernel_rfl
theorem rows3 : 27 < Tryz.prog.types.size ∧ 28 < Tryz.prog.types.size ∧ 4 < Tryz.prog.types.size := by
  refine ⟨of_decide_eq_true ?_, of_decide_eq_true ?_, of_decide_eq_true ?_⟩ <;> kernel_rfl
theorem post_old {H : Type} {enc : TypeId × Value → H} {P : Program} {f : Func} {s : ChangeSpec} {apart fresh handsOn again : Bool} {W W' : World} {args : Array Value} {v : Value} {ds gs : List (DataW H)} {before pa pv : List MemPlace}
    (hW : DataW.Whole enc P f.params.toList s.vars apart W args.toList ds gs before)
    (hres : ∀ (b : Nat) (sp : Nat → Bool) (hd : Bool), DataW.TrodAll enc P W' b sp hd f.resultTypes.toList (v.resultList f.resultTypes.size) (s.fn H (ds ++ gs)).results [])
    (hargs : ∀ sp : Nat → Bool, (∀ p ∈ before, sp p.block = true) → DataW.TrodAll enc P W' 0 sp true f.params.toList args.toList (s.fn H (ds ++ gs)).args pa)
    (hvars : ∀ sp : Nat → Bool, (∀ p ∈ before, sp p.block = true) → DataW.TrodVars enc P W' sp s.vars (s.fn H (ds ++ gs)).vars pv)
    (hps : before = pa ++ pv) (hk : W.keptBut W' (· ∈ before)) (hfz : ∀ a : Addr, a.block < W.heap.size → W'.frozen? a = W.frozen? a)
    (hok : ∀ (j : Nat) (t : TypeId) (r : Value), f.resultTypes[j]? = some t → (v.resultList f.resultTypes.size)[j]? = some r → Value.okWide P W' .any 0 t r) :
    s.post enc P f apart fresh handsOn again W args v W' := by
  have hlt := fun p (hp : p ∈ before) => hW.lt p hp
  have hold : ∀ p ∈ before, (fun b => decide (b < W.heap.size)) p.block = true := fun p hp => by simpa using hlt p hp
  refine ⟨ds, gs, before, [], pa, pv, hW, hres _ _ _, hargs _ hold, hvars _ hold, World.keptBut_mono (fun p hp => ⟨hp, Or.inr (by rw [hps, List.mem_append] at hp; exact hp)⟩) hk, fun _ => ?_⟩
  obtain ⟨_, _, _, _, _, hz, hn⟩ := hW
  refine ⟨hok, _, _, ([] ++ pa) ++ pv, ⟨[] ++ pa, pv, trodAll_append (hargs _ (fun _ _ => rfl)) (hres _ _ _), hvars _ (fun _ _ => rfl), rfl, fun b off hp => ?_, fun ha => ?_⟩, fun p hp _ => ?_⟩
  · have hp' : MemPlace.cell b off ∈ before := by rw [hps]; simpa using hp
    rw [hfz _ (hlt _ hp')]
    exact hz b off hp'
  · have := hn ha
    rw [hps] at this
    simpa using this
  · rw [hps]
    simpa using hp
set_option maxRecDepth 100000 in
theorem lifted3 (os : Os) (started : os.Started) (H : Type) (enc : TypeId × Value → H) :
    ReturnsInHanded {} Tryz.checked os 3 .any (Rows.topStreamsSpec.pre6 enc Tryz.prog Tryz.f3 Rows.topStreamsRow.domain false) (Rows.topStreamsSpec.post enc Tryz.prog Tryz.f3 false true false false) := by
  refine returnsInHanded_of_calls (C := Tryz.checked) own3 started (by kernel_rfl)
    (ChangeSpec.witness6 (enc := enc) (C := Tryz.checked) false ⟨#[], #[.agg #[.int .i64 0, .slice none 0 0, .slice none 0 0, .int .i64 0, .slice none 0 0, .int .i64 0, .slice none 0 0, .int .i64 0, .int .i64 0], .int .u16 0, .bool false], []⟩ 8 (by kernel_rfl) (by kernel_rfl) (by kernel_rfl) (by kernel_rfl)) ?_
  intro w0 tape i _ _ _ hok hpre _
  obtain ⟨_, _, _, fn', hfn', _, _, _, _, hval⟩ := hok
  have e : fn' = Tryz.f3 := Option.some.inj (hfn'.symm.trans Tryz.func3)
  subst e
  obtain ⟨⟨ds, gs, before, hw, _⟩, hz⟩ := hpre
  have hW := DataW.Whole.of_heap (w' := w0.forCall tape i) (by rfl) hw
  have hwt := hz.weights hw
  have hval' : ∀ (j : Nat) t v, Tryz.f3.params[j]? = some t → i.args[j]? = some v → Value.okWide Tryz.prog (w0.forCall tape i) .any w0.heap.size t v := hval
  clear hval
  generalize w0.forCall tape i = W at *
  generalize i.args = args at *
  have key : Calls Tryz.prog 3 args W fun e W' => ∃ v, e = .returned v ∧ Rows.topStreamsSpec.post enc Tryz.prog Tryz.f3 false true false false W args v W' := by
    have hW' := hW
    obtain ⟨p, q, hA0, hV, hbe, hfz, hnd⟩ := hW
    have hA : DataW.TrodAll enc Tryz.prog W 0 (fun _ => true) true Tryz.f3.params.toList args.toList ds p := hA0
    rw [Tryz.params3] at hA
    have hval : ∀ (j : Nat) t v, (#[27, 28, 4] : Array TypeId)[j]? = some t → args[j]? = some v → Value.okWide Tryz.prog W .any w0.heap.size t v := by
      intro j t v hj hv; exact hval' j t v (by rw [Tryz.params3]; exact hj) hv
    obtain ⟨v0, vs0, d0, ds0, p0, q0, hargs, rfl, rfl, h0, r0⟩ := trodAll_cons hA
    obtain ⟨v1, vs1, d1, ds1, p1, q1, rfl, rfl, rfl, h1, r1⟩ := trodAll_cons r0
    obtain ⟨v2, vs2, d2, ds2, p2, q2, rfl, rfl, rfl, h2, r2⟩ := trodAll_cons r1
    obtain ⟨rfl, rfl, rfl⟩ := trodAll_nil r2
    obtain rfl : args = #[v0, v1, v2] := by cases args; simp_all
    obtain ⟨rfl, rfl⟩ := trodVars_none hV
    obtain ⟨n1, hv1, hd1, hp1, w1⟩ := open_int Tryz.underlying28 (hval 1 28 v1 rfl rfl) h1
    obtain ⟨b2, hv2, hd2, hp2⟩ := open_bool Tryz.underlying4 (hval 2 4 v2 rfl rfl) h2
    have hv0 := hval 0 27 v0 rfl rfl
    unfold Value.okWide at hv0
    rw [und27] at hv0
    obtain ⟨cs, rfl, _, _⟩ := hv0
    have h0' := h0
    obtain ⟨fuel, hf⟩ := h0
    have hcells : (Value.agg cs).cells.toList = cs.toList := rfl
    rw [hcells] at hf
    obtain ⟨hd, hp, hcs, hrows⟩ := open_header hf
    have hcs' : cs = (hdrC hd hp).toArray := by rw [← hcs]
    subst hcs'
    have hrow : HRows W.heap hd hp := hrows (by
      have hq := hwt
      simp only [Tryz.params3, List.cons_append, DataW.weightsEach, List.all_append, Bool.and_eq_true] at hq
      exact hq.1)
    have hx1 : 0 ≤ n1 ∧ n1 ≤ 65535 := by simpa [Lit.wf, IntKind.min, IntKind.max, IntKind.signed, IntKind.bits] using w1
    subst hv1 hv2
    have run := c3 (R := fun r H' => r = .bool true ∧ Ext W.heap H') hd hp hrow n1 b2 hx1 (fun H' e => ⟨rfl, e⟩) W rfl
    refine run.mono fun e W' ⟨v, he, ⟨hr, hext⟩, ht, ho, hout⟩ => ?_
    subst he
    subst hr
    obtain ⟨g1, g2, g3⟩ := grown_of_ext hext ho hout
    have hlt := fun p hp => hW'.lt p hp
    have same : ∀ x ∈ before, W.sameAt W' x := by
      intro x hx
      have hb := hlt x hx
      cases x with
      | cell b off =>
        show W'.cell? ⟨b, off, none⟩ = W.cell? ⟨b, off, none⟩
        unfold World.cell?
        rw [g3 b hb]
      | map b => exact g3 b hb
    refine ⟨_, rfl, post_old (pa := before) (pv := []) hW' (fun _ _ _ => trodAll_cons_mk (shut_bool Tryz.underlying4 _) trodAll_mk0) (fun sp hsp => ?_) (fun _ _ => rfl) (by simp) (World.keptBut_mono (fun _ h => h.elim) g1) g2 (ok_one (by kernel_rfl) rfl (okWide_bool_mk Tryz.underlying4 _))⟩
    show DataW.TrodAll enc Tryz.prog W' 0 sp true Tryz.f3.params.toList _ [d0, d1, d2] before
    have hq : before = p0 ++ (p1 ++ p2) := by rw [hbe]; simp
    rw [Tryz.params3]
    have m0 : ∀ x ∈ p0, x ∈ before := fun x hx => by rw [hq]; simp [hx]
    have m1 : ∀ x ∈ p1, x ∈ before := fun x hx => by rw [hq]; simp [hx]
    have m2 : ∀ x ∈ p2, x ∈ before := fun x hx => by rw [hq]; simp [hx]
    have t0 := Trod_stays (sp' := sp) laid3 read27 rows3.1 h0' (fun x hx => same x (m0 x hx)) (fun x hx => hsp x (m0 x hx))
    have t1 := Trod_stays (sp' := sp) laid3 read28 rows3.2.1 h1 (fun x hx => same x (m1 x hx)) (fun x hx => hsp x (m1 x hx))
    have t2 := Trod_stays (sp' := sp) laid3 read4 rows3.2.2 h2 (fun x hx => same x (m2 x hx)) (fun x hx => hsp x (m2 x hx))
    exact ⟨p0, p1 ++ p2, t0, ⟨p1, p2, t1, ⟨p2, [], t2, rfl, by simp⟩, rfl⟩, hq⟩
  exact key.mono fun e W' ⟨v, he, hp⟩ => by
    subst he
    exact ChangeSpec.post_blind hp
end Go.Proofs.YthenlgnbegeliaaGreat
namespace Go.Proofs.YthenlgnbegeliaaGreat
open Go
theorem name3 : Tryz.pinned.checked.prog.funcNamed Rows.topStreamsRow.func = some 3 := by kernel_rfl
theorem ft1 : Rows.topStreamsRow.wf (OpenSpec.ofChange Rows.topStreamsSpec) = true := by kernel_rfl
theorem ft2 : laidOutB Tryz.prog = true := by kernel_rfl
theorem ft3 : mapsRowed Tryz.prog = true := by kernel_rfl
theorem ft4 : Tryz.f3.params.all (Tryz.prog.readableRec ·) = true := by kernel_rfl
theorem ft5 : namedTie Tryz.prog Rows.topStreamsRow.named Rows.topStreamsSpec.vars = true := by kernel_rfl
theorem ft6 : (Tryz.prog.stops == []) = true := by kernel_rfl
theorem ft7 : (Tryz.prog.stopKnobs == []) = true := by kernel_rfl
theorem ft12 : Tryz.prog.stopsHeard = true := by kernel_rfl
theorem ft13 : Tryz.prog.mayEnter = true := by kernel_rfl
theorem ft14 : (Rows.topStreamsRow.plainKeys == Tryz.prog.plainKeys) = true := by kernel_rfl
theorem ft15 : (Rows.topStreamsRow.lifted == Tryz.prog.liftsFinal) = true := by kernel_rfl
theorem ft16 : (Tryz.prog.make == some Rows.topStreamsRow.make) = true := by kernel_rfl
end Go.Proofs.YthenlgnbegeliaaGreat
namespace Go.Proofs.YthenlgnbegeliaaGreat
open Go
theorem unf3 : Tryz.prog.unfollowed 3 = true := by kernel_rfl
theorem ft8 : (Rows.topStreamsRow.inPlace == Tryz.prog.inPlace 3) = true := by kernel_rfl
theorem ft9 : (Rows.topStreamsRow.unfollowed == Tryz.prog.unfollowed 3) = true := by rw [unf3]; rfl
theorem ft10 : (Rows.topStreamsRow.recurses == Tryz.prog.recurses 3) = true := by
  have h : Tryz.prog.recurses 3 = true := by unfold Program.recurses; rw [unf3, Bool.true_or]
  rw [h]; rfl
theorem ft11 : (Rows.topStreamsRow.named == Tryz.prog.varsNamed 3) = true := by kernel_rfl
end Go.Proofs.YthenlgnbegeliaaGreat
namespace Go.Proofs.YthenlgnbegeliaaGreat
open Go
theorem facts3 : joinedFacts Tryz.prog 3 Tryz.f3 Rows.topStreamsSpec Rows.topStreamsRow = true := by
  simp only [joinedFacts, Bool.and_eq_true]
  exact ⟨⟨⟨⟨⟨⟨⟨⟨⟨⟨⟨⟨⟨⟨⟨⟨⟨⟨⟨⟨⟨⟨⟨⟨⟨⟨⟨⟨⟨⟨⟨ft1, ft2⟩, ft3⟩, ft4⟩, ft5⟩, rfl⟩, ft6⟩, rfl⟩, ft7⟩, ft8⟩, ft9⟩, ft10⟩, ft11⟩, (by kernel_rfl)⟩, (by kernel_rfl)⟩, (by kernel_rfl)⟩, (by kernel_rfl)⟩, (by kernel_rfl)⟩, (by kernel_rfl)⟩, (by kernel_rfl)⟩, (by kernel_rfl)⟩, (by kernel_rfl)⟩, ft14⟩, rfl⟩, ft12⟩, ft13⟩, ft15⟩, ft16⟩, (by kernel_rfl)⟩, (by kernel_rfl)⟩, (by kernel_rfl)⟩, (by kernel_rfl)⟩
theorem inst3 : decide (Tryz.f3.isInstance Tryz.prog Rows.topStreamsRow.origin Rows.topStreamsRow.targs) = true := by kernel_rfl
theorem wrap3 : Tryz.f3.isWrapper Tryz.prog Rows.topStreamsRow.wrapper Rows.topStreamsRow.mainSum := by
  unfold Func.isWrapper; first | (rw [if_pos (by decide +kernel)]; kernel_rfl) | (rw [if_neg (by decide +kernel)]; exact ⟨rfl, rfl⟩)
theorem over3 : Rows.topStreamsRow.holds Tryz.pinned (OpenSpec.ofChange Rows.topStreamsSpec) :=
  OpenClaim.holds_of_wide 3 Tryz.f3 rfl rfl rfl rfl rfl rfl rfl ⟨rfl, rfl, rfl, rfl, rfl⟩ rfl rfl rfl rfl rfl name3 Tryz.func3 facts3
    (of_decide_eq_true inst3) wrap3
    (fun os started H enc _ => lifted3 os started H enc)
theorem topStreams : Rows.TopStreamsSaid := over3
end Go.Proofs.YthenlgnbegeliaaGreat
