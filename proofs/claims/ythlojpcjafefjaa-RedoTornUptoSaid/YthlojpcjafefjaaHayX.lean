/- What code that is proved alone hands back: the law. -/
import Derived.Test.YthlojpcjafefjaaHayW
set_option linter.unusedVariables false
set_option linter.unusedSimpArgs false
namespace Go.Hay
open Go.RowKit
section
variable {B : Bs} {c : Cf} {w : World} {s : Obs}

theorem own_nm [Sites] {c1 c2 : Cf} {n b : Nat} {o : Ob} (h : Own c1 n o b) (hn : ∀ v, c1.nm n = some v → c2.nm n = some v) : Own c2 n o b := by
  have hl : isLive o = true := by
    cases o <;> first | rfl | exact h.elim
  obtain ⟨v, h1, h2⟩ := own_live h
  exact live_own hl (hn v h1) h2

/-- What stands behind code that is proved alone, for the code around it. -/
theorem Handed.give [Sites] {z : Tk} {vs : List Value} {I1 : Nat → Prop} {s0 : Obs} (hR : Rel B c s w) (h : Handed B c s w z vs I1 s0) {c1 : Cf} {w1 : World} {s1 : Obs} {rd : Option Nat} {fl : Nat} (hR1 : Rel (bs0 rd fl w vs I1 s0) c1 s1 w1) (hL1 : Lasts I1 c1.I w w1)
    {outs : Sh} {as1 : List AV} {vals1 : List Value} {y : outs.den} {z1 : Tk} (hN1 : ∀ i ∈ updIx outs, ∀ v, vs[i]? = some v → c1.nm i = some v) (hv : VRs c1 w1 as1 vals1) (hx : xt outs as1 ⟨s1, [], []⟩ = some (y, [], z1)) (hnr : noRo outs = true) (hup : updOk z.tk outs = true) {nx : Nat} {NL : List Nat} (hNL : NL = onames (nameAt z.tk) nx outs 0) (hNlen : NL.length ≤ 1000000)
    (hnd : nodupB NL = true) (hfr : freshB z.obs nx NL.length = true) :
    ∃ c2, Rel B c2 (putAll (restore s0 z.tk 0 z.obs) (bld (outNm z.tk NL) outs y 0).2.1) w1 ∧ VRs c2 w1 (bld (outNm z.tk NL) outs y 0).1 vals1 ∧ Ext c w c2 w1 ∧ ∀ b, c2.I b → c1.I b ∨ ∃ i o, look s1 i = some o ∧ Own c1 i o b := by
  have hnd := nodupB_ok hnd
  have hfr := freshB_ok hfr
  obtain ⟨I2, vs1, u1, u2, hT, hE2, _, _, rfl, hu2, hB⟩ := xt_ok (B := bs0 rd fl w vs I1 s0) (c := c1) (s := s1) (w := w1) outs as1 ⟨s1, [], []⟩ y [] z1 hx (TkOk.start hR1) hv
  simp only [VRs] at hu2
  subst hu2
  rw [List.append_nil]
  obtain ⟨_, hlen, hpl⟩ := onames_tk (nameAt z.tk) nx z.tk outs as1 ⟨s1, [], []⟩ y [] z1 hx hup
  simp only [List.length_nil, Nat.zero_add] at hlen hpl
  rw [← hNL] at hlen hpl
  have hvl : vs1.length = NL.length := by rw [hT.len, hlen]
  -- names
  let c2 : Cf := ⟨fun n => match c.nm n with | some v => some v | none => match placeOf' NL n with | some k => vs1[k]? | none => none, I2⟩
  have hold : ∀ n v, c.nm n = some v → c2.nm n = some v := fun n v hn => by simp only [c2, hn]
  have hnone : ∀ k, k < NL.length → c.nm (nx + k) = none := fun k hk => hR.dom _ (h.tk.dom _ (hfr k hk))
  have hNLk : ∀ k, k < NL.length → NL[k]? = some (NL.getD k 0) := fun k hk => by
    rw [List.getD_eq_getElem?_getD, List.getElem?_eq_getElem hk]; rfl
  have hplace : ∀ k, k < NL.length → (NL.getD k 0 = nx + k ∧ c.nm (NL.getD k 0) = none) ∨ ∃ i id o o', i ∈ updIx outs ∧ NL.getD k 0 = id ∧ z1.tk[k]? = some (some i, o) ∧ z.tk[i]? = some (some id, o') := by
    intro k hk
    have h1 := hNLk k hk
    rcases hpl k hk with h2 | ⟨i, id, o, o', h0, h2, h3, h4⟩
    · rw [h1] at h2
      simp only [Option.some.injEq] at h2
      exact .inl ⟨h2, by rw [h2]; exact hnone k hk⟩
    · rw [h1] at h2
      simp only [Option.some.injEq] at h2
      exact .inr ⟨i, id, o, o', h0, by rw [h2]; simp [nameAt, h4], h3, h4⟩
  have hgives : Gives c2 (outNm z.tk NL) vs1 := by
    intro k v hk
    have hlt : k < NL.length := by rw [← hvl]; exact (List.getElem?_eq_some_iff.1 hk).1
    rw [outNm_lt (by omega)]
    rcases hplace k hlt with ⟨h1, h2⟩ | ⟨i, id, o, o', h0, h1, h2, h3⟩
    · simp only [c2, h2, place_nodup hnd (hNLk k hlt)]
      exact hk
    · obtain ⟨_, _, _, h4⟩ := h.tk.at_ i id o' h3
      obtain ⟨_, _, _, h5⟩ := hT.at_ k i o h2
      have hi : i < vs.length := by rw [h.tk.len]; exact (List.getElem?_eq_some_iff.1 h3).1
      have h6 : vs[i]? = some vs[i] := List.getElem?_eq_getElem hi
      have h7 := hN1 i h0 _ h6
      rw [h5, hk] at h7
      simp only [h1]
      refine hold id v ?_
      rw [h4, h6, ← h7]
  have hI : ∀ b, I2 b → c2.I b := fun b hb => hb
  obtain ⟨hB1, _, hB2, hB3⟩ := hB (outNm z.tk NL) c2 hgives hI (fun i hi v hv => by
    obtain ⟨id, o', h3⟩ := updOk_tk hup i hi
    obtain ⟨_, _, _, h4⟩ := h.tk.at_ i id o' h3
    have hi' : i < vs.length := by rw [h.tk.len]; exact (List.getElem?_eq_some_iff.1 h3).1
    have h6 : vs[i]? = some vs[i] := List.getElem?_eq_getElem hi'
    have h7 := hN1 i hi _ h6
    rw [hv] at h7
    rw [outNm_ge, show nameAt z.tk i = id by simp [nameAt, h3]]
    exact hold id v (by rw [h4, h6, ← h7]))
  simp only [List.length_nil] at hB1 hB2 hB3
  -- objects that are handed back
  have hsz : w.heap.size ≤ w1.heap.size := hR1.size
  have hnew : ∀ n o, (n, o) ∈ (bld (outNm z.tk NL) outs y 0).2.1 → ∀ b, Own c2 n o b → ∃ k i o1, n = NL.getD k 0 ∧ z1.tk[k]? = some (some i, o1) ∧ Own c1 i o1 b ∧ look s1 i = some o1 ∧ isRo o1 = false ∧ ((bs0 rd fl w vs I1 s0).M b ∨ w.heap.size ≤ b) := by
    intro n o hm b hb
    obtain ⟨k, _, hk, hn, _, _, h1⟩ := hB2 n o hm
    obtain ⟨v, h2, h3⟩ := own_live hb
    have hvk : vs1[k]? = some vs1[k] := List.getElem?_eq_getElem hk
    have h4 := hgives k _ hvk
    rw [← hn, h2] at h4
    simp only [Option.some.injEq] at h4
    obtain ⟨i, o1, h5, h6, h7⟩ := h1 _ b hvk (by rw [← h4]; exact h3)
    have hro := h7 (bld_noRo outs y 0 hnr n o hm)
    obtain ⟨_, h8, _, _⟩ := hT.at_ k i o1 h5
    exact ⟨k, i, o1, hn.trans (outNm_lt (by omega)), h5, h6, h8, hro, hR1.mine i o1 b h8 hro h6⟩
  -- objects that stay
  have hstay : ∀ n o, look (restore s0 z.tk 0 z.obs) n = some o → isLive o = true → look s n = some o ∧ ∀ b, Own c n o b → b < w.heap.size ∧ ¬ (bs0 rd fl w vs I1 s0).M b ∧ ¬ I1 b := by
    intro n o hl hlive
    rcases restore_some hl with h1 | ⟨k, h1, h2⟩
    · have hs := h.tk.live n o h1 hlive
      refine ⟨hs, fun b hb => ⟨(hR.ob n o hs).lt hb, fun hM => ?_, fun hI => h.tk.rel.imm n o b h1 hb hI⟩⟩
      obtain ⟨i, o0, id, o', q1, q2, q3, q4, q5, _⟩ := h.mine hR hM
      have := hR.sep id n o' o b q5 hs q4 hb
      subst this
      have := (h.tk.at_ i id o' q3).1
      rw [this] at h1
      simp only [Option.some.injEq] at h1
      subst h1
      cases hlive
    · obtain ⟨_, hs, _, _⟩ := h.tk.at_ k n o h1
      refine ⟨hs, fun b hb => ⟨(hR.ob n o hs).lt hb, fun hM => ?_, h.tk.imm hR h1 hb⟩⟩
      obtain ⟨i, o0, id, o', q1, q2, q3, q4, q5, _⟩ := h.mine hR hM
      have := hR.sep id n o' o b q5 hs q4 hb
      subst this
      have := h.tk.nodup i k id o' o q3 h1
      subst this
      simp only [Nat.zero_add, roAt, q1] at h2
      rw [q2] at h2
      cases h2
  have hI2 : ∀ b, I2 b → I1 b ∨ (bs0 rd fl w vs I1 s0).M b ∨ w.heap.size ≤ b := by
    intro b hb
    rcases hT.newI b hb with h1 | ⟨id, e, t, l, h1, _, h3⟩
    · exact hR1.new b h1
    · exact .inr (hR1.mine id _ b h1 rfl h3)
  have hM : ∀ b, (bs0 rd fl w vs I1 s0).M b → B.M b ∨ B.w.heap.size ≤ b := fun b hb => by
    obtain ⟨_, _, _, _, _, _, _, _, _, h1⟩ := h.mine hR hb
    exact h1
  have hI12 : ∀ b, I1 b → I2 b := fun b hb => hE2.lasts.sub b (hL1.sub b hb)
  have hE : Ext c w c2 w1 := ⟨hold, fun b hb => hI12 b (h.tk.ext.lasts.sub b hb), fun b hb => hL1.heap b (h.tk.ext.lasts.sub b hb)⟩
  have hstayR : ∀ n o, look (restore s0 z.tk 0 z.obs) n = some o → ObR c2 w1 n o := by
    intro n o hl
    have hkeep : ∀ b, b < w.heap.size → ¬ (bs0 rd fl w vs I1 s0).M b → w1.heap[b]? = w.heap[b]? := fun b h1 h2 => hR1.keep b h1 h2
    cases hlive : isLive o with
    | true =>
      obtain ⟨hs, hb⟩ := hstay n o hl hlive
      exact (hR.ob n o hs).ext hE fun b ho => hkeep b (hb b ho).1 (hb b ho).2.1
    | false =>
      rcases restore_some hl with h1 | ⟨k, h1, h2⟩
      · have hE' : Ext ⟨c.nm, I1⟩ w c2 w1 := ⟨hold, hI12, fun b hb => hL1.heap b hb⟩
        refine (h.tk.rel.ob n o h1).ext hE' fun b ho => ?_
        cases o <;> first | exact ho.elim | (cases hlive; done)
      · have := (h.tk.at_ k n o h1).2.2.1
        rw [hlive] at this
        cases this
  have hstayO : ∀ n o b, look (restore s0 z.tk 0 z.obs) n = some o → Own c2 n o b → look s n = some o ∧ Own c n o b ∧ b < w.heap.size ∧ ¬ (bs0 rd fl w vs I1 s0).M b ∧ ¬ I1 b := by
    intro n o b hl hb
    have hlive : isLive o = true := by cases o <;> first | rfl | exact hb.elim
    obtain ⟨hs, h1⟩ := hstay n o hl hlive
    obtain ⟨v, h2, h3⟩ := own_live hb
    have hn : c.nm n = some v := by
      have hob := hR.ob n o hs
      rw [← rd_obr] at hob
      rcases rd_cases o with ⟨t, cs, e⟩ | ⟨e', t, l, e⟩ | ⟨t, l, e⟩ | e <;> rw [e] at hob
      · obtain ⟨b', us, g1, _⟩ := hob
        rw [hold n _ g1] at h2
        rw [← h2]; exact g1
      · obtain ⟨v', us, g1, _⟩ := hob
        rw [hold n _ g1] at h2
        rw [← h2]; exact g1
      · rw [← rd_own, e] at hb; exact hb.elim
      · rw [← rd_own, e] at hb; exact hb.elim
    have ho : Own c n o b := live_own hlive hn h3
    exact ⟨hs, ho, h1 b ho⟩
  refine ⟨c2, ⟨?_, ?_, ?_, ?_, ?_, ?_, ?_, ?_, ?_, ?_, hR1.os.trans hR.os, hR1.tape.trans hR.tape, hR1.output.trans hR.output, Nat.le_trans hR.size hsz⟩, hB1, hE, fun b hb => (hT.newI b hb).imp (fun h => h) fun ⟨id, e, t, l, h1, _, h3⟩ => ⟨id, _, h1, h3⟩⟩
  · intro n o hl
    rcases putAll_some hl with h1 | ⟨h1, _⟩
    · obtain ⟨k, _, hk, hn, h2, _⟩ := hB2 n o h1
      exact h2
    · exact hstayR n o h1
  · intro n hl
    obtain ⟨h1, h2⟩ := putAll_none hl
    have h3 := hR.dom n (h.tk.dom n (restore_none h1))
    simp only [c2, h3]
    cases hp : placeOf' NL n with
    | none => rfl
    | some k =>
      simp only
      cases hk : vs1[k]? with
      | none => rfl
      | some v =>
        obtain ⟨o0, ho⟩ := hB3 k (Nat.zero_le _) (List.getElem?_eq_some_iff.1 hk).1
        have := place_some hp
        rw [outNm_lt (by have := (List.getElem?_eq_some_iff.1 hk).1; omega)] at ho
        simp only [List.getD_eq_getElem?_getD, this, Option.getD_some] at ho
        exact (h2 o0 ho).elim
  · intro i j oi oj b hi hj hbi hbj
    rcases putAll_some hi with h1 | ⟨h1, _⟩ <;> rcases putAll_some hj with h2 | ⟨h2, _⟩
    · obtain ⟨k, i1, o1, e1, g1, g2, g3, _, _⟩ := hnew i oi h1 b hbi
      obtain ⟨k', i2, o2, e2, g4, g5, g6, _, _⟩ := hnew j oj h2 b hbj
      have := hR1.sep i1 i2 o1 o2 b g3 g6 g2 g5
      subst this
      have := hT.nodup k k' i1 o1 o2 g1 g4
      subst this
      rw [e1, e2]
    · obtain ⟨k, i1, o1, e1, g1, g2, g3, _, g7⟩ := hnew i oi h1 b hbi
      obtain ⟨_, _, q1, q2, _⟩ := hstayO j oj b h2 hbj
      rcases g7 with g7 | g7
      · exact (q2 g7).elim
      · omega
    · obtain ⟨k, i1, o1, e1, g1, g2, g3, _, g7⟩ := hnew j oj h2 b hbj
      obtain ⟨_, _, q1, q2, _⟩ := hstayO i oi b h1 hbi
      rcases g7 with g7 | g7
      · exact (q2 g7).elim
      · omega
    · obtain ⟨q1, q2, _⟩ := hstayO i oi b h1 hbi
      obtain ⟨q3, q4, _⟩ := hstayO j oj b h2 hbj
      exact hR.sep i j oi oj b q1 q3 q2 q4
  · intro n o b hl hb hIb
    rcases putAll_some hl with h1 | ⟨h1, _⟩
    · obtain ⟨k, i1, o1, e1, g1, g2, _⟩ := hnew n o h1 b hb
      exact hT.imm hR1 g1 g2 hIb
    · obtain ⟨_, _, q1, q2, q3⟩ := hstayO n o b h1 hb
      rcases hI2 b hIb with h2 | h2 | h2
      · exact q3 h2
      · exact q2 h2
      · omega
  · intro b hb
    exact hT.rel.lo b hb
  · intro b hb hm
    have h1 : ¬ (bs0 rd fl w vs I1 s0).M b := fun hM' => by
      rcases hM b hM' with h2 | h2
      · exact hm h2
      · omega
    exact (hR1.keep b (Nat.lt_of_lt_of_le hb hR.size) h1).trans (hR.keep b hb hm)
  · intro n o b hl hr hb
    rcases putAll_some hl with h1 | ⟨h1, _⟩
    · obtain ⟨_, _, _, _, _, _, _, _, g7⟩ := hnew n o h1 b hb
      rcases g7 with g7 | g7
      · exact hM b g7
      · exact .inr (Nat.le_trans hR.size g7)
    · obtain ⟨q1, q2, _⟩ := hstayO n o b h1 hb
      exact hR.mine n o b q1 hr q2
  · intro n o b hl hb
    rcases putAll_some hl with h1 | ⟨h1, _⟩
    · obtain ⟨_, _, _, _, _, _, _, _, g7⟩ := hnew n o h1 b hb
      rcases g7 with g7 | g7
      · exact .inr (hM b g7)
      · exact .inr (.inr (Nat.le_trans hR.size g7))
    · obtain ⟨q1, q2, _⟩ := hstayO n o b h1 hb
      exact hR.ro n o b q1 q2
  · intro b hb
    exact hI12 b (h.tk.ext.lasts.sub b (hR.sub b hb))
  · intro b hb
    rcases hI2 b hb with h1 | h1 | h1
    · exact h.tk.rel.new b h1
    · rcases hM b h1 with h2 | h2
      · exact .inr (.inl h2)
      · exact .inr (.inr h2)
    · exact .inr (.inr (Nat.le_trans hR.size h1))

/-- What is taken for a shape is handed over. -/
theorem handed [Sites] {ins : Sh} {args : List AV} {vals : List Value} {x : ins.den} {z : Tk} (hR : Rel B c s w) (hv : VRs c w args vals) (hx : xt ins args ⟨s, [], []⟩ = some (x, [], z)) (hk : updIx ins = []) :
    ∃ vs I1, Handed B c s w z vs I1 (bld (fun k => k) ins x 0).2.1 ∧ VRs (cf0 vs I1) w (bld (fun k => k) ins x 0).1 vals := by
  obtain ⟨I1, vs, u1, u2, hT, _, _, _, rfl, hu2, hB⟩ := xt_ok (B := B) (c := c) (s := s) (w := w) ins args ⟨s, [], []⟩ x [] z hx (TkOk.start hR) hv
  simp only [VRs] at hu2
  subst hu2
  rw [List.append_nil]
  obtain ⟨h1, _, h2, h3⟩ := hB (fun k => k) (cf0 vs I1) (fun k v hk => hk) (fun b hb => hb) (fun i hi => by rw [hk] at hi; cases hi)
  refine ⟨vs, I1, ⟨hT, fun i o0 hm => ?_, fun k hk => h3 k (Nat.zero_le _) hk⟩, h1⟩
  obtain ⟨k, _, hk, e, g1, g2, g3⟩ := h2 i o0 hm
  subst e
  exact ⟨hk, g1, g2, g3⟩
end
end Go.Hay
