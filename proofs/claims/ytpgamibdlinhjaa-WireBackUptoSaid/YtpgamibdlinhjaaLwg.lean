/- Messages written and read, whole; what was written is read as it was, one bit that is turned is found, unlike messages have unlike bytes. Conditions: sizes below a bound, numbers that fit. -/
import Derived.Test.YtpgamibdlinhjaaLwf
set_option linter.unusedVariables false
set_option linter.unusedSimpArgs false
namespace Go.Hay.Ytpgamibdlinhjaa
open Go Go.Hay Go.Proofs

theorem alive_ok (k : Nat) : law_alive.run (k + 20) = some (true, ()) := by kernel_rfl
theorem end_ok (N : Nat) (b : List UInt8) (e : Int) : ∃ x, codec_Reader_End.run N b e = some (x, ()) ∧ (x = 0 ↔ e = 0 ∧ b = []) := by
  by_cases he : e = 0
  · subst he
    cases b with
    | nil => exact ⟨0, go_d rfl (go_n (by simp) rfl), by simp⟩
    | cons c b => exact ⟨13, go_d rfl (go_d (by simp <;> omega) rfl), by simp⟩
  · exact ⟨e, go_n he rfl, by simp [he]⟩

/-- A message's bytes, or that it has none. -/
noncomputable def E (m : Msg) : List UInt8 × Int := if okM m = true ∧ taken m = m then (frame (body m), 0) else ([], 170)
theorem E_ok {m : Msg} (h : okM m = true ∧ taken m = m) : E m = (frame (body m), 0) := if_pos h
theorem E_no {m : Msg} (h : ¬ (okM m = true ∧ taken m = m)) : E m = ([], 170) := if_neg h
theorem E_zero {m : Msg} : (E m).2 = 0 ↔ okM m = true ∧ taken m = m := by
  by_cases h : okM m = true ∧ taken m = m
  · rw [E_ok h]; simp [h]
  · rw [E_no h]; simp only [h, iff_false]; decide
theorem encode_ok (k : Nat) (hk : 17000000 ≤ k) (m : Msg) (hm : BM m) (hs : SM m (k + 20)) (hb : (body m).length ≤ 16777216) : wire_Encode.run (k + 20) (den m) = some ((E m).1, (E m).2, ()) := by
  refine go_o (v := (([], ()), ())) rfl (go_o (w_all k hk m hm (b := []) (wrong := false) (by simp only [List.length_nil]; omega)) ?_)
  rw [List.nil_append, Bool.false_or]
  by_cases ho : okM m = true
  · rw [ho]
    have hr := rAll_back m [] hm.F ho
    rw [List.append_nil] at hr
    have hall := r_all k hk (b := body m) (e := 0) (wrong := false) (by omega)
    rw [hr] at hall
    refine go_f rfl (go_o (bytes_ok _ _ (by omega)) (go_o (read_ok _ _ (by omega)) (go_o hall (go_o (cd_frame k (body m) hb (by omega) (by omega)) (go_nd rfl (go_o (wsame_ok (k + 20) m (taken m) hs) ?_))))))
    by_cases ht : m = taken m
    · rw [decide_eq_true ht, E_ok ⟨ho, ht.symm⟩]
      exact go_f rfl rfl
    · rw [decide_eq_false ht, E_no fun h => ht h.2.symm]
      exact go_t rfl rfl
  · have ho' : okM m = false := by simpa using ho
    rw [ho', E_no fun h => ho h.1]
    exact go_t rfl rfl

/-- The message of bytes, or that they are none's. -/
noncomputable def D (raw : List UInt8) : Msg × Int :=
  if (unf raw).2.2 = 0 ∧ (unf raw).2.1 = (raw.length : Int) ∧ (rAll ((unf raw).1, 0, false)).1 = ([], 0, false) then ((rAll ((unf raw).1, 0, false)).2, 0) else (zero, 170)
theorem unf_le (b : List UInt8) : (unf b).1.length ≤ b.length := by
  unfold unf
  repeat' split
  all_goals simp
  omega
theorem decode_ok (k : Nat) (hk : 17000000 ≤ k) (raw : List UInt8) (hb : raw.length ≤ 16900000) : wire_Decode.run (k + 20) raw = some (den (D raw).1, (D raw).2, ()) := by
  have hle := unf_le raw
  refine go_o (cd_unframe k raw (by omega) (by omega) (by omega)) ?_
  unfold D
  by_cases h1 : (unf raw).2.2 = 0
  · refine go_nd h1 ?_
    by_cases h2 : (unf raw).2.1 = (raw.length : Int)
    · refine go_nd h2 (go_o (read_ok _ _ (by omega)) (go_o (r_all k hk (by omega)) ?_))
      generalize hq : rAll ((unf raw).1, 0, false) = q
      obtain ⟨⟨b, e, wr⟩, m⟩ := q
      cases wr with
      | true => rw [if_neg (by simp)]; exact go_t rfl rfl
      | false =>
        obtain ⟨x, g1, g2⟩ := end_ok (k + 20) b e
        refine go_f rfl (go_o g1 ?_)
        by_cases hx : x = 0
        · obtain ⟨he, hb'⟩ := g2.1 hx
          subst he; subst hb'
          rw [if_pos ⟨h1, h2, rfl⟩]
          exact go_nd hx rfl
        · rw [if_neg (fun h => hx (g2.2 ⟨congrArg (fun t => t.2.1) h.2.2, congrArg (fun t => t.1) h.2.2⟩))]
          exact go_nn hx rfl
    · rw [if_neg (fun h => h2 h.2.1)]
      exact go_nn h2 rfl
  · rw [if_neg (fun h => h1 h.1)]
    exact go_nn h1 rfl

/-- Bytes that a frame takes just up are that frame. -/
theorem unf_inv {b : List UInt8} (h0 : (unf b).2.2 = 0) (hl : (unf b).2.1 = (b.length : Int)) : b = frame (unf b).1 ∧ (unf b).1.length ≤ 16777216 := by
  unfold unf at h0 hl ⊢
  split at h0
  · cases h0
  split at h0
  · cases h0
  split at h0
  · cases h0
  split at h0
  · cases h0
  split at h0
  · cases h0
  rename_i h8 c1 c2 c3 c5
  rw [if_neg h8, if_neg c1, if_neg c2, if_neg c3, if_neg c5] at hl ⊢
  have hl' : toNum (b.take 4) + 12 = b.length := by simp only at hl; omega
  generalize hn : toNum (b.take 4) = n at *
  have t4 : (b.take 4).length = 4 := by rw [List.length_take]; omega
  have e1 : numB 4 n = b.take 4 := by rw [← hn]; have := numB_toNum (b.take 4); rwa [t4] at this
  have d4 : ((b.drop 4).take 4).length = 4 := by rw [List.length_take, List.length_drop]; omega
  have e2 : numB 4 (sumN (b.take 4)) = (b.drop 4).take 4 := by
    rw [← Classical.not_not.1 c1]; have := numB_toNum ((b.drop 4).take 4); rwa [d4] at this
  have l8 : ((b.drop 8).take n).length = n := by rw [List.length_take, List.length_drop]; omega
  have d8 : ((b.drop (8 + n)).take 4).length = 4 := by rw [List.length_take, List.length_drop]; omega
  have e3 : numB 4 (sumN ((b.drop 8).take n)) = (b.drop (8 + n)).take 4 := by
    rw [← Classical.not_not.1 c5]; have := numB_toNum ((b.drop (8 + n)).take 4); rwa [d8] at this
  refine ⟨?_, by rw [l8]; omega⟩
  unfold frame
  simp only
  rw [l8, e1, e2, e3]
  have q1 : (b.drop (8 + n)).take 4 = b.drop (8 + n) := List.take_of_length_le (by rw [List.length_drop]; omega)
  rw [q1, List.append_assoc, List.append_assoc, ← List.drop_drop (i := n) (j := 8), List.take_append_drop, show b.drop 8 = (b.drop 4).drop 4 by rw [List.drop_drop], List.take_append_drop, List.take_append_drop]

theorem head_ok (c : Let) (k f t : Int) : fF c (head k f t) ∧ fo c (head k f t) = true := by
  have u : U64 0 := ⟨Int.le_refl 0, show (0 : Int) < 18446744073709551616 by decide⟩
  have i : I64 0 := ⟨show (-9223372036854775808 : Int) ≤ 0 by decide, show (0 : Int) < 9223372036854775808 by decide⟩
  cases c
  all_goals first | exact ⟨u, rfl⟩ | exact ⟨trivial, rfl⟩ | exact ⟨⟨i, i⟩, rfl⟩ | (refine ⟨⟨fun x hx => ?_, Nat.zero_le _⟩, rfl⟩; cases hx) | skip
  refine ⟨⟨⟨fun x hx => ?_, Nat.zero_le _⟩, fun x hx => ?_, Nat.zero_le _⟩, rfl⟩ <;> cases hx
theorem taken_all {m : Msg} (ht : taken m = m) (h : ∀ c ∈ letters m.kind, fF c m ∧ fo c m = true) (c : Let) : fF c m ∧ fo c m = true := by
  by_cases hc : c ∈ letters m.kind
  · exact h c hc
  · have al := alike_copies hc m (head m.kind m.from_ m.to_)
    have e : copies (letters m.kind) m (head m.kind m.from_ m.to_) = m := ht
    rw [e] at al
    obtain ⟨h1, h2⟩ := head_ok c m.kind m.from_ m.to_
    exact ⟨al.F.2 h1, by rw [al.o]; exact h2⟩
theorem row_few {l : List V} (h : Rw.rights l = true) : l.length ≤ 16 := (Rw.rights_inv h).2
/-- A message that was read has small rows. -/
theorem read_BM {m : Msg} (h : ∀ c, fF c m ∧ fo c m = true) : BM m := by
  have hp := (h .p).2
  have hv := (h .v).2
  simp only [fo, Bool.and_eq_true, List.all_eq_true] at hp hv
  refine ⟨fun c => (h c).1, fun x hx => ⟨(h .p).1.1.1 x hx, ?_⟩, fun x hx => (h .p).1.2.1 x hx, fun x hx => ⟨(h .v).1.1 x hx, ?_⟩⟩
  · have := hp.1 x hx
    unfold oIns at this
    simp only [Bool.and_eq_true] at this
    have := row_few this.2.2.2
    omega
  · have := row_few (hv x hx)
    omega
theorem BM.sm {m : Msg} (h : BM m) {k : Nat} (hk : 17000000 ≤ k) : SM m (k + 20) := by
  have h1 := (h.F .p).1.2
  have h2 := (h.F .p).2.2
  have h3 := (h.F .v).2
  exact ⟨⟨by omega, by omega, fun x hx => by have := (h.ins x hx).2; exact ⟨by omega, by omega⟩⟩, ⟨by omega, by omega⟩, ⟨by omega, by omega, fun x hx => by have := (h.vers x hx).2; exact ⟨by omega, by omega⟩⟩⟩
theorem D_ok {raw : List UInt8} (h : (D raw).2 = 0) : okM (D raw).1 = true ∧ taken (D raw).1 = (D raw).1 ∧ raw = frame (body (D raw).1) ∧ BM (D raw).1 ∧ (body (D raw).1).length ≤ 16777216 := by
  unfold D at h ⊢
  split at h
  · rename_i hc
    rw [if_pos hc]
    obtain ⟨h1, h2, h3⟩ := hc
    obtain ⟨g1, g2⟩ := unf_inv h1 h2
    obtain ⟨a1, a2, a3, a4⟩ := rAll_forth (b := (unf raw).1) (b' := []) (m := (rAll ((unf raw).1, 0, false)).2) (Prod.ext h3 rfl)
    rw [List.append_nil] at a2
    refine ⟨a1, a3, ?_, read_BM (taken_all a3 fun c hc => ⟨a4 c hc, (okM_inv a1).2.2.2.1 c hc⟩), ?_⟩
    · simp only
      rw [← a2]; exact g1
    · simp only
      rw [← a2]; exact g2
  · cases h
theorem D_no {raw : List UInt8} (h : (D raw).2 ≠ 0) : D raw = (zero, 170) := by
  unfold D at h ⊢
  split at h
  · exact absurd rfl h
  · rename_i hc; rw [if_neg hc]
theorem D_frame {m : Msg} (hf : FM m) (ho : okM m = true) (hb : (body m).length ≤ 16777216) : D (frame (body m)) = (taken m, 0) := by
  have h1 := unf_frame (body m) [] hb
  rw [List.append_nil] at h1
  have h2 := rAll_back m [] hf ho
  rw [List.append_nil] at h2
  unfold D
  rw [h1]
  dsimp only
  rw [h2]
  exact if_pos ⟨rfl, by rw [frame_len], rfl⟩
theorem den_inj {a b : Msg} (h : den a = den b) : a = b := by
  have : undo (den a) = undo (den b) := by rw [h]
  exact this
theorem zero_BM : BM zero := read_BM fun c => head_ok c 0 0 0

/-- The laws. -/
theorem wire_back (k : Nat) (hk : 17000000 ≤ k) (m : Msg) (hm : BM m) (hb : (body m).length ≤ 16777216) (raw : List UInt8) (hr : raw.length ≤ 16777216) : law_WireBack.run (k + 20) (den m) raw = some (true, ()) := by
  have key : law_WireBack_0.run (k + 20) m.kind m.from_ m.to_ m.txn m.base m.epoch m.since m.mark m.ask m.attempt m.node m.yes m.no m.wiped m.at_.1 m.at_.2 m.part m.part1 m.versions (E m).1 (E m).2 = some (.inl ()) := by
    by_cases h : okM m = true ∧ taken m = m
    · rw [E_ok h]
      have hd := decode_ok k hk (frame (body m)) (by rw [frame_len]; omega)
      rw [D_frame hm.F h.1 hb, h.2] at hd
      refine go_d rfl (go_o hd (go_nd rfl (go_o (rsame_ok (k + 20) m m (hm.sm hk)) ?_)))
      rw [decide_eq_true rfl]
      exact go_f rfl rfl
    · rw [E_no h]
      exact go_n (by decide) rfl
  refine go_o (encode_ok k hk m hm (hm.sm hk) hb) (go_o key (go_o (decode_ok k hk raw (by omega)) ?_))
  by_cases h : (D raw).2 = 0
  · obtain ⟨a1, a2, a3, a4, a5⟩ := D_ok h
    refine go_nd h (go_o (encode_ok k hk _ a4 (a4.sm hk) a5) (go_o (alive_ok k) (go_t rfl ?_)))
    rw [E_ok ⟨a1, a2⟩]
    refine go_d rfl ?_
    rw [decide_eq_true (show frame (body (D raw).1) = raw from a3.symm)]
  · have hz := D_no h
    rw [hz]
    refine go_nn (by decide) (go_o (alive_ok k) (go_t rfl (go_d rfl ?_)))
    refine go_o (rsame_ok (k + 20) zero zero (zero_BM.sm hk)) ?_
    rw [decide_eq_true rfl]
theorem wire_unlike (k : Nat) (hk : 17000000 ≤ k) (m o : Msg) (hm : BM m) (ho : BM o) (hb : (body m).length ≤ 16777216) (hc : (body o).length ≤ 16777216) : law_WireUnlike.run (k + 20) (den m) (den o) = some (true, ()) := by
  refine go_o (encode_ok k hk m hm (hm.sm hk) hb) (go_o (encode_ok k hk o ho (ho.sm hk) hc) (go_o (alive_ok k) (go_t rfl ?_)))
  by_cases h1 : okM m = true ∧ taken m = m
  · refine go_nd (E_zero.2 h1) ?_
    by_cases h2 : okM o = true ∧ taken o = o
    · refine go_nd (E_zero.2 h2) (go_o (rsame_ok (k + 20) m o (hm.sm hk)) ?_)
      rw [E_ok h1, E_ok h2]
      have : frame (body m) = frame (body o) ↔ m = o := by
        constructor
        · intro h
          have d1 := D_frame hm.F h1.1 hb
          have d2 := D_frame ho.F h2.1 hc
          rw [h, d2] at d1
          have := congrArg (fun t => t.1) d1
          simp only at this
          rw [h1.2, h2.2] at this
          exact this.symm
        · intro h; rw [h]
      by_cases e : m = o
      · rw [decide_eq_true (this.2 e), decide_eq_true e]; rfl
      · rw [decide_eq_false (fun h => e (this.1 h)), decide_eq_false e]; rfl
    · exact go_nn (fun h => h2 (E_zero.1 h)) rfl
  · exact go_nn (fun h => h1 (E_zero.1 h)) rfl
theorem D_bad {raw : List UInt8} (h : (unf raw).2.2 ≠ 0 ∨ (unf raw).2.1 ≠ (raw.length : Int)) : D raw = (zero, 170) := by
  unfold D
  rw [if_neg]
  rintro ⟨h1, h2, _⟩
  rcases h with h | h
  · exact h h1
  · exact h h2
theorem wire_turned (k : Nat) (hk : 17000000 ≤ k) (m : Msg) (hm : BM m) (hb : (body m).length ≤ 16777216) (at_ : Int) (h2 : at_ < 9223372036854775808) : law_WireTurned.run (k + 20) (den m) at_ = some (true, ()) := by
  refine go_o (alive_ok k) (go_f rfl (go_o (encode_ok k hk m hm (hm.sm hk) hb) ?_))
  by_cases h1 : okM m = true ∧ taken m = m
  · refine go_nd (E_zero.2 h1) ?_
    rw [E_ok h1]
    dsimp only
    generalize hx : body m = x at hb ⊢
    have hlen := frame_len x
    have e1 : IntKind.i64.wrap (((frame x).length : Int) - 1) = (((frame x).length - 1 : Nat) : Int) := by rw [wrap_i64] <;> omega
    have hd1 : D (frame x ++ [0]) = (zero, 170) := D_bad (.inr (by rw [unf_frame x [0] hb]; simp [hlen]; omega))
    have hd2 : D ((frame x).take ((frame x).length - 1)) = (zero, 170) := D_bad (.inl (by rw [unf_cut x hb _ (by omega)]; decide))
    have q1 := decode_ok k hk (frame x ++ [0]) (by simp [hlen]; omega)
    have q2 := decode_ok k hk ((frame x).take ((frame x).length - 1)) (by rw [List.length_take]; omega)
    rw [hd1] at q1
    rw [hd2] at q2
    refine go_t (room_t (by omega) (by omega)) (go_t (room_t (by omega) (by omega)) (go_o q1 (go_t (okB_t (by omega) (by rw [e1]; omega) (by rw [e1]; omega)) ?_)))
    rw [e1, List.drop_zero, Int.sub_zero, Int.toNat_natCast]
    refine go_o q2 (go_nd rfl (go_nd rfl ?_))
    by_cases h0 : at_ < 0
    · exact go_d h0 (go_o (alive_ok k) rfl)
    obtain ⟨n, rfl⟩ := Int.eq_ofNat_of_zero_le (show 0 ≤ at_ by omega)
    have e2 : IntKind.i64.wrap (((n : Nat) : Int).tdiv 8) = ((n / 8 : Nat) : Int) := by
      rw [Int.tdiv_eq_ediv_of_nonneg (Int.natCast_nonneg n)]
      have : ((n : Nat) : Int) / 8 = ((n / 8 : Nat) : Int) := by omega
      rw [this]
      exact wrap_nat _ (by omega)
    have e3 : ((n : Nat) : Int).tmod 8 = ((n % 8 : Nat) : Int) := by
      rw [Int.tmod_eq_emod_of_nonneg (Int.natCast_nonneg n)]
      omega
    refine go_n h0 ?_
    rw [e2]
    by_cases h3 : ((n / 8 : Nat) : Int) ≥ ((frame x).length : Int)
    · exact go_d h3 (go_o (alive_ok k) rfl)
    have hlt : n / 8 < (frame x).length := by omega
    refine go_n h3 (go_t (inB_nat hlt) (go_d (by rw [Int.toNat_natCast]; exact hlt) (go_d (by rw [e3]; omega) (go_t (inB_nat hlt) (go_d (by rw [Int.toNat_natCast]; exact hlt) ?_)))))
    rw [e3]
    have hne := turn_ne ((frame x).getD (n / 8) 0) (n % 8) (Nat.mod_lt _ (by omega))
    have hd3 : D ((frame x).set (n / 8) (turn ((frame x).getD (n / 8) 0) ((n % 8 : Nat) : Int))) = (zero, 170) := D_bad (.inl (by rw [unf_turn x hb (n / 8) hlt _ hne]; decide))
    have q3 := decode_ok k hk ((frame x).set (n / 8) (turn ((frame x).getD (n / 8) 0) ((n % 8 : Nat) : Int))) (by rw [List.length_set]; omega)
    rw [hd3] at q3
    exact go_o q3 (go_o (alive_ok k) (go_t rfl rfl))
  · refine go_nn (fun h => h1 (E_zero.1 h)) (go_o (alive_ok k) (go_t rfl ?_))
    rw [E_no h1]
    rfl
end Go.Hay.Ytpgamibdlinhjaa
