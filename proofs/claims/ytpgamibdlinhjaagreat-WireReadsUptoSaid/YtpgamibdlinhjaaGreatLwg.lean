/- Messages written and read, whole; what was written is read as it was, one bit that is turned is found, unlike messages have unlike bytes. Conditions: sizes below a bound, numbers that fit. -/
import Derived.Test.YtpgamibdlinhjaaGreatLwf
set_option linter.unusedVariables false
set_option linter.unusedSimpArgs false
namespace Go.Hay.YtpgamibdlinhjaaGreat
open Go Go.Hay Go.Proofs

theorem fC157 (k : Nat) : law_alive.run (k + 20) = some (true, ()) := by kernel_rfl
theorem end_ok (N : Nat) (b : List UInt8) (e : Int) : ∃ x, fB18.run N b e = some (x, ()) ∧ (x = 0 ↔ e = 0 ∧ b = []) := by
  by_cases he : e = 0
  · subst he
    cases b with
    | nil => exact ⟨0, go_d rfl (go_n (by simp) rfl), by simp⟩
    | cons c b => exact ⟨13, go_d rfl (go_d (by simp <;> omega) rfl), by simp⟩
  · exact ⟨e, go_n he rfl, by simp [he]⟩

/-- A message's bytes, or that it has none. -/
noncomputable def E (m : Msg) : List UInt8 × Int := if okM m = true ∧ taken m = m then (frame (body m), 0) else ([], 170)
theorem E_ok {m : Msg} (h : okM m = true ∧ taken m = m) : E m = (frame (body m), 0) := if_pos h
theorem E_no {m : Msg} (h : ¬ (okM m = true ∧ taken m = m)) : E m = ([], 170) := if_neg h
theorem E_zero {m : Msg} : (E m).2 = 0 ↔ okM m = true ∧ taken m = m := by
  by_cases h : okM m = true ∧ taken m = m
  · rw [E_ok h]; simp [h]
  · rw [E_no h]; simp only [h, iff_false]; decide
/-- The message of bytes, or that they are none's. -/
noncomputable def D (raw : List UInt8) : Msg × Int :=
  if (unf raw).2.2 = 0 ∧ (unf raw).2.1 = (raw.length : Int) ∧ (rAll ((unf raw).1, 0, false)).1 = ([], 0, false) then ((rAll ((unf raw).1, 0, false)).2, 0) else (zero, 170)
theorem unf_le (b : List UInt8) : (unf b).1.length ≤ b.length := by
  unfold unf
  repeat' split
  all_goals simp
  omega
theorem fC96 (k : Nat) (hk : 17000000 ≤ k) (raw : List UInt8) (hb : raw.length ≤ 16900000) : fC62.run (k + 20) raw = some (den (D raw).1, (D raw).2, ()) := by
  have hle := unf_le raw
  refine go_o (fC148 k raw (by omega) (by omega) (by omega)) ?_
  unfold D
  by_cases h1 : (unf raw).2.2 = 0
  · refine go_nd h1 ?_
    by_cases h2 : (unf raw).2.1 = (raw.length : Int)
    · refine go_nd h2 (go_o (fA123 _ _ (by omega)) (go_o (r_all k hk (by omega)) ?_))
      generalize hq : rAll ((unf raw).1, 0, false) = q
      obtain ⟨⟨b, e, wr⟩, m⟩ := q
      cases wr with
      | true => rw [if_neg (by simp)]; exact go_t rfl rfl
      | false =>
        obtain ⟨x, g1, g2⟩ := end_ok (k + 20) b e
        refine go_f rfl (go_o g1 ?_)
        by_cases hx : x = 0
        · obtain ⟨he, hb'⟩ := g2.1 hx
          subst he; subst hb'
          rw [if_pos ⟨h1, h2, rfl⟩]
          exact go_nd hx rfl
        · rw [if_neg (fun h => hx (g2.2 ⟨congrArg (fun t => t.2.1) h.2.2, congrArg (fun t => t.1) h.2.2⟩))]
          exact go_nn hx rfl
    · rw [if_neg (fun h => h2 h.2.1)]
      exact go_nn h2 rfl
  · rw [if_neg (fun h => h1 h.1)]
    exact go_nn h1 rfl

/-- Bytes that a frame takes just up are that frame. -/
theorem fD160 {b : List UInt8} (h0 : (unf b).2.2 = 0) (hl : (unf b).2.1 = (b.length : Int)) : b = frame (unf b).1 ∧ (unf b).1.length ≤ 16777216 := by
  unfold unf at h0 hl ⊢
  split at h0
  · cases h0
  split at h0
  · cases h0
  split at h0
  · cases h0
  split at h0
  · cases h0
  split at h0
  · cases h0
  rename_i h8 c1 c2 c3 c5
  rw [if_neg h8, if_neg c1, if_neg c2, if_neg c3, if_neg c5] at hl ⊢
  have hl' : toNum (b.take 4) + 12 = b.length := by simp only at hl; omega
  generalize hn : toNum (b.take 4) = n at *
  have t4 : (b.take 4).length = 4 := by rw [List.length_take]; omega
  have e1 : numB 4 n = b.take 4 := by rw [← hn]; have := fD86 (b.take 4); rwa [t4] at this
  have d4 : ((b.drop 4).take 4).length = 4 := by rw [List.length_take, List.length_drop]; omega
  have e2 : numB 4 (sumN (b.take 4)) = (b.drop 4).take 4 := by
    rw [← Classical.not_not.1 c1]; have := fD86 ((b.drop 4).take 4); rwa [d4] at this
  have l8 : ((b.drop 8).take n).length = n := by rw [List.length_take, List.length_drop]; omega
  have d8 : ((b.drop (8 + n)).take 4).length = 4 := by rw [List.length_take, List.length_drop]; omega
  have e3 : numB 4 (sumN ((b.drop 8).take n)) = (b.drop (8 + n)).take 4 := by
    rw [← Classical.not_not.1 c5]; have := fD86 ((b.drop (8 + n)).take 4); rwa [d8] at this
  refine ⟨?_, by rw [l8]; omega⟩
  unfold frame
  simp only
  rw [l8, e1, e2, e3]
  have q1 : (b.drop (8 + n)).take 4 = b.drop (8 + n) := List.take_of_length_le (by rw [List.length_drop]; omega)
  rw [q1, List.append_assoc, List.append_assoc, ← List.drop_drop (i := n) (j := 8), List.take_append_drop, show b.drop 8 = (b.drop 4).drop 4 by rw [List.drop_drop], List.take_append_drop, List.take_append_drop]

theorem fD122 (c : Let) (k f t : Int) : fF c (head k f t) ∧ fo c (head k f t) = true := by
  have u : U64 0 := ⟨Int.le_refl 0, show (0 : Int) < 18446744073709551616 by decide⟩
  have i : I64 0 := ⟨show (-9223372036854775808 : Int) ≤ 0 by decide, show (0 : Int) < 9223372036854775808 by decide⟩
  cases c
  all_goals first | exact ⟨u, rfl⟩ | exact ⟨trivial, rfl⟩ | exact ⟨⟨i, i⟩, rfl⟩ | (refine ⟨⟨fun x hx => ?_, Nat.zero_le _⟩, rfl⟩; cases hx) | skip
  refine ⟨⟨⟨fun x hx => ?_, Nat.zero_le _⟩, fun x hx => ?_, Nat.zero_le _⟩, rfl⟩ <;> cases hx
theorem fD151 {m : Msg} (ht : taken m = m) (h : ∀ c ∈ fA1 m.jA, fF c m ∧ fo c m = true) (c : Let) : fF c m ∧ fo c m = true := by
  by_cases hc : c ∈ fA1 m.jA
  · exact h c hc
  · have al := fA93 hc m (head m.jA m.jB_ m.jC_)
    have e : copies (fA1 m.jA) m (head m.jA m.jB_ m.jC_) = m := ht
    rw [e] at al
    obtain ⟨h1, h2⟩ := fD122 c m.jA m.jB_ m.jC_
    exact ⟨al.F.2 h1, by rw [al.o]; exact h2⟩
theorem fB116 {l : List V} (h : Rw.rights l = true) : l.length ≤ 16 := (Rw.fB90 h).2
/-- A message that was read has small rows. -/
theorem fC140 {m : Msg} (h : ∀ c, fF c m ∧ fo c m = true) : BM m := by
  have hp := (h .p).2
  have hv := (h .v).2
  simp only [fo, Bool.and_eq_true, List.all_eq_true] at hp hv
  refine ⟨fun c => (h c).1, fun x hx => ⟨(h .p).1.1.1 x hx, ?_⟩, fun x hx => (h .p).1.2.1 x hx, fun x hx => ⟨(h .v).1.1 x hx, ?_⟩⟩
  · have := hp.1 x hx
    unfold oIns at this
    simp only [Bool.and_eq_true] at this
    have := fB116 this.2.2.2
    omega
  · have := fB116 (hv x hx)
    omega
theorem BM.sm {m : Msg} (h : BM m) {k : Nat} (hk : 17000000 ≤ k) : SM m (k + 20) := by
  have h1 := (h.F .p).1.2
  have h2 := (h.F .p).2.2
  have h3 := (h.F .v).2
  exact ⟨⟨by omega, by omega, fun x hx => by have := (h.ins x hx).2; exact ⟨by omega, by omega⟩⟩, ⟨by omega, by omega⟩, ⟨by omega, by omega, fun x hx => by have := (h.vers x hx).2; exact ⟨by omega, by omega⟩⟩⟩
theorem D_ok {raw : List UInt8} (h : (D raw).2 = 0) : okM (D raw).1 = true ∧ taken (D raw).1 = (D raw).1 ∧ raw = frame (body (D raw).1) ∧ BM (D raw).1 ∧ (body (D raw).1).length ≤ 16777216 := by
  unfold D at h ⊢
  split at h
  · rename_i hc
    rw [if_pos hc]
    obtain ⟨h1, h2, h3⟩ := hc
    obtain ⟨g1, g2⟩ := fD160 h1 h2
    obtain ⟨a1, a2, a3, a4⟩ := fC147 (b := (unf raw).1) (b' := []) (m := (rAll ((unf raw).1, 0, false)).2) (Prod.ext h3 rfl)
    rw [List.append_nil] at a2
    refine ⟨a1, a3, ?_, fC140 (fD151 a3 fun c hc => ⟨a4 c hc, (fD100 a1).2.2.2.1 c hc⟩), ?_⟩
    · simp only
      rw [← a2]; exact g1
    · simp only
      rw [← a2]; exact g2
  · cases h
theorem D_no {raw : List UInt8} (h : (D raw).2 ≠ 0) : D raw = (zero, 170) := by
  unfold D at h ⊢
  split at h
  · exact absurd rfl h
  · rename_i hc; rw [if_neg hc]
theorem fC162 : BM zero := fC140 fun c => fD122 c 0 0 0

theorem D_bad {raw : List UInt8} (h : (unf raw).2.2 ≠ 0 ∨ (unf raw).2.1 ≠ (raw.length : Int)) : D raw = (zero, 170) := by
  unfold D
  rw [if_neg]
  rintro ⟨h1, h2, _⟩
  rcases h with h | h
  · exact h h1
  · exact h h2
end Go.Hay.YtpgamibdlinhjaaGreat
