/- The evaluator of reading operations is right, last part: slices, composites; all operations. -/
import Derived.Test.YthlojpcjafefjaaHayF
set_option linter.unusedVariables false
set_option linter.unusedSimpArgs false
namespace Go.Hay
open Go.RowKit
section
variable {P : Program} {U : TEnv} {c : Cf} {w : World} {lk : Lk} {ρ : Operand → Option AV} {e : Operand → Value}

theorem list_part [Sites] {t : Ty} {l : List t.den} {A : Option Addr} {n cap : Nat} (h : SliceAt c.I w (TR c.I w t) l (.slice A n cap)) {lo hi : Option (Option AV)} {a b : Int} (h1 : loOf lo = some a) (h2 : hiOf l.length hi = some b) (hb : 0 ≤ a ∧ a ≤ b ∧ b ≤ (l.length : Int)) :
    VR c w (.list t (partL lo hi l a b)) (.slice (if cap = a.toNat then A else A.map (·.add (a.toNat * t.size))) (b.toNat - a.toNat) (cap - a.toNat)) := by
  simp only [VR]
  rw [partL_eq h1 h2]
  exact h.part TR_len_fun (by omega) (by omega)

theorem row_part {id : Nat} {A : Option Addr} {n cap sz : Nat} (h : c.nm id = some (.slice A n cap)) (hn : n ≤ maxLen) {a b : Int} (hb : 0 ≤ a ∧ a ≤ b ∧ b ≤ (n : Int)) :
    VR c w (.view id sz a.toNat (b - a).toNat) (.slice (if cap = a.toNat then A else A.map (·.add (a.toNat * sz))) (b.toNat - a.toNat) (cap - a.toNat)) := by
  simp only [VR]
  refine ⟨A, n, cap, h, by omega, hn, ?_⟩
  congr 1
  omega

theorem run_slice_zero [Sites] (hU : U.Ok P) {t el : TypeId} (hk : (U t).k = .slice el) (hr : (U el).real = true) (hρ : Ops.Ok c w ρ e) {lo : Option Operand} {y z : Operand} {k k' : IntKind}
    (h1 : loOf (lo.map ρ) = some 0) (h2 : ρ y = some (.int k 0)) (h3 : ρ z = some (.int k' 0)) (A : Option Addr) (n cap : Nat) :
    (Instr.sliceAt t (.slice A n cap) (lo.map e) (some (e y)) (some (e z))).run P w = .ok (.slice A 0 0) w := by
  have hu := (hU t (by simp [hk])).1
  simp only [TD.kindOk, hk] at hu
  obtain ⟨_, hinfo, _⟩ := real_ok hU hr
  have hy := hρ _ _ h2
  have hz := hρ _ _ h3
  simp only [VR] at hy hz
  have hlo : lo = none ∨ ∃ k, lo.map e = some (.int k 0) := by
    cases lo with
    | none => exact .inl rfl
    | some y =>
      right
      simp only [Option.map_some] at h1 ⊢
      unfold loOf at h1
      split at h1
      · rename_i hh; cases hh
      · rename_i k q hh
        simp only [Option.some.injEq] at h1 hh
        have := hρ _ _ hh
        simp only [VR] at this
        rw [this.1, h1]
        exact ⟨k, rfl⟩
      · cases h1
  rw [hy.1, hz.1]
  rcases hlo with rfl | ⟨k, hl⟩
  · simp [Instr.sliceAt, Instr.slice, run_underlying hu, Instr.sliceBounds, Instr.sliceBound, asIntOf, run_sizeOf_of hinfo]
  · rw [hl]
    simp [Instr.sliceAt, Instr.slice, run_underlying hu, Instr.sliceBounds, Instr.sliceBound, asIntOf, run_sizeOf_of hinfo]

theorem map_some_op {lo : Option Operand} {k : IntKind} {z : Int} (h : lo.map ρ = some (some (.int k z))) : ∃ y, lo = some y ∧ ρ y = some (.int k z) := by
  cases lo with
  | none => simp at h
  | some y => simp only [Option.map_some, Option.some.injEq] at h; exact ⟨y, rfl, h⟩

theorem vSlice_ok [Sites] (hU : U.Ok P) {o : Oper} {t : TypeId} {x : Operand} {lo hi mx : Option Operand} (ho : o.op = .slice t x lo hi mx) {v : AV}
    (h : vSlice U (obOf lk (ρ x)) (U t) (ρ x) (lo.map ρ) (hi.map ρ) (mx.map ρ) = some (v, true)) (hρ : Ops.Ok c w ρ e) (hk : Obs.Ok c w lk) : Reads P c w (execOp e o) v := by
  have hzero : ∀ {el : TypeId} {k k' : IntKind}, (U t).k = .slice el → (U el).real = true → (mx.map ρ = some (some (.int k 0))) → (hi.map ρ = some (some (.int k' 0))) → loOf (lo.map ρ) = some 0 →
      (∃ A n cap, e x = .slice A n cap) → Reads P c w (execOp e o) .nils := by
    intro el k k' hkk hr hm hh hl ⟨A, n, cap, ex⟩
    obtain ⟨y, rfl, hy⟩ := map_some_op hm
    obtain ⟨z, rfl, hz⟩ := map_some_op hh
    have := run_slice_zero (P := P) hU hkk hr hρ hl hz hy A n cap
    exact ⟨.slice A 0 0, by simp [execOp, ho, ex, this], by simp only [VR]; exact ⟨A, rfl⟩⟩
  unfold vSlice at h
  split at h
  · rename_i hkk
    have hu := (hU t (by simp [hkk])).1
    simp only [TD.kindOk, hkk] at hu
    split at h
    · rename_i l hx
      have hx' := hρ _ _ hx
      simp only [VR] at hx'
      split at h
      · rename_i a b h1 h2 h3
        simp only [Option.some.injEq, Prod.mk.injEq] at h
        obtain ⟨rfl, hq⟩ := h
        have hq := okB_iff.1 hq
        have hm : mx = none := by cases mx with | none => rfl | some y => simp at h3
        subst hm
        have hsz : (⟨l.toArray⟩ : ByteArray).size = l.length := by simp [ByteArray.size]
        have hbd := run_bounds (P := P) (w := w) hρ h1 h2 hq (Nat.le_refl _) false
        refine ⟨.string ⟨(partL (lo.map ρ) (hi.map ρ) l a b).toArray⟩, ?_, ?_⟩
        · have hext : (⟨l.toArray⟩ : ByteArray).extract a.toNat b.toNat = ⟨(partL (lo.map ρ) (hi.map ρ) l a b).toArray⟩ := by
            apply ByteArray.ext
            rw [partL_eq h1 h2]
            rw [List.drop_take]
            simp [List.extract_eq_drop_take']
            try omega
          simp only [execOp, ho, hx'.1, Option.map_none, Instr.sliceAt, Instr.slice, run_underlying hu, Sem.run_bind, Result.andThen_ok, hsz, hbd, Option.isSome_none, Bool.false_eq_true, if_false, Sem.run_pure, hext]
        · simp only [VR]
          refine ⟨trivial, ?_⟩
          rw [partL_eq h1 h2]
          simp
          omega
      · cases h
    · cases h
  · rename_i el hkk
    split at h
    · rename_i hr
      split at h
      · rename_i hmx
        have hm : mx = none := by cases mx with | none => rfl | some y => simp at hmx
        subst hm
        split at h
        · rename_i t' l hx
          have hx' := hρ _ _ hx
          simp only [VR] at hx'
          split at h
          · rename_i a b h1 h2 h3
            simp only [Option.some.injEq, Prod.mk.injEq] at h
            obtain ⟨rfl, hq⟩ := h
            have hq := okB_iff.1 hq
            have hb := Nat.eq_of_beq_eq_true h3
            have hx2 := hx'
            obtain ⟨A, cap, ex, hn, _⟩ := hx2
            rw [ex] at hx'
            refine ⟨_, ?_, list_part hx' h1 h2 hq⟩
            rw [hb]
            simp only [execOp, ho, ex, Option.map_none, run_slice_of (P := P) hU hkk hr hρ h1 h2 hq hn, Sem.run_bind, Result.andThen_ok, Sem.run_pure]
          · cases h
        · rename_i hx
          have hx' := hρ _ _ hx
          simp only [VR] at hx'
          obtain ⟨A, ex⟩ := hx'
          split at h
          · rename_i a b h1 h2
            simp only [Option.some.injEq, Prod.mk.injEq] at h
            obtain ⟨rfl, hq⟩ := h
            have hq := okB_iff.1 hq
            have e1 : a.toNat = 0 := by omega
            have e2 : b.toNat = 0 := by omega
            refine ⟨.slice A 0 0, ?_, by simp only [VR]; exact ⟨A, rfl⟩⟩
            have := run_slice_of (P := P) (A := A) (cap := 0) hU hkk hr hρ h1 h2 hq (Nat.le_refl _)
            rw [e1, e2] at this
            simp only [execOp, ho, ex, Option.map_none, this, Sem.run_bind, Result.andThen_ok, Sem.run_pure]
            simp
          · cases h
        · rename_i id hx
          have hx' := hρ _ _ hx
          simp only [VR] at hx'
          split at h
          · rename_i e' t' l hl
            rw [hx] at hl
            have hl : lk id = _ := hl
            split at h
            · rename_i a b h1 h2 h3
              simp only [Option.some.injEq, Prod.mk.injEq] at h
              obtain ⟨rfl, hq⟩ := h
              have hq := okB_iff.1 hq
              have hb := Nat.eq_of_beq_eq_true h3
              obtain ⟨v, us, g1, g2, g3⟩ := hk _ _ hl
              obtain ⟨A, cap, ex, hn, hm, _⟩ := g2.cells (by have h9 := hx'.2; rw [hx'.1] at g1; simp only [Option.some.injEq] at g1; rw [← g1]; exact h9)
              rw [hx'.1] at g1
              simp only [Option.some.injEq] at g1
              rw [ex] at g1
              refine ⟨_, ?_, row_part (by rw [hx'.1, g1]) (by omega) hq⟩
              rw [hb]
              simp only [execOp, ho, g1, Option.map_none, run_slice_of (P := P) hU hkk hr hρ h1 h2 hq hn, Sem.run_bind, Result.andThen_ok, Sem.run_pure]
            · cases h
          · rename_i t' l hl
            rw [hx] at hl
            have hl : lk id = _ := hl
            split at h
            · rename_i a b h1 h2 h3
              simp only [Option.some.injEq, Prod.mk.injEq] at h
              obtain ⟨rfl, hq⟩ := h
              have hq := okB_iff.1 hq
              have hb := Nat.eq_of_beq_eq_true h3
              obtain ⟨v, g1, g2⟩ := hk _ _ hl
              rw [hx'.1] at g1
              simp only [Option.some.injEq] at g1
              have hx2 := g2
              obtain ⟨A, cap, ex, hn, _⟩ := hx2
              rw [ex] at g2 g1
              refine ⟨_, ?_, list_part g2 h1 h2 hq⟩
              rw [hb]
              simp only [execOp, ho, g1, Option.map_none, run_slice_of (P := P) hU hkk hr hρ h1 h2 hq hn, Sem.run_bind, Result.andThen_ok, Sem.run_pure]
            · cases h
          · cases h
        · cases h
      · rename_i k hm
        split at h
        · rename_i k' hl hh
          have hz := @hzero el k k' hkk hr hm hh hl
          split at h
          · rename_i t' l hx
            have hx' := hρ _ _ hx
            simp only [VR] at hx'
            obtain ⟨A, cap, ex, _⟩ := hx'
            rw [(ok_some h).1]
            exact hz ⟨_, _, _, ex⟩
          · rename_i hx
            have hx' := hρ _ _ hx
            simp only [VR] at hx'
            obtain ⟨A, ex⟩ := hx'
            rw [(ok_some h).1]
            exact hz ⟨_, _, _, ex⟩
          · rename_i id hx
            have hx' := hρ _ _ hx
            simp only [VR] at hx'
            split at h
            · rename_i e' t' l hl
              rw [hx] at hl
              have hl : lk id = _ := hl
              obtain ⟨v, us, g1, g2, g3⟩ := hk _ _ hl
              obtain ⟨A, cap, ex, _⟩ := g2.cells (by have h9 := hx'.2; rw [hx'.1] at g1; simp only [Option.some.injEq] at g1; rw [← g1]; exact h9)
              rw [hx'.1] at g1
              simp only [Option.some.injEq] at g1
              rw [(ok_some h).1]
              exact hz ⟨_, _, _, g1.trans ex⟩
            · rename_i t' l hl
              rw [hx] at hl
              have hl : lk id = _ := hl
              obtain ⟨v, g1, g2⟩ := hk _ _ hl
              rw [hx'.1] at g1
              simp only [Option.some.injEq] at g1
              obtain ⟨A, cap, ex, hn, _⟩ := g2
              rw [(ok_some h).1]
              exact hz ⟨_, _, _, g1.trans ex⟩
            · cases h
          · rename_i hx
            have hx' := hρ _ _ hx
            simp only [VR] at hx'
            obtain ⟨A, n0, cap, _, _, _, ex⟩ := hx'
            rw [(ok_some h).1]
            exact hz ⟨_, _, _, ex⟩
          · cases h
        · cases h
      · cases h
    · cases h
  · rename_i n el hkk
    have hu := (hU t (by simp [hkk])).1
    simp only [TD.kindOk, hkk] at hu
    split at h
    · rename_i id n' a b hr hx h1 h2 h3
      have hm : mx = none := by cases mx with | none => rfl | some y => simp at h3
      subst hm
      have hx' := hρ _ _ hx
      simp only [VR] at hx'
      obtain ⟨bb, g1, g3, g2⟩ := hx'
      split at h
      · rename_i e' t' l hl
        split at h
        · rename_i hb
          simp only [Bool.and_eq_true] at hb
          simp only [Option.some.injEq, Prod.mk.injEq] at h
          obtain ⟨rfl, hq⟩ := h
          have hq := okB_iff.1 hq
          have hb1 := Nat.eq_of_beq_eq_true hb.1
          have hb2 := Nat.eq_of_beq_eq_true hb.2
          subst hb2
          have hbd := run_bounds (P := P) (w := w) hρ h1 h2 hq (Nat.le_refl _) false
          obtain ⟨_, hinfo, _⟩ := real_ok hU hr
          refine ⟨_, ?_, row_part g1 g3 hq⟩
          rw [hb1]
          simp only [execOp, ho, g2, Option.map_none, Instr.sliceAt, run_underlying hu, Sem.run_bind, Result.andThen_ok, Instr.sureAddr, hbd, run_sizeOf_of hinfo, Sem.run_pure]
          congr 3
          split <;> rfl
        · cases h
      · cases h
    · cases h
  · cases h
end
end Go.Hay
