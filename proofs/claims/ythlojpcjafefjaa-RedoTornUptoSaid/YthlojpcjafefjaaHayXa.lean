/- The front of a row that is a row of its own: no step of the program, a turn of names. -/
import Derived.Test.YthlojpcjafefjaaHayX
set_option linter.unusedVariables false
set_option linter.unusedSimpArgs false
namespace Go.Hay
open Go.RowKit

/-- Where a temporary holds the front of a row of ours, the row's rest is given up. -/
def settle (s : St) (t : Tmp) : St :=
  match look s.env t with
  | some (.view id _ 0 n) => match look s.obs id with
    | some (.row e T l) => match isFresh s.obs s.nx with
      | true => ⟨put s.env t (.own s.nx), put (put s.obs id .dead) s.nx (.row e T (l.take n)), s.nx + 1⟩
      | false => s
    | _ => s
  | _ => s
def settleAll : List Tmp → St → St
  | [], s => s
  | t :: ts, s => settleAll ts (settle s t)

section
variable {P : Program} {B : Bs} {C : Ctx} {fr : Nat → Option Value} {c : Cf} {w : World} {a : Act}

theorem front_row {e : TypeId} {sz n m cap : Nat} {A : Option Addr} {us : List Value} (h : RowAt w e sz (.slice A m cap) m us) (hn : n ≤ m) : RowAt w e sz (.slice A n cap) n (us.take (n * sz)) := by
  obtain ⟨h1, h2⟩ := h
  refine ⟨by rw [List.length_take, h1]; exact Nat.min_eq_left (Nat.mul_le_mul_right _ hn), ?_⟩
  rcases h2 with ⟨rfl, A', h2⟩ | ⟨b, cap', cur, h2, h3, h4, h5, h6, h7, h8⟩ | ⟨b, es, q, h2, _⟩
  rotate_left 2
  · cases h2
  · simp only [Value.slice.injEq] at h2
    obtain ⟨_, _, rfl⟩ := h2
    left
    have : n = 0 := by omega
    subst this
    exact ⟨rfl, _, rfl⟩
  · simp only [Value.slice.injEq] at h2
    obtain ⟨rfl, _, rfl⟩ := h2
    right
    left
    refine ⟨b, cap, cur, rfl, h3, by omega, h5, h6, h7, ?_⟩
    rw [← h8, List.take_take, Nat.min_eq_left (Nat.mul_le_mul_right _ hn)]

theorem settle_ok [Sites] {s : St} (hs : Sim B C fr c s w a) (t : Tmp) : ∃ c', Sim B C fr c' (settle s t) w a ∧ Ext c w c' w := by
  unfold settle
  split
  · rename_i id sz n ht
    split
    · rename_i e T l hl
      split
      · rename_i hf
        have hv := hs.tmps.env t _ ht
        simp only [VR] at hv
        obtain ⟨A, n0, cap, hnm, hle, hmax, hu⟩ := hv
        have hR := hs.rel
        obtain ⟨v0, us, g1, g2, g3⟩ := hR.ob _ _ hl
        rw [hnm] at g1
        simp only [Option.some.injEq] at g1
        subst g1
        have hn0 : n0 = l.length := by
          rcases g2.2 with ⟨h1, A', h2⟩ | ⟨b, cap', cur, h2, _⟩ | ⟨b, es, q, h2, _⟩
          rotate_left 2
          · cases h2
          · simp only [Value.slice.injEq] at h2
            omega
          · simp only [Value.slice.injEq] at h2
            omega
        subst hn0
        have hn : n ≤ l.length := by omega
        have hA : (if cap = 0 then A else A.map (·.add (0 * sz))) = A := by
          split
          · rfl
          · rcases g2.2 with ⟨_, A', h2⟩ | ⟨b, cap', cur, h2, _⟩ | ⟨b, es, q, h2, _⟩
            rotate_left 2
            · cases h2
            · simp only [Value.slice.injEq] at h2
              omega
            · simp only [Value.slice.injEq] at h2
              rw [h2.1]
              simp [Addr.add]
        rw [hA, Nat.sub_zero] at hu
        -- the old name falls
        obtain ⟨hR1, hE1⟩ := hR.upd (c' := c) (w' := w) id .dead (fun _ => False) (fun _ _ h => h) (fun _ _ => rfl) (fun _ h => h) (fun _ h => .inl h) (fun _ _ _ => rfl) (fun _ h => h.elim) (fun _ => trivial) (fun _ h => h.elim) rfl rfl rfl (Nat.le_refl _)
        have hne : id ≠ s.nx := fun e => by subst e; rw [isFresh_none hf] at hl; cases hl
        have hfr : look (put s.obs id .dead) s.nx = none := by rw [look_put, if_neg hne]; exact isFresh_none hf
        have hnone := hR1.dom s.nx hfr
        have hWfree : ∀ b, blockOf (.slice A l.length cap) = some b → Free B c (put s.obs id .dead) s.nx b := fun b hb' => by
          have hf := hR.free hl ((own_row hnm).2 hb')
          refine ⟨fun j oj hj hlj ho => ?_, hf.2⟩
          rw [look_put] at hlj
          split at hlj
          · simp only [Option.some.injEq] at hlj; subst hlj; exact ho
          · rename_i hji; exact hf.1 j oj (fun e => hji e.symm) hlj ho
        have hblk : ∀ b, blockOf (.slice A n cap) = some b → blockOf (.slice A l.length cap) = some b := fun b hb => by
          cases A with
          | none => simp [blockOf] at hb
          | some ad => simpa [blockOf] using hb
        obtain ⟨hR2, hE2⟩ := hR1.upd (c' := ⟨fun i => if i = s.nx then some (.slice A n cap) else c.nm i, c.I⟩) (w' := w) s.nx (.row e T (l.take n)) (fun b => blockOf (.slice A l.length cap) = some b)
          (fun i u hv => by
            by_cases e : i = s.nx
            · subst e; rw [hnone] at hv; cases hv
            · simp [e, hv])
          (fun i hi => by simp [hi]) (fun _ h => h) (fun b hb => .inl hb) (fun b hb' hw => rfl) hWfree
          (fun hE => ⟨.slice A n cap, us.take (n * T.size), by simp, by
            rw [List.length_take, Nat.min_eq_left hn]
            exact front_row g2 hn, Cat.lasts hE.lasts (Cat.take TR_len_fun n g3)⟩)
          (fun b hb' => by
            obtain ⟨v2, q1, q2⟩ := hb'
            simp at q1
            subst q1
            exact .inl (hblk b q2))
          rfl rfl rfl (Nat.le_refl _)
        refine ⟨_, ⟨hR2, ?_, ⟨hs.marks.all, hs.marks.nodup⟩, hs.base⟩, hE1.trans hE2⟩
        have hT := hs.tmps.ext (hE1.trans hE2)
        refine ⟨hT.size, fun k x hk => ?_, hT.frame⟩
        rw [look_put] at hk
        split at hk
        · rename_i e
          subst e
          simp only [Option.some.injEq] at hk
          subst hk
          rw [hu]
          simp only [VR]
          exact ⟨by simp, rfl⟩
        · exact hT.env k x hk
      · exact ⟨c, hs, Ext.refl c w⟩
    · exact ⟨c, hs, Ext.refl c w⟩
  · exact ⟨c, hs, Ext.refl c w⟩

theorem settleAll_ok [Sites] : ∀ (ts : List Tmp) {c : Cf} {s : St}, Sim B C fr c s w a → ∃ c', Sim B C fr c' (settleAll ts s) w a ∧ Ext c w c' w
  | [], c, s, hs => ⟨c, hs, Ext.refl c w⟩
  | t :: ts, c, s, hs => by
    obtain ⟨c1, h1, h2⟩ := settle_ok hs t
    obtain ⟨c2, h3, h4⟩ := settleAll_ok ts h1
    exact ⟨c2, h3, h2.trans h4⟩
end
end Go.Hay
