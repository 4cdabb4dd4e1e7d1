/- The evaluator of reading operations is right, first part. -/
import Derived.Test.YthlojpcjafefjaaHayC
import Derived.Laws.BytesString
import Derived.Laws.Strings
set_option linter.unusedVariables false
set_option linter.unusedSimpArgs false
namespace Go.Hay
open Go.RowKit

/-- Objects stand for what lies in the world. -/
def Obs.Ok [Sites] (c : Cf) (w : World) (lk : Lk) : Prop := ∀ id o, lk id = some o → ObR c w id o
/-- Operands stand for their values. -/
def Ops.Ok (c : Cf) (w : World) (ρ : Operand → Option AV) (e : Operand → Value) : Prop := ∀ o x, ρ o = some x → VR c w x (e o)
/-- A reading operation: its run. -/
def Reads (P : Program) (c : Cf) (w : World) (s : Sem Next) (v : AV) : Prop := ∃ u, s.run P w = .ok (.value u) w ∧ VR c w v u

theorem wrap_fits (k : IntKind) (n : Int) : fits k (k.wrap n) = true := by
  cases k <;> simp [fits, IntKind.wrap, IntKind.bits, IntKind.signed] <;> omega

theorem ikEq_eq {a b : IntKind} (h : ikEq a b = true) : a = b := by
  cases a <;> cases b <;> first | rfl | (exact absurd h (by decide))

section
variable {P : Program} {U : TEnv} {c : Cf} {w : World} {lk : Lk} {ρ : Operand → Option AV} {e : Operand → Value}

theorem ok_some {v : AV} {v' : AV} {b : Bool} (h : ok v = some (v', b)) : v' = v ∧ b = true := by
  simp only [ok, Option.some.injEq, Prod.mk.injEq] at h
  exact ⟨h.1.symm, h.2.symm⟩

theorem vMove_some [Sites] {x : Option AV} {v : AV} {b : Bool} (h : vMove x = some (v, b)) : x = some v := by
  cases x with
  | none => simp [vMove] at h
  | some x => simp only [vMove] at h; rw [(ok_some h).1]

theorem vPick_ok [Sites] {ca aa ba : Option AV} {v : AV} {vc va vb : Value} {q : Bool} (h : vPick ca aa ba = some (v, q))
    (h1 : ∀ x, ca = some x → VR c w x vc) (h2 : ∀ x, aa = some x → VR c w x va) (h3 : ∀ x, ba = some x → VR c w x vb) :
    ∃ t, vc = .bool t ∧ VR c w v (if t then va else vb) := by
  unfold vPick at h
  split at h
  · rename_i t
    have hc := h1 _ rfl
    simp only [VR] at hc
    refine ⟨t, hc, ?_⟩
    split at h
    · rename_i x y
      have ha := h2 _ rfl
      have hb := h3 _ rfl
      simp only [VR] at ha hb
      rw [(ok_some h).1, ha, hb]
      cases t <;> simp [VR]
    · split at h
      · exact h2 _ (vMove_some h)
      · exact h3 _ (vMove_some h)
  · cases h

theorem eqGuard_int {op : BinOp} {t : TypeId} {x y : Operand} {k k' : IntKind} {m n : Int} : (eqGuard op t x y (.int k m) (.int k' n)).run P w = .ok () w := by
  cases op <;> rfl
theorem eqGuard_string {op : BinOp} {t : TypeId} {x y : Operand} {m n : ByteArray} : (eqGuard op t x y (.string m) (.string n)).run P w = .ok () w := by
  cases op <;> rfl
theorem binOp_string {op : BinOp} {t : TypeId} {m n : ByteArray} : binOp op t (.string m) (.string n) = Op.stringOp op m n := by
  cases op <;> rfl

theorem vbits_ok [Sites] {op : BinOp} {k : IntKind} {a b r : Int} (h : vbits op k a b = some r) : Op.intBits op k a b = .pure (.int k r) ∧ fits k r = true := by
  cases op <;> simp only [vbits, Option.some.injEq, reduceCtorEq] at h <;> subst h <;> exact ⟨rfl, wrap_fits _ _⟩

theorem fdiv_fits {k : IntKind} {a : Int} (n : Nat) (h : fits k a = true) : fits k (a.fdiv (2 ^ n)) = true := by
  have hp : (0 : Int) < 2 ^ n := Int.pow_pos (by decide)
  rw [Int.fdiv_eq_ediv_of_nonneg _ (Int.le_of_lt hp)]
  have h1 : 0 ≤ a → 0 ≤ a / 2 ^ n ∧ a / 2 ^ n ≤ a := fun ha => ⟨Int.ediv_nonneg ha (Int.le_of_lt hp), Int.ediv_le_self _ ha⟩
  have h2 : a < 0 → a ≤ a / 2 ^ n ∧ a / 2 ^ n < 0 := fun ha => by
    refine ⟨?_, Int.ediv_neg_of_neg_of_pos ha hp⟩
    have hh := Int.ediv_mul_le a (Int.ne_of_gt hp)
    have hq := Int.ediv_neg_of_neg_of_pos ha hp
    have h3 := Int.lt_ediv_add_one_mul_self a hp
    rw [Int.le_ediv_iff_mul_le hp]
    have : a * 2 ^ n ≤ a * 1 := Int.mul_le_mul_of_nonpos_left (Int.le_of_lt ha) (by omega)
    omega
  generalize a / 2 ^ n = q at *
  cases k <;> simp [fits] at h ⊢ <;> (rcases Int.lt_or_le a 0 with ha | ha <;> first | (have := h2 ha; omega) | (have := h1 ha; omega))

theorem tmod_fits {k : IntKind} {a b : Int} (h : fits k a = true) : fits k (a.tmod b) = true := by
  have h1 : 0 ≤ a → 0 ≤ a.tmod b ∧ a.tmod b ≤ a := fun ha => by
    refine ⟨Int.tmod_nonneg _ ha, ?_⟩
    obtain ⟨n, rfl⟩ := Int.eq_ofNat_of_zero_le ha
    rcases Int.natAbs_eq b with e | e <;> rw [e]
    · rw [← Int.ofNat_tmod]; exact Int.ofNat_le.2 (Nat.mod_le _ _)
    · rw [Int.tmod_neg, ← Int.ofNat_tmod]; exact Int.ofNat_le.2 (Nat.mod_le _ _)
  have h2 : a < 0 → a ≤ a.tmod b ∧ a.tmod b ≤ 0 := fun ha => by
    obtain ⟨n, e⟩ := Int.eq_ofNat_of_zero_le (show 0 ≤ -a by omega)
    have ea : a = -(n : Int) := by omega
    rw [ea, Int.neg_tmod]
    rcases Int.natAbs_eq b with e | e <;> rw [e]
    · rw [← Int.ofNat_tmod]
      have := Nat.mod_le n b.natAbs
      omega
    · rw [Int.tmod_neg, ← Int.ofNat_tmod]
      have := Nat.mod_le n b.natAbs
      omega
  generalize a.tmod b = q at *
  cases k <;> simp [fits] at h ⊢ <;> (rcases Int.lt_or_le a 0 with ha | ha <;> first | (have := h2 ha; omega) | (have := h1 ha; omega))

theorem vInt_ok [Sites] {op : BinOp} {t : TypeId} {k k' : IntKind} {a b : Int} {v : AV} (h : vInt op k a k' b = some (v, true)) (hf : fits k a = true) :
    ∃ u, (binOp op t (.int k a) (.int k' b)).run P w = .ok u w ∧ VR c w v u := by
  unfold vInt at h
  split at h
  · simp only [Option.some.injEq, Prod.mk.injEq, decide_eq_true_eq] at h
    obtain ⟨rfl, h0⟩ := h
    have : ¬ b < 0 := by omega
    exact ⟨_, by simp [binOp, Op.shift, this, Sem.run]; rfl, by simp [VR, wrap_fits]⟩
  · simp only [Option.some.injEq, Prod.mk.injEq, decide_eq_true_eq] at h
    obtain ⟨rfl, h0⟩ := h
    have : ¬ b < 0 := by omega
    exact ⟨_, by simp [binOp, Op.shift, this, Sem.run]; rfl, by simp [VR, fdiv_fits _ hf]⟩
  · rename_i n1 n2
    cases hk : ikEq k k' with
    | false => simp [hk] at h
    | true =>
      have := ikEq_eq hk
      subst this
      simp only [hk, cond_true] at h
      split at h
      · rw [(ok_some h).1]; exact ⟨_, by simp [binOp, Op.intArith, Sem.run]; rfl, by simp [VR, wrap_fits]⟩
      · rw [(ok_some h).1]; exact ⟨_, by simp [binOp, Op.intArith, Sem.run]; rfl, by simp [VR, wrap_fits]⟩
      · rw [(ok_some h).1]; exact ⟨_, by simp [binOp, Op.intArith, Sem.run]; rfl, by simp [VR, wrap_fits]⟩
      · simp only [Option.some.injEq, Prod.mk.injEq, Bool.not_eq_true', decide_eq_false_iff_not] at h
        obtain ⟨rfl, h0⟩ := h
        exact ⟨_, by simp [binOp, Op.intDiv, h0, Sem.run]; rfl, by simp [VR, wrap_fits]⟩
      · simp only [Option.some.injEq, Prod.mk.injEq, Bool.not_eq_true', decide_eq_false_iff_not] at h
        obtain ⟨rfl, h0⟩ := h
        exact ⟨_, by simp [binOp, Op.intDiv, h0, Sem.run]; rfl, by simp [VR, tmod_fits hf]⟩
      · rw [(ok_some h).1]; refine ⟨.bool (a == b), by simp [binOp, Op.intCmp, Sem.run], ?_⟩; simp only [VR]; by_cases e : a = b <;> simp [e]
      · rw [(ok_some h).1]; refine ⟨.bool (a != b), by simp [binOp, Op.intCmp, Sem.run], ?_⟩; simp only [VR]; by_cases e : a = b <;> simp [e]
      · rw [(ok_some h).1]; exact ⟨_, by simp [binOp, Op.intCmp, Sem.run]; rfl, by simp [VR]⟩
      · rw [(ok_some h).1]; exact ⟨_, by simp [binOp, Op.intCmp, Sem.run]; rfl, by simp [VR]⟩
      · rw [(ok_some h).1]; exact ⟨_, by simp [binOp, Op.intCmp, Sem.run]; rfl, by simp [VR]⟩
      · rw [(ok_some h).1]; exact ⟨_, by simp [binOp, Op.intCmp, Sem.run]; rfl, by simp [VR]⟩
      · cases hb : vbits op k a b with
        | none => simp [hb] at h
        | some r =>
          simp only [hb] at h
          obtain ⟨h1, h2⟩ := vbits_ok hb
          rw [(ok_some h).1]
          refine ⟨_, ?_, by simp only [VR]; exact ⟨rfl, h2⟩⟩
          have : binOp op t (.int k a) (.int k b) = Op.intBits op k a b := by
            cases op <;> simp [vbits] at hb <;> simp [binOp]
          rw [this, h1]; rfl

theorem bytes_list (a : List UInt8) : (⟨a.toArray⟩ : ByteArray).toList = a := by rw [ByteArray.toList_eq]

theorem vStr_ok [Sites] {op : BinOp} {a b : List UInt8} {v : AV} (h : vStr op a b = some (v, true)) (ha : a.length ≤ maxLen) (hb : b.length ≤ maxLen) :
    ∃ u, (Op.stringOp op ⟨a.toArray⟩ ⟨b.toArray⟩).run P w = .ok u w ∧ VR c w v u := by
  unfold vStr at h
  split at h
  · simp only [Option.some.injEq, Prod.mk.injEq, decide_eq_true_eq] at h
    obtain ⟨rfl, h0⟩ := h
    have h1 : ¬ (((⟨a.toArray⟩ : ByteArray).size + (⟨b.toArray⟩ : ByteArray).size : Nat) : Int) > IntKind.i64.max := by
      have e1 : (⟨a.toArray⟩ : ByteArray).size = a.length := by simp [ByteArray.size]
      have e2 : (⟨b.toArray⟩ : ByteArray).size = b.length := by simp [ByteArray.size]
      have e3 : IntKind.i64.max = 9223372036854775807 := by rfl
      rw [e1, e2, e3]; omega
    refine ⟨.string ⟨(a ++ b).toArray⟩, ?_, by simp only [VR]; refine ⟨trivial, by simp [maxLen]; omega⟩⟩
    simp only [Op.stringOp, h1, if_false]
    have : (⟨a.toArray⟩ : ByteArray) ++ ⟨b.toArray⟩ = ⟨(a ++ b).toArray⟩ := by
      apply ByteArray.ext
      simp
    rw [this]; rfl
  · rw [(ok_some h).1]; refine ⟨_, rfl, ?_⟩; simp only [VR, bytes_list]; by_cases e : a = b <;> simp [e]
  · rw [(ok_some h).1]; refine ⟨_, rfl, ?_⟩; simp only [VR, bytes_list]; by_cases e : a = b <;> simp [e]
  · rw [(ok_some h).1]; refine ⟨_, rfl, ?_⟩; simp only [VR, bytes_list]
  · rw [(ok_some h).1]; refine ⟨_, rfl, ?_⟩; simp only [VR, bytes_list]; by_cases e : a = b <;> simp [e]
  · rw [(ok_some h).1]; refine ⟨_, rfl, ?_⟩; simp only [VR, bytes_list]; by_cases e : a = b <;> simp [e]
  · rw [(ok_some h).1]; refine ⟨_, rfl, ?_⟩; simp only [VR, bytes_list]
  · cases h

theorem vUn_ok [Sites] {o : Oper} {op : UnOp} {t : TypeId} {x : Operand} (ho : o.op = .unOp op t x) {v : AV} {q : Bool} (h : vUn op (ρ x) = some (v, q)) (hρ : Ops.Ok c w ρ e) : Reads P c w (execOp e o) v := by
  unfold vUn at h
  split at h
  · rename_i k n hx
    have h1 := hρ _ _ hx
    simp only [VR] at h1
    rw [(ok_some h).1]
    exact ⟨_, by simp [execOp, ho, h1.1, Op.unary, Op.intArith, Sem.run]; rfl, by simp [VR, wrap_fits]⟩
  · rename_i k n hx
    have h1 := hρ _ _ hx
    simp only [VR] at h1
    cases hb : vbits .xor k (if k.signed then -1 else k.max) n with
    | none => simp [hb] at h
    | some r =>
      simp only [hb] at h
      obtain ⟨h2, h3⟩ := vbits_ok hb
      rw [(ok_some h).1]
      exact ⟨.int k r, by simp [execOp, ho, h1.1, Op.unary, h2, Sem.run], by simp [VR, h3]⟩
  · rename_i b hx
    have h1 := hρ _ _ hx
    simp only [VR] at h1
    rw [(ok_some h).1]
    exact ⟨_, by simp [execOp, ho, h1, Op.unary, Sem.run]; rfl, by simp [VR]⟩
  · cases h

/-- A slice value that can be read. -/
def SeqAt (c : Cf) (w : World) (t : Ty) (l : List t.den) (u : Value) : Prop :=
  ∃ A cap us, u = .slice A l.length cap ∧ l.length ≤ cap ∧ cap ≤ maxLen ∧ (A = none → l.length = 0) ∧ Cat (TR c.I w t) l us ∧
    ∀ ad, A = some ad → 0 < l.length → ad.spot = none ∧ CellsAt w ad.block ad.off us

theorem SliceAt.seq {t : Ty} {l : List t.den} {u : Value} (h : SliceAt c.I w (TR c.I w t) l u) : SeqAt c w t l u := by
  obtain ⟨A, cap, e, h1, h2, h3, h4⟩ := h
  cases A with
  | none =>
    have : l = [] := List.eq_nil_of_length_eq_zero (h3 rfl)
    subst this
    exact ⟨none, cap, [], e, h1, h2, h3, rfl, fun ad ha => by cases ha⟩
  | some ad =>
    rcases Nat.eq_zero_or_pos l.length with h0 | h0
    · have : l = [] := List.eq_nil_of_length_eq_zero h0
      subst this
      exact ⟨some ad, cap, [], e, h1, h2, h3, rfl, fun ad' ha hp => by simp at hp⟩
    · obtain ⟨hs, _, us, hc, hcell⟩ := h4 ad rfl h0
      exact ⟨some ad, cap, us, e, h1, h2, h3, hc, fun ad' ha _ => by cases ha; exact ⟨hs, hcell⟩⟩

theorem castL_some {t t' : Ty} {l : List t'.den} {m : List t.den} (h : castL t t' l = some m) : ∃ e : t' = t, m = e ▸ l := by
  unfold castL at h
  split at h
  · rename_i e
    simp only [Option.some.injEq] at h
    exact ⟨e, h.symm⟩
  · cases h

theorem RowAt.cells {e : TypeId} {sz n : Nat} {v : Value} {us : List Value} (h : RowAt w e sz v n us) (hsl : isSlice v = true) :
    ∃ A cap, v = .slice A n cap ∧ n ≤ cap ∧ cap ≤ maxLen ∧ (A = none → n = 0) ∧ ∀ ad, A = some ad → 0 < n → ad.spot = none ∧ CellsAt w ad.block ad.off us := by
  rcases h.2 with ⟨rfl, A, rfl⟩ | ⟨b, cap, cur, rfl, h0, h1, h2, hg, hs, ht⟩ | ⟨b, es, k, rfl, _⟩
  rotate_left 2
  · simp [isSlice] at hsl
  · exact ⟨A, 0, rfl, Nat.le_refl _, Nat.zero_le _, fun _ => rfl, fun ad _ hp => by omega⟩
  · refine ⟨some ⟨b, 0, none⟩, cap, rfl, h1, h2, (fun e => by cases e), fun ad ha _ => ?_⟩
    cases ha
    refine ⟨rfl, fun j u hj => ?_⟩
    rw [cell_of_row w b (0 + j) cur e (0, 0) hg, Nat.zero_add]
    rw [← ht, List.getElem?_take] at hj
    split at hj
    · simpa using hj
    · cases hj

theorem RowAt.seq [Sites] {e : TypeId} {t : Ty} {l : List t.den} {v : Value} {us : List Value} (h : RowAt w e t.size v l.length us) (hsl : isSlice v = true) (hc : Cat (TR c.I w t) l us) : SeqAt c w t l v := by
  obtain ⟨A, cap, h1, h2, h3, h4, h5⟩ := h.cells hsl
  exact ⟨A, cap, us, h1, h2, h3, h4, hc, h5⟩

theorem TR_len_fun {I : Nat → Prop} {t : Ty} : ∀ (x : t.den) (us : List Value), TR I w t x us → us.length = t.size := fun _ _ h => TR.len h

theorem SeqAt.part [Sites] {t : Ty} {l : List t.den} {A : Option Addr} {n cap lo m : Nat} (h : SeqAt c w t l (.slice A n cap)) (hm : lo + m ≤ l.length) :
    SeqAt c w t ((l.drop lo).take m) (.slice (if cap = lo then A else A.map (·.add (lo * t.size))) m (cap - lo)) := by
  obtain ⟨A', cap', us, e, h1, h2, h3, hc, hcell⟩ := h
  simp only [Value.slice.injEq] at e
  obtain ⟨rfl, rfl, rfl⟩ := e
  have hlen : ((l.drop lo).take m).length = m := by simp; omega
  refine ⟨_, _, (us.drop (lo * t.size)).take (m * t.size), by rw [hlen], by rw [hlen]; omega, by omega, ?_, Cat.take TR_len_fun m (Cat.drop TR_len_fun lo hc), ?_⟩
  · rw [hlen]
    intro hA
    have : A = none := by
      split at hA
      · exact hA
      · simpa using hA
    have := h3 this
    omega
  · rw [hlen]
    intro ad ha hpos
    rw [if_neg (by omega)] at ha
    cases A with
    | none => simp at ha
    | some ad0 =>
      simp only [Option.map_some, Option.some.injEq] at ha
      obtain ⟨hsp, hcl⟩ := hcell ad0 rfl (by omega)
      obtain ⟨b, o, sp⟩ := ad0
      simp only at hsp hcl
      subst hsp
      rw [addr_add] at ha
      subst ha
      exact ⟨rfl, (hcl.drop (n := lo * t.size)).take⟩

theorem view_ok [Sites] {id sz lo n : Nat} {u : Value} (hv : VR c w (.view id sz lo n) u) {t : Ty} {l : List t.den} (hs : sz = t.size) (hrow : ∃ v, c.nm id = some v ∧ SeqAt c w t l v) :
    SeqAt c w t ((l.drop lo).take n) u := by
  simp only [VR] at hv
  obtain ⟨A, n0, cap, h1, h2, _, rfl⟩ := hv
  obtain ⟨v, h3, h4⟩ := hrow
  rw [h1] at h3
  simp only [Option.some.injEq] at h3
  subst h3
  subst hs
  refine h4.part ?_
  obtain ⟨_, _, _, e, _⟩ := h4
  simp only [Value.slice.injEq] at e
  omega

theorem row_seq [Sites] (hk : Obs.Ok c w lk) {id : Nat} {u : Value} (hnm : c.nm id = some u) (hsl : isSlice u = true) : (∀ e t l, lk id = some (.row e t l) → ∃ v, c.nm id = some v ∧ SeqAt c w t l v) ∧ (∀ t l, lk id = some (.frow t l) → ∃ v, c.nm id = some v ∧ SeqAt c w t l v) := by
  refine ⟨fun e t l h => ?_, fun t l h => ?_⟩
  · obtain ⟨v, us, h1, h2, h3⟩ := hk _ _ h
    rw [hnm] at h1
    simp only [Option.some.injEq] at h1
    subst h1
    exact ⟨_, hnm, h2.seq hsl h3⟩
  · obtain ⟨v, h1, h2⟩ := hk _ _ h
    exact ⟨v, h1, h2.seq⟩

theorem listOf_ok [Sites] (hk : Obs.Ok c w lk) {t : Ty} {x : AV} {l : List t.den} (h : listOf lk t x = some l) {u : Value} (hv : VR c w x u) : SeqAt c w t l u := by
  unfold listOf at h
  split at h
  · obtain ⟨rfl, rfl⟩ := castL_some h
    simp only [VR] at hv
    exact hv.seq
  · simp only [Option.some.injEq] at h
    subst h
    simp only [VR] at hv
    obtain ⟨A, rfl⟩ := hv
    exact ⟨A, 0, [], rfl, Nat.le_refl _, Nat.zero_le _, fun _ => rfl, rfl, fun _ _ hp => by simp at hp⟩
  · rename_i id
    simp only [VR] at hv
    split at h
    · rename_i e t' l' hl
      obtain ⟨rfl, rfl⟩ := castL_some h
      obtain ⟨v, h1, h2⟩ := (row_seq hk hv.1 hv.2).1 _ _ _ hl
      rw [hv.1] at h1; simp only [Option.some.injEq] at h1; subst h1
      exact h2
    · rename_i t' l' hl
      obtain ⟨rfl, rfl⟩ := castL_some h
      obtain ⟨v, h1, h2⟩ := (row_seq hk hv.1 hv.2).2 _ _ hl
      rw [hv.1] at h1; simp only [Option.some.injEq] at h1; subst h1
      exact h2
    · cases h
  · rename_i id sz lo n
    split at h
    · rename_i e t' l' hl
      cases hb : Nat.beq sz t'.size with
      | false => simp [hb] at h
      | true =>
        simp only [hb, cond_true] at h
        obtain ⟨rfl, rfl⟩ := castL_some h
        obtain ⟨A, n0, cap, g1, _⟩ := (by simpa only [VR] using hv : ∃ A n0 cap, c.nm id = some (.slice A n0 cap) ∧ _)
        exact view_ok hv (Nat.eq_of_beq_eq_true hb) ((row_seq hk g1 rfl).1 _ _ _ hl)
    · rename_i t' l' hl
      cases hb : Nat.beq sz t'.size with
      | false => simp [hb] at h
      | true =>
        simp only [hb, cond_true] at h
        obtain ⟨rfl, rfl⟩ := castL_some h
        obtain ⟨A, n0, cap, g1, _⟩ := (by simpa only [VR] using hv : ∃ A n0 cap, c.nm id = some (.slice A n0 cap) ∧ _)
        exact view_ok hv (Nat.eq_of_beq_eq_true hb) ((row_seq hk g1 rfl).2 _ _ hl)
    · cases h
  · cases h

theorem byte_cells {I : Nat → Prop} : ∀ {l : List UInt8} {us : List Value}, Cat (TR I w .byte) l us → us = (l.map fun x => (x.toNat : Int)).map (Value.int .u8)
  | [], us, h => by simpa [Cat] using h
  | x :: l, us, ⟨a, b, e, h1, h2⟩ => by
    simp only [TR] at h1
    rw [e, h1, byte_cells h2]; rfl

theorem push_list (l : List UInt8) : ∀ (s : ByteArray), ((l.map fun x => (x.toNat : Int)).foldl (fun r n => r.push (UInt8.ofNat n.toNat)) s) = ⟨(s.data.toList ++ l).toArray⟩ := by
  induction l with
  | nil => intro s; simp
  | cons x l ih =>
    intro s
    simp only [List.map_cons, List.foldl_cons]
    rw [ih]
    apply ByteArray.ext
    simp [ByteArray.push]

theorem run_load_seq {t : Ty} {l : List t.den} {A : Option Addr} {n cap : Nat} {us : List Value} {ad : Addr} (hcell : ad.spot = none ∧ CellsAt w ad.block ad.off us) : (loadCells ad us.length).run P w = .ok us.toArray w := by
  refine run_loadCells_list (P := P) w ad us fun j v hj => ?_
  obtain ⟨b, o, sp⟩ := ad
  simp only at hcell
  obtain ⟨rfl, h⟩ := hcell
  rw [addr_add]
  exact h j v hj

theorem vConv_ok [Sites] (hU : U.Ok P) {o : Oper} {src dst : TypeId} {x : Operand} (ho : o.op = .convert src dst x) {v : AV} {q : Bool} (h : vConv U lk (U src) (U dst) (ρ x) = some (v, q)) (hρ : Ops.Ok c w ρ e) (hk : Obs.Ok c w lk) : Reads P c w (execOp e o) v := by
  unfold vConv at h
  split at h
  · rename_i k1 k k' n hs hd hx
    have h1 := hρ _ _ hx
    simp only [VR] at h1
    have u1 := (hU src (by simp [hs])).1
    have u2 := (hU dst (by simp [hd])).1
    simp only [TD.kindOk, hs] at u1
    simp only [TD.kindOk, hd] at u2
    rw [(ok_some h).1]
    exact ⟨.int k (k.wrap n), by simp [execOp, ho, h1.1, convert, run_underlying u1, run_underlying u2, Conv.intToInt], by simp [VR, wrap_fits]⟩
  · rename_i b hs hd hx
    have h1 := hρ _ _ hx
    have h1' := h1
    simp only [VR] at h1
    have u1 := (hU src (by simp [hs])).1
    have u2 := (hU dst (by simp [hd])).1
    simp only [TD.kindOk, hs] at u1
    simp only [TD.kindOk, hd] at u2
    rw [(ok_some h).1]
    exact ⟨e x, by simp [execOp, ho, h1.1, convert, run_underlying u1, run_underlying u2], h1'⟩
  · rename_i el x' hs hd hx
    split at h
    · rename_i he
      split at h
      · rename_i l hl
        have u1 := (hU src (by simp [hs])).1
        have u2 := (hU dst (by simp [hd])).1
        have u3 := (hU el (by simp [he])).1
        simp only [TD.kindOk, hs] at u1
        simp only [TD.kindOk, hd] at u2
        simp only [TD.kindOk, he] at u3
        rw [(ok_some h).1]
        obtain ⟨A, cap, us, ex, h1, h2, h3, hc, hcell⟩ := listOf_ok hk hl (hρ _ _ hx)
        refine ⟨.string ⟨l.toArray⟩, ?_, by simp only [VR]; exact ⟨trivial, by omega⟩⟩
        have hconv := run_convert_bytes_string (P := P) w src dst el A l.length cap u1 u3 u2
        have hrun : (Conv.bytesToString (.slice A l.length cap)).run P w = .ok (.string ⟨l.toArray⟩) w := by
          have hus := byte_cells hc
          cases A with
          | none =>
            have : l = [] := List.eq_nil_of_length_eq_zero (h3 rfl)
            subst this
            simp [Conv.bytesToString, Sem.run_pure]; rfl
          | some ad =>
            have hul : us.length = l.length := by rw [hus]; simp
            rcases Nat.eq_zero_or_pos l.length with h0 | h0
            · have : l = [] := List.eq_nil_of_length_eq_zero h0
              subst this
              have := run_bytesToString (P := P) w ad 0 cap [] (by simp [loadCells, loadCellsFrom, Sem.run])
              exact this
            · have hld := run_load_seq (P := P) (t := .byte) (l := l) (A := some ad) (n := 0) (cap := 0) (hcell ad rfl h0)
              rw [hul] at hld
              rw [run_bytesToString (P := P) w ad l.length cap (l.map fun x => (x.toNat : Int)) (by rw [hld, hus]), push_list]
              rfl
        simp only [execOp, ho, ex, Sem.run_bind, hconv, hrun]
        rfl
      · cases h
    · cases h
  · cases h
end
end Go.Hay
