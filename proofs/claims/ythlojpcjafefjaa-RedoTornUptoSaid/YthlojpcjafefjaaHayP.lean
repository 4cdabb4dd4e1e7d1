/- Statements whose order is open, second part: the law. -/
import Derived.Test.YthlojpcjafefjaaHayO
set_option linter.unusedVariables false
set_option linter.unusedSimpArgs false
namespace Go.Hay
open Go.RowKit
section
variable {P : Program} {B : Bs} {c : Cf} {w : World} {fr : Nat → Option Value} {a : Act} {C : Ctx}

theorem foldl_push {α β : Type} (g : Array β → α → β) : ∀ (l : List α) (acc : Array β) (i : Nat), i < acc.size + l.length → acc.size ≤ i → ∀ o, l[i - acc.size]? = some o →
    (l.foldl (fun acc o => acc.push (g acc o)) acc)[i]? = some (g ((l.foldl (fun acc o => acc.push (g acc o)) acc).extract 0 i) o)
  | [], acc, i, h1, h2, o, ho => by simp at ho
  | x :: l, acc, i, h1, h2, o, ho => by
    have hpre : ∀ (l : List α) (acc : Array β) (k : Nat), k ≤ acc.size → (l.foldl (fun acc o => acc.push (g acc o)) acc).extract 0 k = acc.extract 0 k ∧ acc.size ≤ (l.foldl (fun acc o => acc.push (g acc o)) acc).size ∧ (∀ q, q < acc.size → (l.foldl (fun acc o => acc.push (g acc o)) acc)[q]? = acc[q]?) := by
      intro l
      induction l with
      | nil => intro acc k hk; simp
      | cons y l ih =>
        intro acc k hk
        obtain ⟨h1, h2, h3⟩ := ih (acc.push (g acc y)) k (by simp; omega)
        simp only [List.foldl_cons]
        refine ⟨?_, by simp at h2; omega, fun q hq => ?_⟩
        · rw [h1]
          apply Array.ext
          · simp; omega
          · intro i hi1 hi2
            simp only [Array.size_extract, Nat.sub_zero] at hi1 hi2
            simp only [Array.getElem_extract, Nat.zero_add]
            rw [Array.getElem_push_lt (by omega)]
        · rw [h3 q (by simp; omega), Array.getElem?_push_lt hq]
          simp [hq]
    simp only [List.foldl_cons]
    by_cases hi : i = acc.size
    · subst hi
      simp only [Nat.sub_self, List.getElem?_cons_zero, Option.some.injEq] at ho
      subst ho
      obtain ⟨h3, _, h4⟩ := hpre l (acc.push (g acc x)) acc.size (by simp)
      rw [h3, h4 acc.size (by simp)]
      have : (acc.push (g acc x)).extract 0 acc.size = acc := by
        apply Array.ext
        · simp
        · intro i hi1 hi2
          simp [Array.getElem_push, hi2]
      rw [this]
      simp
    · refine foldl_push g l (acc.push (g acc x)) i (by simp at h1 ⊢; omega) (by simp; omega) o ?_
      simp only [Array.size_push]
      have : i - acc.size = (i - (acc.size + 1)) + 1 := by omega
      rw [this, List.getElem?_cons_succ] at ho
      exact ho

theorem testBit_fold (acc : Array Nat) (j : Nat) : ∀ (l : List Edge) (s : Nat), (l.foldl (fun s e => if Region.binds .any e then s ||| 2 ^ e.on ||| acc.getD e.on 0 else s) s).testBit j = true →
    s.testBit j = true ∨ ∃ e ∈ l, Region.binds .any e = true ∧ (e.on = j ∨ (acc.getD e.on 0).testBit j = true)
  | [], s, h => .inl h
  | e :: l, s, h => by
    simp only [List.foldl_cons] at h
    rcases testBit_fold acc j l _ h with h1 | ⟨e', he', hb, h1⟩
    · by_cases hb : Region.binds .any e = true
      · simp only [hb, if_true, Nat.testBit_or, Bool.or_eq_true] at h1
        rcases h1 with (h1 | h1) | h1
        · exact .inl h1
        · right
          refine ⟨e, by simp, hb, .inl ?_⟩
          rw [Nat.testBit_two_pow] at h1
          simpa using h1
        · exact .inr ⟨e, by simp, hb, .inr h1⟩
      · simp only [hb, if_false] at h1
        exact .inl h1
    · exact .inr ⟨e', List.mem_cons_of_mem _ he', hb, h1⟩

theorem before_size (ops : Array Oper) : (Region.before ops).size = ops.size := by
  unfold Region.before
  rw [← Array.foldl_toList]
  have : ∀ (l : List Oper) (acc : Array Nat), (l.foldl (fun acc o => acc.push (o.after.foldl (fun s e => if Region.binds .any e then s ||| 2 ^ e.on ||| acc.getD e.on 0 else s) 0)) acc).size = acc.size + l.length := by
    intro l
    induction l with
    | nil => intro acc; simp
    | cons x l ih => intro acc; simp only [List.foldl_cons]; rw [ih]; simp; omega
  rw [this]
  simp

theorem waits_spec [Sites] {ops : Array Oper} {i j : Nat} {o : Oper} (ho : ops[i]? = some o) (hedge : edgesOk ops i = true) (h : waits (Region.before ops) i j = true) :
    ∃ e ∈ o.after.toList, Region.binds .any e = true ∧ e.on < i ∧ (e.on = j ∨ waits (Region.before ops) e.on j = true) := by
  have hi : i < ops.size := (Array.getElem?_eq_some_iff.1 ho).1
  let g : Array Nat → Oper → Nat := fun acc o => o.after.foldl (fun s e => if Region.binds .any e then s ||| 2 ^ e.on ||| acc.getD e.on 0 else s) 0
  have hb : Region.before ops = ops.toList.foldl (fun acc o => acc.push (g acc o)) #[] := by
    unfold Region.before
    rw [← Array.foldl_toList]
  have h1 := foldl_push g ops.toList #[] i (by simpa using hi) (by simp) o (by simpa using ho)
  rw [← hb] at h1
  unfold waits at h
  have h2 : (Region.before ops).getD i 0 = g ((Region.before ops).extract 0 i) o := by
    rw [Array.getD_eq_getD_getElem?, h1]; rfl
  rw [h2] at h
  simp only [g] at h
  rw [← Array.foldl_toList] at h
  rcases testBit_fold _ j o.after.toList 0 h with h3 | ⟨e, he, hbd, h3⟩
  · simp at h3
  · simp only [edgesOk, ho] at hedge
    have hlt : e.on < i := by
      have := Array.all_eq_true'.1 hedge e (Array.mem_toList_iff.1 he)
      simp only [hbd, Bool.not_true, Bool.false_or, Nat.blt_eq] at this
      exact this
    refine ⟨e, he, hbd, hlt, h3.imp id fun h4 => ?_⟩
    unfold waits
    have : ((Region.before ops).extract 0 i).getD e.on 0 = (Region.before ops).getD e.on 0 := by
      have hsz := before_size ops
      rw [Array.getD_eq_getD_getElem?, Array.getD_eq_getD_getElem?, Array.getElem?_extract, if_pos (by omega), Nat.zero_add]
    rw [← this]
    exact h4

theorem waits_lt [Sites] {ops : Array Oper} (hd : drawOk ops (Region.before ops) = true) : ∀ (i j : Nat), waits (Region.before ops) i j = true → j < i := by
  intro i
  induction i using Nat.strongRecOn with
  | _ i ih =>
    intro j h
    cases ho : ops[i]? with
    | none =>
      have hi : ops.size ≤ i := by simpa using ho
      unfold waits at h
      have : (Region.before ops).getD i 0 = 0 := by
        have hsz := before_size ops
        rw [Array.getD_eq_getD_getElem?, Array.getElem?_eq_none (by omega)]; rfl
      rw [this] at h
      simp at h
    | some o =>
      have hi : i < ops.size := (Array.getElem?_eq_some_iff.1 ho).1
      have hall := allBelow_get hd hi
      simp only [Bool.and_eq_true] at hall
      obtain ⟨e, _, _, hlt, h1⟩ := waits_spec ho hall.1 h
      rcases h1 with rfl | h1
      · exact hlt
      · have := ih e.on hlt j h1
        omega

/-- What is logged ahead of an operation. -/
def mkLog (L : Nat → Lg) : Nat → List (Nat × Lg)
  | 0 => []
  | n + 1 => (n, L n) :: mkLog L n
theorem mkLog_congr {L L' : Nat → Lg} : ∀ {n : Nat}, (∀ k, k < n → L k = L' k) → mkLog L n = mkLog L' n
  | 0, _ => rfl
  | n + 1, h => by simp only [mkLog]; rw [h n (Nat.lt_succ_self n), mkLog_congr fun k hk => h k (by omega)]
theorem mkLog_mem {L : Nat → Lg} : ∀ {n : Nat} {p : Nat × Lg}, p ∈ mkLog L n ↔ p.1 < n ∧ p.2 = L p.1
  | 0, p => by simp [mkLog]
  | n + 1, p => by
    simp only [mkLog, List.mem_cons, mkLog_mem]
    constructor
    · rintro (rfl | ⟨h1, h2⟩)
      · exact ⟨Nat.lt_succ_self n, rfl⟩
      · exact ⟨by omega, h2⟩
    · rintro ⟨h1, h2⟩
      by_cases e : p.1 = n
      · left; rw [← e, ← h2]
      · exact .inr ⟨by omega, h2⟩
/-- May one operation be carried out ahead of another one that writes? -/
def Late (bs : Array Nat) (L : Nat → Lg) (k : Nat) : Prop := ∃ j, j < k ∧ (L j).isWr = true ∧ waits bs k j = false
theorem lateIn_iff {bs : Array Nat} {L : Nat → Lg} {k : Nat} : lateIn bs k (mkLog L k) = true ↔ Late bs L k := by
  unfold lateIn Late
  rw [List.any_eq_true]
  constructor
  · rintro ⟨p, h1, h2⟩
    obtain ⟨h3, h4⟩ := mkLog_mem.1 h1
    simp only [Bool.and_eq_true, Bool.not_eq_true'] at h2
    exact ⟨p.1, h3, by rw [← h4]; exact h2.1, h2.2⟩
  · rintro ⟨j, h1, h2, h3⟩
    exact ⟨(j, L j), mkLog_mem.2 ⟨h1, rfl⟩, by simp [h2, h3]⟩
theorem allWait_ok {bs : Array Nat} {L : Nat → Lg} {i k : Nat} (h : allWait bs i (mkLog L k) = true) {j : Nat} (hj : j < k) (hw : (L j).isWr = true) : waits bs i j = true := by
  unfold allWait at h
  have := List.all_eq_true.1 h (j, L j) (mkLog_mem.2 ⟨hj, rfl⟩)
  simpa [hw] using this

/-- What is known of the text's own run. -/
structure Run (C : Ctx) (ops : Array Oper) (S : Nat → St) (V : Nat → AV) (L : Nat → Lg) : Prop where
  step : ∀ i (o : Oper), ops[i]? = some o → Along C ops i o (S i) (S (i + 1)) (V i) (L i)
  log : ∀ i j, i < ops.size → j < i → waits (Region.before ops) i j = true ∨ (L j).free (L i) = true ∨ (isMk C.U ops i = true ∧ (L j).isWr = true)
  late : ∀ i k, i < ops.size → k < i → isMk C.U ops k = true → Late (Region.before ops) L k → (((L k).free (L i) = true ∨ isMk C.U ops i = true) ∧ looksAt ops i k = false) ∨ (waits (Region.before ops) i k = true ∧ ∀ j, j < k → (L j).isWr = true → waits (Region.before ops) i j = true)

theorem logOk_at {U : TEnv} {ops : Array Oper} {bs : Array Nat} {i : Nat} {lg : Lg} {L : Nat → Lg} : ∀ {n : Nat}, logOk U ops bs i lg (mkLog L n) = true → ∀ j, j < n →
    (waits bs i j = true ∨ (L j).free lg = true ∨ (isMk U ops i = true ∧ (L j).isWr = true)) ∧
    (isMk U ops j = true → Late bs L j → (((L j).free lg = true ∨ isMk U ops i = true) ∧ looksAt ops i j = false) ∨ (waits bs i j = true ∧ ∀ k, k < j → (L k).isWr = true → waits bs i k = true))
  | 0, _, j, hj => by omega
  | n + 1, h, j, hj => by
    simp only [mkLog, logOk, Bool.and_eq_true] at h
    by_cases e : j = n
    · subst e
      obtain ⟨⟨h1, h2⟩, _⟩ := h
      constructor
      · simp only [Bool.or_eq_true, Bool.and_eq_true] at h1
        rcases h1 with (h1 | h1) | h1
        · exact .inl h1
        · exact .inr (.inl h1)
        · exact .inr (.inr h1)
      · intro hm hl
        rw [hm, lateIn_iff.2 hl] at h2
        simp only [Bool.and_self, Bool.not_true, Bool.false_or, Bool.or_eq_true, Bool.and_eq_true, Bool.not_eq_true'] at h2
        rcases h2 with h2 | h2
        · exact .inl h2
        · exact .inr ⟨h2.1, fun k hk hw => allWait_ok h2.2 hk hw⟩
    · exact logOk_at h.2 j (by omega)

theorem evLog_run [Sites] {Ω : Type} {ops : Array Oper} {bs : Array Nat} {K : St → Option Ω} {out : Ω} : ∀ (m n : Nat) (L0 : Nat → Lg) (s : St), ops.size - n = m → n ≤ ops.size → evLog C ops bs (ops.toList.drop n) n (mkLog L0 n) s K = some out →
    ∃ (S : Nat → St) (V : Nat → AV) (L : Nat → Lg), (∀ k, k < n → L k = L0 k) ∧ S n = s ∧ K (S ops.size) = some out ∧ (∀ i (o : Oper), n ≤ i → ops[i]? = some o → Along C ops i o (S i) (S (i + 1)) (V i) (L i)) ∧
      (∀ i, n ≤ i → i < ops.size → logOk C.U ops bs i (L i) (mkLog L i) = true)
  | 0, n, L0, s, hm, hn, h => by
    have e1 : n = ops.size := by omega
    subst e1
    rw [List.drop_of_length_le (by simp)] at h
    simp only [evLog] at h
    refine ⟨fun _ => s, fun _ => .junk, L0, fun _ _ => rfl, rfl, h, fun i o hi ho => ?_, fun i hi hi' => by omega⟩
    have := (Array.getElem?_eq_some_iff.1 ho).1
    omega
  | m + 1, n, L0, s, hm, hn, h => by
    have hlt : n < ops.size := by omega
    rw [List.drop_eq_getElem_cons (by simpa using hlt)] at h
    simp only [evLog, Array.getElem_toList] at h
    obtain ⟨s1, v, lg, hk, hal⟩ := evGuard_along (i := n) h
    cases hlo : logOk C.U ops bs n lg (mkLog L0 n) with
    | false => simp [hlo] at hk
    | true =>
      simp only [hlo] at hk
      have hL : (n, lg) :: mkLog L0 n = mkLog (fun k => if k = n then lg else L0 k) (n + 1) := by
        simp only [mkLog, if_true]
        rw [mkLog_congr (L := L0) (L' := fun k => if k = n then lg else L0 k) fun k hk => by rw [if_neg (by omega)]]
      rw [hL] at hk
      obtain ⟨S, V, L, h0, h1, h2, h3, h4⟩ := evLog_run m (n + 1) _ s1 (by omega) (by omega) hk
      have hLn : L n = lg := by rw [h0 n (Nat.lt_succ_self n), if_pos rfl]
      have hLlt : ∀ k, k < n → L k = L0 k := fun k hk => by rw [h0 k (by omega), if_neg (by omega)]
      have hKn : K ((fun k => if k = n then s else S k) ops.size) = some out := by
        simp only [if_neg (show ¬ ops.size = n by omega)]; exact h2
      refine ⟨fun k => if k = n then s else S k, fun k => if k = n then v else V k, L, hLlt, by simp, hKn, fun i o hi ho => ?_, fun i hi hi' => ?_⟩
      · by_cases e : i = n
        · subst e
          rw [Array.getElem?_eq_getElem hlt] at ho
          simp only [Option.some.injEq] at ho
          subst ho
          simpa [h1, hLn] using hal
        · have e2 : ¬ i + 1 = n := by omega
          simpa [e, e2] using h3 i o (by omega) ho
      · by_cases e : i = n
        · subst e
          rw [hLn, mkLog_congr hLlt]
          exact hlo
        · exact h4 i (by omega) hi'
end
end Go.Hay
