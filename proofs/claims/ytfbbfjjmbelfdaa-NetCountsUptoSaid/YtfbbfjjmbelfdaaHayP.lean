/- Statements whose order is open, second part: the law. -/
import Derived.Test.YtfbbfjjmbelfdaaHayO
set_option linter.unusedVariables false
set_option linter.unusedSimpArgs false
namespace Go.Hay
open Go.RowKit
section
variable {P : Program} {B : Bs} {c : Cf} {w : World} {fr : Nat → Option Value} {a : Act} {C : Ctx}

theorem foldl_push {α β : Type} (g : Array β → α → β) : ∀ (l : List α) (acc : Array β) (i : Nat), i < acc.size + l.length → acc.size ≤ i → ∀ o, l[i - acc.size]? = some o →
    (l.foldl (fun acc o => acc.push (g acc o)) acc)[i]? = some (g ((l.foldl (fun acc o => acc.push (g acc o)) acc).extract 0 i) o)
  | [], acc, i, h1, h2, o, ho => by simp at ho
  | x :: l, acc, i, h1, h2, o, ho => by
    have hpre : ∀ (l : List α) (acc : Array β) (k : Nat), k ≤ acc.size → (l.foldl (fun acc o => acc.push (g acc o)) acc).extract 0 k = acc.extract 0 k ∧ acc.size ≤ (l.foldl (fun acc o => acc.push (g acc o)) acc).size ∧ (∀ q, q < acc.size → (l.foldl (fun acc o => acc.push (g acc o)) acc)[q]? = acc[q]?) := by
      intro l
      induction l with
      | nil => intro acc k hk; simp
      | cons y l ih =>
        intro acc k hk
        obtain ⟨h1, h2, h3⟩ := ih (acc.push (g acc y)) k (by simp; omega)
        simp only [List.foldl_cons]
        refine ⟨?_, by simp at h2; omega, fun q hq => ?_⟩
        · rw [h1]
          apply Array.ext
          · simp; omega
          · intro i hi1 hi2
            simp only [Array.size_extract, Nat.sub_zero] at hi1 hi2
            simp only [Array.getElem_extract, Nat.zero_add]
            rw [Array.getElem_push_lt (by omega)]
        · rw [h3 q (by simp; omega), Array.getElem?_push_lt hq]
          simp [hq]
    simp only [List.foldl_cons]
    by_cases hi : i = acc.size
    · subst hi
      simp only [Nat.sub_self, List.getElem?_cons_zero, Option.some.injEq] at ho
      subst ho
      obtain ⟨h3, _, h4⟩ := hpre l (acc.push (g acc x)) acc.size (by simp)
      rw [h3, h4 acc.size (by simp)]
      have : (acc.push (g acc x)).extract 0 acc.size = acc := by
        apply Array.ext
        · simp
        · intro i hi1 hi2
          simp [Array.getElem_push, hi2]
      rw [this]
      simp
    · refine foldl_push g l (acc.push (g acc x)) i (by simp at h1 ⊢; omega) (by simp; omega) o ?_
      simp only [Array.size_push]
      have : i - acc.size = (i - (acc.size + 1)) + 1 := by omega
      rw [this, List.getElem?_cons_succ] at ho
      exact ho

theorem testBit_fold (acc : Array Nat) (j : Nat) : ∀ (l : List Edge) (s : Nat), (l.foldl (fun s e => if Region.binds .any e then s ||| 2 ^ e.on ||| acc.getD e.on 0 else s) s).testBit j = true →
    s.testBit j = true ∨ ∃ e ∈ l, Region.binds .any e = true ∧ (e.on = j ∨ (acc.getD e.on 0).testBit j = true)
  | [], s, h => .inl h
  | e :: l, s, h => by
    simp only [List.foldl_cons] at h
    rcases testBit_fold acc j l _ h with h1 | ⟨e', he', hb, h1⟩
    · by_cases hb : Region.binds .any e = true
      · simp only [hb, if_true, Nat.testBit_or, Bool.or_eq_true] at h1
        rcases h1 with (h1 | h1) | h1
        · exact .inl h1
        · right
          refine ⟨e, by simp, hb, .inl ?_⟩
          rw [Nat.testBit_two_pow] at h1
          simpa using h1
        · exact .inr ⟨e, by simp, hb, .inr h1⟩
      · simp only [hb, if_false] at h1
        exact .inl h1
    · exact .inr ⟨e', List.mem_cons_of_mem _ he', hb, h1⟩

theorem before_size (ops : Array Oper) : (Region.before ops).size = ops.size := by
  unfold Region.before
  rw [← Array.foldl_toList]
  have : ∀ (l : List Oper) (acc : Array Nat), (l.foldl (fun acc o => acc.push (o.after.foldl (fun s e => if Region.binds .any e then s ||| 2 ^ e.on ||| acc.getD e.on 0 else s) 0)) acc).size = acc.size + l.length := by
    intro l
    induction l with
    | nil => intro acc; simp
    | cons x l ih => intro acc; simp only [List.foldl_cons]; rw [ih]; simp; omega
  rw [this]
  simp

theorem waits_spec [Sites] {ops : Array Oper} {i j : Nat} {o : Oper} (ho : ops[i]? = some o) (hedge : edgesOk ops i = true) (h : waits (Region.before ops) i j = true) :
    ∃ e ∈ o.after.toList, Region.binds .any e = true ∧ e.on < i ∧ (e.on = j ∨ waits (Region.before ops) e.on j = true) := by
  have hi : i < ops.size := (Array.getElem?_eq_some_iff.1 ho).1
  let g : Array Nat → Oper → Nat := fun acc o => o.after.foldl (fun s e => if Region.binds .any e then s ||| 2 ^ e.on ||| acc.getD e.on 0 else s) 0
  have hb : Region.before ops = ops.toList.foldl (fun acc o => acc.push (g acc o)) #[] := by
    unfold Region.before
    rw [← Array.foldl_toList]
  have h1 := foldl_push g ops.toList #[] i (by simpa using hi) (by simp) o (by simpa using ho)
  rw [← hb] at h1
  unfold waits at h
  have h2 : (Region.before ops).getD i 0 = g ((Region.before ops).extract 0 i) o := by
    rw [Array.getD_eq_getD_getElem?, h1]; rfl
  rw [h2] at h
  simp only [g] at h
  rw [← Array.foldl_toList] at h
  rcases testBit_fold _ j o.after.toList 0 h with h3 | ⟨e, he, hbd, h3⟩
  · simp at h3
  · simp only [edgesOk, ho] at hedge
    have hlt : e.on < i := by
      have := Array.all_eq_true'.1 hedge e (Array.mem_toList_iff.1 he)
      simp only [hbd, Bool.not_true, Bool.false_or, Nat.blt_eq] at this
      exact this
    refine ⟨e, he, hbd, hlt, h3.imp id fun h4 => ?_⟩
    unfold waits
    have : ((Region.before ops).extract 0 i).getD e.on 0 = (Region.before ops).getD e.on 0 := by
      have hsz := before_size ops
      rw [Array.getD_eq_getD_getElem?, Array.getD_eq_getD_getElem?, Array.getElem?_extract, if_pos (by omega), Nat.zero_add]
    rw [← this]
    exact h4

theorem waits_lt [Sites] {ops : Array Oper} (hd : drawOk ops (Region.before ops) = true) : ∀ (i j : Nat), waits (Region.before ops) i j = true → j < i := by
  intro i
  induction i using Nat.strongRecOn with
  | _ i ih =>
    intro j h
    cases ho : ops[i]? with
    | none =>
      have hi : ops.size ≤ i := by simpa using ho
      unfold waits at h
      have : (Region.before ops).getD i 0 = 0 := by
        have hsz := before_size ops
        rw [Array.getD_eq_getD_getElem?, Array.getElem?_eq_none (by omega)]; rfl
      rw [this] at h
      simp at h
    | some o =>
      have hi : i < ops.size := (Array.getElem?_eq_some_iff.1 ho).1
      have hall := allBelow_get hd hi
      simp only [Bool.and_eq_true] at hall
      obtain ⟨e, _, _, hlt, h1⟩ := waits_spec ho hall.1 h
      rcases h1 with rfl | h1
      · exact hlt
      · have := ih e.on hlt j h1
        omega

/-- What is known of the text's own run. -/
structure Run (C : Ctx) (ops : Array Oper) (S : Nat → St) (V : Nat → AV) (L : Nat → Lg) : Prop where
  step : ∀ i (o : Oper), ops[i]? = some o → Along C ops i o (S i) (S (i + 1)) (V i) (L i)
  log : ∀ i j, i < ops.size → j < i → waits (Region.before ops) i j = true ∨ (L j).free (L i) = true

theorem logOk_mem {bs : Array Nat} {i : Nat} {lg : Lg} : ∀ {log : List (Nat × Lg)}, logOk bs i lg log = true → ∀ j l, (j, l) ∈ log → waits bs i j = true ∨ l.free lg = true
  | [], _, j, l, h => by cases h
  | (j0, l0) :: r, h, j, l, hm => by
    simp only [logOk, Bool.and_eq_true, Bool.or_eq_true] at h
    rcases List.mem_cons.1 hm with e | hm
    · cases e; exact h.1
    · exact logOk_mem h.2 j l hm

theorem evLog_run [Sites] {Ω : Type} {ops : Array Oper} {bs : Array Nat} {K : St → Option Ω} {out : Ω} : ∀ (m n : Nat) (log : List (Nat × Lg)) (s : St), ops.size - n = m → n ≤ ops.size → evLog C ops bs (ops.toList.drop n) n log s K = some out →
    ∃ (S : Nat → St) (V : Nat → AV) (L : Nat → Lg), S n = s ∧ K (S ops.size) = some out ∧ (∀ i (o : Oper), n ≤ i → ops[i]? = some o → Along C ops i o (S i) (S (i + 1)) (V i) (L i)) ∧
      (∀ i j, n ≤ j → i < ops.size → j < i → waits bs i j = true ∨ (L j).free (L i) = true) ∧ (∀ i j l, n ≤ i → i < ops.size → (j, l) ∈ log → waits bs i j = true ∨ l.free (L i) = true)
  | 0, n, log, s, hm, hn, h => by
    have e1 : n = ops.size := by omega
    subst e1
    rw [List.drop_of_length_le (by simp)] at h
    simp only [evLog] at h
    refine ⟨fun _ => s, fun _ => .junk, fun _ => .rd [], rfl, h, fun i o hi ho => ?_, fun i j _ hi _ => by omega, fun i j l hi hi' _ => by omega⟩
    have := (Array.getElem?_eq_some_iff.1 ho).1
    omega
  | m + 1, n, log, s, hm, hn, h => by
    have hlt : n < ops.size := by omega
    rw [List.drop_eq_getElem_cons (by simpa using hlt)] at h
    simp only [evLog, Array.getElem_toList] at h
    obtain ⟨s1, v, lg, hk, hal⟩ := evGuard_along (i := n) h
    cases hlo : logOk bs n lg log with
    | false => simp [hlo] at hk
    | true =>
      simp only [hlo] at hk
      obtain ⟨S, V, L, h1, h2, h3, h4, h5⟩ := evLog_run m (n + 1) ((n, lg) :: log) s1 (by omega) (by omega) hk
      have hKn : K ((fun k => if k = n then s else S k) ops.size) = some out := by
        simp only [if_neg (show ¬ ops.size = n by omega)]; exact h2
      refine ⟨fun k => if k = n then s else S k, fun k => if k = n then v else V k, fun k => if k = n then lg else L k, by simp, hKn, fun i o hi ho => ?_, fun i j hj hi hji => ?_, fun i j l hi hi' hjl => ?_⟩
      · by_cases e : i = n
        · subst e
          rw [Array.getElem?_eq_getElem hlt] at ho
          simp only [Option.some.injEq] at ho
          subst ho
          simpa [h1] using hal
        · have e2 : ¬ i + 1 = n := by omega
          simpa [e, e2] using h3 i o (by omega) ho
      · have e : ¬ i = n := by omega
        by_cases e2 : j = n
        · subst e2
          simpa [e] using h5 i j lg (by omega) hi (by simp)
        · simpa [e, e2] using h4 i j (by omega) hi hji
      · by_cases e : i = n
        · subst e
          simpa using logOk_mem hlo j l hjl
        · simpa [e] using h5 i j l (by omega) hi' (List.mem_cons_of_mem _ hjl)
end
end Go.Hay
