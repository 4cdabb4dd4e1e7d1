/- What a caller hands over, as plain data. -/
import Derived.Test.YthlojpcjafefjaaHayMu
import Derived.ProofKit
set_option linter.unusedVariables false
set_option linter.unusedSimpArgs false
namespace Go.Hay
open Go.RowKit

/-- Is a type of the program's the type of these values? -/
def tyAt (U : TEnv) : Nat → Ty → TypeId → Bool
  | 0, _, _ => false
  | n + 1, T, t => Nat.beq (U t).size T.size && match T, (U t).k with
    | .byte, .int .u8 => true
    | .int k, .int k' => ikEq k k'
    | .bool, .bool => true
    | .str, .string => true
    | .slice T, .slice e => Nat.blt 0 T.size && (Nat.blt 0 (U e).size && ((match (U e).k with | .none => false | _ => true) && tyAt U n T e))
    | .pair a b, .struct fs => tysAt (tyAt U n) (.pair a b) fs 0
    | .unit, .struct [] => true
    | _, _ => false
  where tysAt (r : Ty → TypeId → Bool) : Ty → List (TypeId × Nat) → Nat → Bool
  | .pair a .unit, [f], o => Nat.beq f.2 o && r a f.1
  | T, [f], o => Nat.beq f.2 o && r T f.1
  | .pair a b, f :: g :: q, o => Nat.beq f.2 o && (r a f.1 && tysAt r b (g :: q) (o + a.size))
  | _, _, _ => false

/-- How much a value counts. -/
def blk : (T : Ty) → T.den → Nat
  | .byte, _ | .int _, _ | .bool, _ => 1
  | .str, l => l.length + 1
  | .slice T, l => (l.map (blk T)).sum + 1
  | .pair a b, x => blk a x.1 + blk b x.2
  | .unit, _ => 0

/-- A measure of readings that is no less. -/
structure Bulk {H : Type} (b : DataW H → Nat) : Prop where
  pos : ∀ d, 1 ≤ b d
  str : ∀ l, l.length + 1 ≤ b (.lit (.string l))
  slice : ∀ l m, (l.map b).sum + 1 ≤ b (.slice l m)
  agg : ∀ l, (l.map b).sum ≤ b (.agg l)

section
variable {P : Program} {U : TEnv} {w : World} {H : Type} {enc : TypeId × Value → H} {sp : Nat → Bool} {held : Bool} {b : DataW H → Nat}

abbrev old (w : World) : Nat → Prop := fun k => k < w.heap.size

theorem tyAt_ne {n : Nat} {T : Ty} {t : TypeId} (h : tyAt U n T t = true) : (U t).k ≠ .none := by
  intro e
  cases n with
  | zero => simp [tyAt] at h
  | succ n => cases T <;> simp [tyAt, e] at h

theorem cellsOf_U (hU : U.Ok P) {t : TypeId} (h : (U t).k ≠ .none) : P.cellsOf t = (U t).size := by
  have := (hU t h).2.1
  unfold TD.infoOk at this
  cases hi : P.info? t with
  | none => simp [hi] at this
  | some i =>
    simp only [hi, Option.map_some, Option.some.injEq, Prod.mk.injEq] at this
    simp [Program.cellsOf, hi, this.1]

def OpenOk (P : Program) (w : World) (enc : TypeId × Value → H) (sp : Nat → Bool) (held : Bool) (b : DataW H → Nat) (T : Ty) (t : TypeId) : Prop :=
  ∀ fuel cs x, DataW.trod enc P w 0 sp held fuel t cs = some x → ∃ v : T.den, TR (old w) w T v cs ∧ blk T v ≤ b x.1

theorem add_none {a : Addr} (h : a.spot = none) (m : Nat) : a.add m = ⟨a.block, a.off + m, none⟩ := by
  unfold Addr.add
  split
  · rename_i e
    subst e
    cases a
    simp only at h
    subst h
    rfl
  · rfl
theorem cell_spot {a : Addr} {v : Value} (h : w.cell? a = some v) : a.spot = none ∧ a.block < w.heap.size := by
  unfold World.cell? at h
  split at h
  · rename_i hb
    split at h
    · cases h
    · rename_i hs
      refine ⟨?_, (Array.getElem?_eq_some_iff.1 hb).1⟩
      cases hsp : a.spot with
      | none => rfl
      | some _ => simp [hsp] at hs
  · cases h

theorem row_open [Sites] {T : Ty} {e : TypeId} (hsz : P.cellsOf e = T.size) (hpos : 0 < T.size) (ih : OpenOk P w enc sp held b T e) {fuel : Nat} {a : Addr} {elems : List (DataW H × List MemPlace)} :
    ∀ n, n ≤ elems.length → (∀ i, i < n → (w.cells? 0 (a.add (i * P.cellsOf e)) (P.cellsOf e)).bind (DataW.trod enc P w 0 sp held fuel e) = elems[i]?) →
      ∃ (l : List T.den) (us : List Value), l.length = n ∧ Cat (TR (old w) w T) l us ∧ us.length = n * T.size ∧ CellsAt w a.block a.off us ∧ (l.map (blk T)).sum ≤ ((elems.take n).map fun x => b x.1).sum ∧
        (0 < n → a.spot = none ∧ a.block < w.heap.size) := by
  intro n
  induction n with
  | zero => intro _ _; exact ⟨[], [], rfl, rfl, by simp, fun j u h => by simp at h, by simp, fun h => absurd h (Nat.lt_irrefl _)⟩
  | succ n ihn =>
    intro hn hel
    obtain ⟨l, us, h1, h2, h3, h4, h5, h6⟩ := ihn (by omega) fun i hi => hel i (by omega)
    have hlt : n < elems.length := by omega
    have := hel n (Nat.lt_succ_self n)
    rw [List.getElem?_eq_getElem hlt] at this
    obtain ⟨cs, hc, ht⟩ := Option.bind_eq_some_iff.1 this
    obtain ⟨v, hv, hb⟩ := ih _ _ _ ht
    obtain ⟨_, k1, k2⟩ := World.cells?_some hc
    have hspot : a.spot = none ∧ a.block < w.heap.size := by
      by_cases hn0 : n = 0
      · subst hn0
        have h0 := k2 0 (by omega)
        rw [show cs[0]? = some cs[0] from List.getElem?_eq_getElem (by omega)] at h0
        have e0 : (a.add (0 * P.cellsOf e)).add 0 = a := by simp [Addr.add]
        rw [e0] at h0
        exact cell_spot h0
      · exact h6 (by omega)
    have hadd : ∀ i, (a.add (n * P.cellsOf e)).add i = ⟨a.block, a.off + n * T.size + i, none⟩ := fun i => by
      rw [add_none hspot.1, add_none rfl, hsz]
    refine ⟨l ++ [v], us ++ cs, by simp [h1], h2.append ⟨cs, [], by simp, hv, rfl⟩, by rw [List.length_append, h3, k1, hsz, Nat.succ_mul], fun j u hj => ?_, ?_, fun _ => hspot⟩
    · by_cases hjl : j < us.length
      · rw [List.getElem?_append_left hjl] at hj
        exact h4 j u hj
      · rw [List.getElem?_append_right (by omega)] at hj
        have hj2 : j - us.length < P.cellsOf e := by
          have := (List.getElem?_eq_some_iff.1 hj).1
          rw [k1] at this
          exact this
        have := k2 _ hj2
        rw [hj, hadd] at this
        rw [← this]
        congr 2
        omega
    · have e1 : elems.take (n + 1) = elems.take n ++ [elems[n]] := by simp
      rw [e1, List.map_append, List.sum_append, List.map_append, List.sum_append]
      simp only [List.map_cons, List.map_nil, List.sum_cons, List.sum_nil]
      omega

theorem fields_open [Sites] (hU : U.Ok P) (hB : Bulk b) {n : Nat} (ih : ∀ T t, tyAt U n T t = true → OpenOk P w enc sp held b T t) {fuel : Nat} {cs : List Value} :
    ∀ (T : Ty) (fs : List (TypeId × Nat)) (o : Nat), tyAt.tysAt (tyAt U n) T fs o = true → ∀ xs : List (DataW H × List MemPlace), xs.length = fs.length →
      (∀ (i : Nat) f, fs[i]? = some f → DataW.trod enc P w 0 sp held fuel f.1 ((cs.drop f.2).take (P.cellsOf f.1)) = xs[i]?) → cs.length = o + T.size →
      ∃ v : T.den, TR (old w) w T v (cs.drop o) ∧ blk T v ≤ (xs.map fun x => b x.1).sum := by
  have hsize : ∀ T t, tyAt U n T t = true → P.cellsOf t = T.size := fun T t h => by
    rw [cellsOf_U hU (tyAt_ne h)]
    cases n with
    | zero => simp [tyAt] at h
    | succ n => unfold tyAt at h; simp only [Bool.and_eq_true] at h; exact Nat.eq_of_beq_eq_true h.1
  intro T fs o
  induction T, fs, o using tyAt.tysAt.induct with
  | case1 a f o =>
    intro h xs hl hx hc
    simp only [tyAt.tysAt, Bool.and_eq_true] at h
    obtain ⟨h1, h2⟩ := h
    have h1 := Nat.eq_of_beq_eq_true h1
    obtain ⟨x, rfl⟩ : ∃ x, xs = [x] := List.length_eq_one_iff.1 hl
    have := hx 0 f rfl
    simp only [List.getElem?_cons_zero] at this
    rw [h1, hsize _ _ h2, List.take_of_length_le (by rw [List.length_drop, hc]; simp [Ty.size])] at this
    obtain ⟨v, hv, hb⟩ := ih _ _ h2 _ _ _ this
    exact ⟨(v, ()), ⟨_, [], by simp, hv, rfl⟩, by simp [blk]; exact hb⟩
  | case2 T f o hne =>
    intro h xs hl hx hc
    have h : (Nat.beq f.2 o && tyAt U n T f.1) = true := by
      cases T with
      | pair a b => cases b <;> first | exact absurd rfl (hne _) | simpa only [tyAt.tysAt] using h
      | _ => simpa only [tyAt.tysAt] using h
    simp only [Bool.and_eq_true] at h
    obtain ⟨h1, h2⟩ := h
    have h1 := Nat.eq_of_beq_eq_true h1
    obtain ⟨x, rfl⟩ : ∃ x, xs = [x] := List.length_eq_one_iff.1 hl
    have := hx 0 f rfl
    simp only [List.getElem?_cons_zero] at this
    rw [h1, hsize _ _ h2, List.take_of_length_le (by rw [List.length_drop, hc]; omega)] at this
    obtain ⟨v, hv, hb⟩ := ih _ _ h2 _ _ _ this
    exact ⟨v, hv, by simpa using hb⟩
  | case3 a b' f g q o ihq =>
    intro h xs hl hx hc
    simp only [tyAt.tysAt, Bool.and_eq_true] at h
    obtain ⟨h1, h2, h3⟩ := h
    have h1 := Nat.eq_of_beq_eq_true h1
    cases xs with
    | nil => simp at hl
    | cons x xs =>
      have h0 := hx 0 f rfl
      simp only [List.getElem?_cons_zero] at h0
      rw [h1, hsize _ _ h2] at h0
      obtain ⟨v, hv, hb⟩ := ih _ _ h2 _ _ _ h0
      obtain ⟨v', hv', hb'⟩ := ihq h3 xs (by simpa using hl) (fun i f' hf => by have := hx (i + 1) f' (by simpa using hf); simpa using this) (by rw [hc]; simp [Ty.size]; omega)
      refine ⟨(v, v'), ⟨_, _, ?_, hv, hv'⟩, ?_⟩
      · rw [← List.drop_drop, List.take_append_drop]
      · simp only [blk, List.map_cons, List.sum_cons]
        omega
  | case4 T l o h1 h2 h3 =>
    intro h
    cases T <;> cases l <;> first | (simp [tyAt.tysAt] at h; done) | skip
    all_goals (rename_i q; cases q <;> first | (simp [tyAt.tysAt] at h; done) | exact absurd rfl (h2 _ _) | exact absurd rfl (h3 _ _ _ _ _ _))

theorem wf_fits {k : IntKind} {m : Int} (h : (Lit.int k m).wf = true) : fits k m = true := by
  simp only [Lit.wf, Bool.and_eq_true, decide_eq_true_eq] at h
  cases k <;> simp [fits, IntKind.min, IntKind.max, IntKind.signed, IntKind.bits] at * <;> omega

theorem open_ok [Sites] (hU : U.Ok P) (hB : Bulk b) : ∀ (n : Nat) (T : Ty) (t : TypeId), tyAt U n T t = true → OpenOk P w enc sp held b T t := by
  intro n
  induction n with
  | zero => intro T t h; simp [tyAt] at h
  | succ n ih =>
    intro T t h fuel cs x hx
    have hne := tyAt_ne h
    have hk := (hU t hne).1
    have hco := cellsOf_U hU hne
    unfold tyAt at h
    simp only [Bool.and_eq_true] at h
    obtain ⟨hs0, h⟩ := h
    have hs := Nat.eq_of_beq_eq_true hs0
    clear hs0
    split at h
    · rename_i e
      simp only [TD.kindOk, e] at hk
      obtain ⟨m, rfl, rfl, hw⟩ := DataW.trod_int hk hx
      have hf := wf_fits hw
      have hm : 0 ≤ m ∧ m < 256 := by simpa [fits] using hf
      refine ⟨UInt8.ofNat m.toNat, ?_, hB.pos _⟩
      simp only [TR]
      congr 2
      have : (UInt8.ofNat m.toNat).toNat = m.toNat := by
        rw [UInt8.toNat_ofNat']
        apply Nat.mod_eq_of_lt
        omega
      rw [this]
      omega
    · rename_i k k' e
      have := ikEq_eq h
      subst this
      simp only [TD.kindOk, e] at hk
      obtain ⟨m, rfl, rfl, hw⟩ := DataW.trod_int hk hx
      exact ⟨m, ⟨rfl, wf_fits hw⟩, hB.pos _⟩
    · rename_i e
      simp only [TD.kindOk, e] at hk
      obtain ⟨m, rfl, rfl⟩ := DataW.trod_bool hk hx
      exact ⟨m, rfl, hB.pos _⟩
    · rename_i e
      simp only [TD.kindOk, e] at hk
      obtain ⟨m, rfl, rfl, hm⟩ := DataW.trod_string hk hx
      refine ⟨m.data.toList, ⟨by rw [Array.toArray_toList], ?_⟩, hB.str _⟩
      have : m.data.toList.length = m.size := rfl
      rw [this]; exact hm
    · rename_i T e he
      simp only [Bool.and_eq_true, Nat.blt_eq] at h
      obtain ⟨h1, h2, h3, h4⟩ := h
      simp only [TD.kindOk, he] at hk
      have hce : P.cellsOf e = T.size := by
        rw [cellsOf_U hU (tyAt_ne h4)]
        cases n with
        | zero => simp [tyAt] at h4
        | succ n => unfold tyAt at h4; simp only [Bool.and_eq_true] at h4; exact Nat.eq_of_beq_eq_true h4.1
      rcases DataW.trod_slice hk hx with ⟨rfl, rfl⟩ | ⟨a, len, cap, elems, rest, m, _, rfl, rfl, _, hle, hmax, hlen, hel, _, _⟩
      · exact ⟨[], ⟨_, rfl, none, 0, rfl, Nat.le_refl _, Nat.zero_le _, fun _ => rfl, fun ad h => by cases h⟩, by simpa [blk] using hB.pos _⟩
      · obtain ⟨l, us, g1, g2, g3, g4, g5, g6⟩ := row_open (a := a) hce h1 (ih _ _ h4) len (by omega) hel
        refine ⟨l, ⟨_, rfl, some a, cap, by rw [g1], by omega, hmax, (fun h => by cases h), fun ad had hpos => ?_⟩, ?_⟩
        · simp only [Option.some.injEq] at had
          subst had
          obtain ⟨q1, q2⟩ := g6 (by omega)
          exact ⟨q1, q2, us, g2, g4⟩
        · simp only [blk]
          have := hB.slice (elems.map (·.1)) (rest.map (·.1))
          rw [List.map_map] at this
          rw [List.take_of_length_le (by omega)] at g5
          have e1 : (elems.map (b ∘ fun x => x.1)).sum = (elems.map fun x => b x.1).sum := rfl
          rw [e1] at this
          omega
    · rename_i a b' fs e
      simp only [TD.kindOk, e] at hk
      obtain ⟨hF, rfl⟩ := fields_of hk
      obtain ⟨xs, m, rfl, rfl, hl, hxl, hxs⟩ := DataW.trod_struct hF hx
      have := fields_open (cs := cs) (fuel := m) (w := w) (enc := enc) (sp := sp) (held := held) hU hB ih (.pair a b') _ 0 h xs (by simp [hxl]) (fun i f hf => by
        rw [List.getElem?_map, Option.map_eq_some_iff] at hf
        obtain ⟨f', hf', rfl⟩ := hf
        exact hxs i f' (by simpa using hf')) (by rw [hl, hco, hs]; simp)
      obtain ⟨v, hv, hb⟩ := this
      refine ⟨v, by simpa using hv, Nat.le_trans hb ?_⟩
      have := hB.agg (xs.map (·.1))
      rw [List.map_map] at this
      exact this
    · rename_i e
      simp only [TD.kindOk, e] at hk
      obtain ⟨hF, hfs⟩ := fields_of hk
      obtain ⟨xs, m, rfl, rfl, hl, hxl, hxs⟩ := DataW.trod_struct hF hx
      refine ⟨(), ?_, Nat.zero_le _⟩
      simp only [TR]
      rw [hco, hs] at hl
      exact List.eq_nil_of_length_eq_zero (by simpa [Ty.size] using hl)
    · cases h
end
end Go.Hay
