/- Steps of plain laws: what the words of printed functions come to. Conditions: none. -/
import Derived.Test.YthlojpcjafefjaaHayZd
set_option linter.unusedVariables false
set_option linter.unusedSimpArgs false
namespace Go.Hay
section
variable {α β : Type}

/-- Steps through a printed function. -/
theorem go_t {c : Bool} {a b y : Option α} (hc : c = true) (h : a = y) : (bif c then a else b) = y := by rw [hc]; exact h
theorem go_f {c : Bool} {a b y : Option α} (hc : c = false) (h : b = y) : (bif c then a else b) = y := by rw [hc]; exact h
theorem go_o {x : Option α} {v : α} {f : α → Option β} {y : Option β} (hx : x = some v) (h : f v = y) : obind x f = y := by rw [hx]; exact h
theorem go_d {p : Prop} [Decidable p] {a b y : Option α} (hc : p) (h : a = y) : (bif decide p then a else b) = y := by rw [decide_eq_true hc]; exact h
theorem go_n {p : Prop} [Decidable p] {a b y : Option α} (hc : ¬ p) (h : b = y) : (bif decide p then a else b) = y := by rw [decide_eq_false hc]; exact h
theorem go_nd {p : Prop} [Decidable p] {a b y : Option α} (hc : p) (h : b = y) : (bif !decide p then a else b) = y := by rw [decide_eq_true hc]; exact h
theorem go_nn {p : Prop} [Decidable p] {a b y : Option α} (hc : ¬ p) (h : a = y) : (bif !decide p then a else b) = y := by rw [decide_eq_false hc]; exact h
theorem pick2_same (b : Bool) (x : Option α) : pick2 b x x = x := by unfold pick2; cases b <;> simp
theorem go_p {b : Bool} {x y z : Option α} (h1 : y = z) (h2 : b = true → x = z) : pick2 b x y = z := by
  unfold pick2
  cases b with
  | false => exact h1
  | true => simp only [cond_true]; rw [h1, h2 rfl]; simp

theorem room_t {n b : Nat} (h : n * b ≤ 140737488355328) (h2 : n ≤ 140737488355328) : room n b = true := by simp [room, h, h2]
theorem inB_t {k : Int} {n : Nat} (h1 : 0 ≤ k) (h2 : k < n) : inB k n = true := by simp [inB, h1, h2]
theorem inB_nat {k n : Nat} (h2 : k < n) : inB (k : Int) n = true := inB_t (Int.natCast_nonneg k) (by omega)
theorem okB_t {a b : Int} {n : Nat} (h1 : 0 ≤ a) (h2 : a ≤ b) (h3 : b ≤ n) : okB a b n = true := by simp [okB, h1, h2, h3]

theorem wrap_i64 {x : Int} (h1 : -9223372036854775808 ≤ x) (h2 : x < 9223372036854775808) : IntKind.i64.wrap x = x := by rw [IntKind.wrap_i64]; omega
theorem w_u64 (n : Int) : IntKind.u64.wrap n = n % 18446744073709551616 := by simp [IntKind.wrap, IntKind.bits, IntKind.signed]
theorem w_u32 (n : Int) : IntKind.u32.wrap n = n % 4294967296 := by simp [IntKind.wrap, IntKind.bits, IntKind.signed]
theorem w_u16 (n : Int) : IntKind.u16.wrap n = n % 65536 := by simp [IntKind.wrap, IntKind.bits, IntKind.signed]
theorem w_u8 (n : Int) : IntKind.u8.wrap n = n % 256 := by simp [IntKind.wrap, IntKind.bits, IntKind.signed]
theorem w_i64 (n : Int) : IntKind.i64.wrap n = (n + 9223372036854775808) % 18446744073709551616 - 9223372036854775808 := by rw [IntKind.wrap_i64]
theorem wrap_nat (k : Nat) (h : k < 9223372036854775808) : IntKind.i64.wrap (k : Int) = k := wrap_i64 (by omega) (by omega)
theorem wrap_succ (k : Nat) (h : k < 9223372036854775807) : IntKind.i64.wrap ((k : Int) + 1) = ((k + 1 : Nat) : Int) := by rw [wrap_i64] <;> omega


/-- A loop over an index that looks for something. -/
theorem loop_find_from {β γ : Type} {go : Nat → Int → Option (β ⊕ γ)} {n : Nat} {p : Nat → Bool} {v : Nat → β} {e : γ} (hn : n ≤ 4611686018427387904) (hend : ∀ fuel, go (fuel + 1) (n : Int) = some (.inr e))
    (hstep : ∀ i < n, ∀ fuel, (∀ j < i, p j = false) → go (fuel + 1) (i : Int) = if p i = true then some (.inl (v i)) else go fuel (IntKind.i64.wrap ((i : Int) + 1))) :
    ∀ d i fuel, n = i + d → d < fuel → (∀ j < i, p j = false) → (∃ j < n, p j = true ∧ (∀ m < j, p m = false) ∧ go fuel (i : Int) = some (.inl (v j))) ∨ ((∀ j < n, p j = false) ∧ go fuel (i : Int) = some (.inr e))
  | _, _, 0, _, h, _ => absurd h (Nat.not_lt_zero _)
  | 0, i, fuel + 1, e1, hf, hp => by
    have : i = n := by omega
    subst this
    exact .inr ⟨hp, hend _⟩
  | d + 1, i, fuel + 1, e1, hf, hp => by
    rw [hstep i (by omega) fuel hp]
    cases h : p i with
    | true => exact .inl ⟨i, by omega, h, hp, rfl⟩
    | false =>
      rw [if_neg (by decide), wrap_succ i (by omega)]
      exact loop_find_from hn hend hstep d (i + 1) fuel (by omega) (by omega) fun j hj => by
        rcases Nat.lt_succ_iff_lt_or_eq.1 hj with h1 | rfl
        · exact hp j h1
        · exact h
theorem loop_find {β γ : Type} {go : Nat → Int → Option (β ⊕ γ)} {n : Nat} {p : Nat → Bool} {v : Nat → β} {e : γ} (hn : n ≤ 4611686018427387904) (hend : ∀ fuel, go (fuel + 1) (n : Int) = some (.inr e))
    (hstep : ∀ i < n, ∀ fuel, (∀ j < i, p j = false) → go (fuel + 1) (i : Int) = if p i = true then some (.inl (v i)) else go fuel (IntKind.i64.wrap ((i : Int) + 1))) {N : Nat} (hN : n < N) :
    (∃ j < n, p j = true ∧ (∀ m < j, p m = false) ∧ go N 0 = some (.inl (v j))) ∨ ((∀ j < n, p j = false) ∧ go N 0 = some (.inr e)) :=
  loop_find_from hn hend hstep n 0 N (by omega) hN fun j hj => absurd hj (Nat.not_lt_zero _)
/-- A loop over an index that turns something. -/
theorem loop_turn_from {β γ : Type} {go : Nat → β → Int → Option γ} {n : Nat} {fin : β → γ} (Q : Nat → β → Prop) (hn : n ≤ 4611686018427387904) (hend : ∀ fuel b, Q n b → go (fuel + 1) b (n : Int) = some (fin b))
    (hstep : ∀ i < n, ∀ b, Q i b → ∃ b', Q (i + 1) b' ∧ ∀ fuel, go (fuel + 1) b (i : Int) = go fuel b' (IntKind.i64.wrap ((i : Int) + 1))) :
    ∀ d i fuel b, n = i + d → d < fuel → Q i b → ∃ b', Q n b' ∧ go fuel b (i : Int) = some (fin b')
  | _, _, 0, _, _, h, _ => absurd h (Nat.not_lt_zero _)
  | 0, i, fuel + 1, b, e1, hf, hq => by
    have : i = n := by omega
    subst this
    exact ⟨b, hq, hend _ _ hq⟩
  | d + 1, i, fuel + 1, b, e1, hf, hq => by
    obtain ⟨b', h1, h2⟩ := hstep i (by omega) b hq
    rw [h2 fuel, wrap_succ i (by omega)]
    exact loop_turn_from Q hn hend hstep d (i + 1) fuel b' (by omega) (by omega) h1
theorem loop_turn {β γ : Type} {go : Nat → β → Int → Option γ} {n : Nat} {fin : β → γ} (Q : Nat → β → Prop) (hn : n ≤ 4611686018427387904) (hend : ∀ fuel b, Q n b → go (fuel + 1) b (n : Int) = some (fin b))
    (hstep : ∀ i < n, ∀ b, Q i b → ∃ b', Q (i + 1) b' ∧ ∀ fuel, go (fuel + 1) b (i : Int) = go fuel b' (IntKind.i64.wrap ((i : Int) + 1))) {N : Nat} (hN : n < N) {b : β} (h0 : Q 0 b) : ∃ b', Q n b' ∧ go N b 0 = some (fin b') :=
  loop_turn_from Q hn hend hstep n 0 N b (by omega) hN h0

theorem getD_get {α : Type} {l : List α} {i : Nat} (h : i < l.length) (d : α) : l.getD i d = l[i] := by rw [List.getD_eq_getElem?_getD, List.getElem?_eq_getElem h]; rfl
theorem take_succ' {α : Type} {l : List α} {i : Nat} (h : i < l.length) : l.take (i + 1) = l.take i ++ [l[i]] := by rw [List.take_succ_eq_append_getElem h]

theorem blk_pos_slice (T : Ty) (l : List T.den) : 1 ≤ blk (.slice T) l := by simp [blk]
theorem blk_mem {T : Ty} {l : List T.den} {x : T.den} (h : x ∈ l) : blk T x + 1 ≤ blk (.slice T) l := by
  have : ∀ {l : List T.den}, x ∈ l → blk T x ≤ (l.map (blk T)).sum := by
    intro l
    induction l with
    | nil => intro h; cases h
    | cons a l ih =>
      intro h
      simp only [List.map_cons, List.sum_cons]
      rcases List.mem_cons.1 h with rfl | h
      · omega
      · have := ih h; omega
  have := this h
  simp only [blk]; omega
theorem blk_len {T : Ty} (hT : ∀ x : T.den, 1 ≤ blk T x) (l : List T.den) : l.length + 1 ≤ blk (.slice T) l := by
  have : l.length ≤ (l.map (blk T)).sum := by
    induction l with
    | nil => simp
    | cons a l ih =>
      have := hT a
      simp only [List.map_cons, List.sum_cons, List.length_cons]; omega
  simp only [blk]; omega
theorem blk_bytes (l : List UInt8) : l.length + 1 ≤ blk (.slice .byte) l := blk_len (T := .byte) (fun _ => Nat.le_refl 1) l
end
end Go.Hay
