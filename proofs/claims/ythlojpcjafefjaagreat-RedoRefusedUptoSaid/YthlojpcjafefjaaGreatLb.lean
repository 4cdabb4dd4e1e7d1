/- Readers: what the functions that read come to, the program's and the document's. Conditions: sizes below a bound. -/
import Derived.Test.YthlojpcjafefjaaGreatLa
set_option linter.unusedVariables false
set_option linter.unusedSimpArgs false
namespace Go.Hay.YthlojpcjafefjaaGreat
open Go Go.Hay Go.Proofs

theorem fD43 (N : Nat) (s : List UInt8) (h : s.length ≤ 100000000000000) : fA0.run N s = some (s, ()) := by
  cases s with
  | nil => exact go_p (go_t (room_t (by simp) (by simp)) rfl) (fun _ => rfl)
  | cons c r =>
    refine go_p (go_t (room_t (by omega) (by omega)) rfl) (fun h => ?_)
    have := Nat.eq_of_beq_eq_true h
    simp at this
theorem fD66 (N : Nat) (s : List UInt8) (h : s.length ≤ 100000000000000) : fD3.run N s = some (s, ()) := by
  cases s with
  | nil => exact go_p (go_t (room_t (by simp) (by simp)) rfl) (fun _ => rfl)
  | cons c r =>
    refine go_p (go_t (room_t (by omega) (by omega)) rfl) (fun h => ?_)
    have := Nat.eq_of_beq_eq_true h
    simp at this
theorem fC49 (N : Nat) (s : List UInt8) (h : s.length ≤ 100000000000000) : fA44.run N s = some ((s, 0, ()), ()) := go_o (fD43 N s h) rfl
theorem fC92 (N : Nat) (s : List UInt8) (h : s.length ≤ 100000000000000) : fC39.run N s = some ((s, 0, ()), ()) := go_o (fD66 N s h) rfl
theorem fB66 (N : Nat) (s : List UInt8) (h : s.length ≤ 100000000000000) : fD4.run N s = some (s, ()) := go_o (fD66 N s h) rfl

theorem fB64 (N : Nat) (b : List UInt8) (e : Int) (n : Int) (he : e ≠ 0) : fD2.run N b e n = some ((b, e, ()), [], false, ()) :=
  go_o (v := ((b, e, ()), ())) (go_n he rfl) (go_nn he rfl)
theorem fB58 (N : Nat) (b : List UInt8) (n : Int) (h : n > (b.length : Int)) : fD2.run N b 0 n = some ((b, 10, ()), [], false, ()) :=
  go_o (v := ((b, 10, ()), ())) (go_d rfl (go_d h rfl)) (go_nn (by decide) rfl)
theorem fA69 (N : Nat) (b : List UInt8) (n : Nat) (h : n ≤ b.length) : fD2.run N b 0 (n : Int) = some ((b.drop n, 0, ()), b.take n, true, ()) :=
  go_o (v := ((b, 0, ()), ())) (go_d rfl (go_n (by omega) rfl)) (go_nd rfl (go_t (okB_t (by omega) (by omega) (by omega)) (go_t (okB_t (by omega) (by omega) (Int.le_refl _)) (by rw [Int.toNat_natCast]))))

theorem fD64 (N : Nat) (b : List UInt8) (e : Int) (n : Int) (he : e ≠ 0) : fA1.run (N + 9) b e n = some ((b, e, ()), 0, ()) :=
  go_o (fB64 _ b e n he) (go_o (fB55 (N + 9) [] (by simp) [] [] (N + 9) rfl (by simp)) rfl)
theorem fD46 (N : Nat) (b : List UInt8) (n : Int) (h : n > (b.length : Int)) : fA1.run (N + 9) b 0 n = some ((b, 10, ()), 0, ()) :=
  go_o (fB58 _ b n h) (go_o (fB55 (N + 9) [] (by simp) [] [] (N + 9) rfl (by simp)) rfl)
theorem fB49 (N : Nat) (b : List UInt8) (n : Nat) (h8 : n ≤ 8) (h : n ≤ b.length) : fA1.run (N + 9) b 0 (n : Int) = some ((b.drop n, 0, ()), ((toNum (b.take n) : Nat) : Int), ()) :=
  go_o (fA69 _ b n h) (go_o (fB55 (N + 9) (b.take n) (by rw [List.length_take]; omega) (b.take n) [] (N + 9) rfl (by rw [List.length_take]; omega)) rfl)

/-- What is told of reading: what is left, with what it failed, and the number. -/
def hiX (b : List UInt8) (e : Int) (n : Nat) : (List UInt8 × Int) × Nat :=
  if e ≠ 0 then ((b, e), 0) else if n > b.length then ((b, 10), 0) else ((b.drop n, 0), toNum (b.take n))
/-- The number with whose bytes some begin, and how many these are. -/
def varD : List UInt8 → Except Int (Nat × Nat)
  | [] => .error 10
  | c :: r =>
    if c.toNat = 253 then (if r.length < 2 then .error 10 else if toNum (r.take 2) < 253 then .error 11 else .ok (toNum (r.take 2), 3))
    else if c.toNat = 254 then (if r.length < 4 then .error 10 else if toNum (r.take 4) < 65536 then .error 11 else .ok (toNum (r.take 4), 5))
    else if c.toNat = 255 then (if r.length < 8 then .error 10 else if toNum (r.take 8) < 4294967296 then .error 11 else .ok (toNum (r.take 8), 9))
    else .ok (c.toNat, 1)
/-- ... that is at most some number. -/
def varX (b : List UInt8) (most : Int) : Except Int (Nat × Nat) := match varD b with | .error e => .error e | .ok (n, m) => if (n : Int) > most then .error 12 else .ok (n, m)
def varR (b : List UInt8) (e most : Int) : (List UInt8 × Int) × Nat := if e ≠ 0 then ((b, e), 0) else match varX b most with | .error x => ((b, x), 0) | .ok (n, m) => ((b.drop m, 0), n)

theorem fD73 (c : UInt8) : toNum [c] = c.toNat := by simp [toNum]
theorem fA61 {b : List UInt8} {n m : Nat} (h : varD b = .ok (n, m)) : 0 < m ∧ m ≤ b.length ∧ n < 18446744073709551616 ∧ varB n = b.take m := by
  unfold varD at h
  split at h
  · cases h
  · rename_i c r
    have hc := c.toNat_lt
    have g : ∀ k, k ≤ r.length → numB k (toNum (r.take k)) = r.take k := fun k hk => by
      have := fB67 (r.take k)
      rw [List.length_take, Nat.min_eq_left hk] at this
      exact this
    split at h
    · rename_i hx
      split at h
      · cases h
      · split at h
        · cases h
        · rename_i h1 h2
          cases h
          have hl := fB46 (r.take 2)
          rw [List.length_take, Nat.min_eq_left (by omega)] at hl
          refine ⟨by omega, by simp; omega, by omega, ?_⟩
          unfold varB
          rw [if_neg h2, if_pos (by omega), g 2 (by omega)]
          show (253 : UInt8) :: r.take 2 = c :: r.take 2
          rw [show c = 253 from UInt8.toNat_inj.1 hx]
    split at h
    · rename_i hx
      split at h
      · cases h
      · split at h
        · cases h
        · rename_i h1 h2
          cases h
          have hl := fB46 (r.take 4)
          rw [List.length_take, Nat.min_eq_left (by omega)] at hl
          refine ⟨by omega, by simp; omega, by omega, ?_⟩
          unfold varB
          rw [if_neg (by omega), if_neg (by omega), if_pos (by omega), g 4 (by omega)]
          show (254 : UInt8) :: r.take 4 = c :: r.take 4
          rw [show c = 254 from UInt8.toNat_inj.1 hx]
    split at h
    · rename_i hx
      split at h
      · cases h
      · split at h
        · cases h
        · rename_i h1 h2
          cases h
          have hl := fC72 (l := r.take 8) (by rw [List.length_take]; omega)
          refine ⟨by omega, by simp; omega, by omega, ?_⟩
          unfold varB
          rw [if_neg (by omega), if_neg (by omega), if_neg (by omega), g 8 (by omega)]
          show (255 : UInt8) :: r.take 8 = c :: r.take 8
          rw [show c = 255 from UInt8.toNat_inj.1 hx]
    · cases h
      refine ⟨by omega, by simp, by omega, ?_⟩
      unfold varB
      rw [if_pos (by omega)]
      simp
theorem fA92 (n : Nat) (hn : n < 18446744073709551616) (r : List UInt8) : varD (varB n ++ r) = .ok (n, (varB n).length) := by
  have tk : ∀ k m, k = (numB k m).length := fun k m => (fC4 k m).symm
  unfold varB
  by_cases h1 : n < 253
  · rw [if_pos h1]
    have e : (UInt8.ofNat n).toNat = n := by rw [UInt8.toNat_ofNat']; omega
    simp only [List.cons_append, varD, e]
    rw [if_neg (by omega), if_neg (by omega), if_neg (by omega)]
    rfl
  rw [if_neg h1]
  by_cases h2 : n ≤ 65535
  · rw [if_pos h2]
    have e : (numB 2 n ++ r).take 2 = numB 2 n := List.take_left' (fC4 2 n)
    show (if (numB 2 n ++ r).length < 2 then Except.error 10 else if toNum ((numB 2 n ++ r).take 2) < 253 then Except.error 11 else Except.ok (toNum ((numB 2 n ++ r).take 2), 3)) = _
    rw [e, fA49, Nat.mod_eq_of_lt (by omega), if_neg (by rw [List.length_append, fC4]; omega), if_neg h1]
    rfl
  rw [if_neg h2]
  by_cases h3 : n ≤ 4294967295
  · rw [if_pos h3]
    have e : (numB 4 n ++ r).take 4 = numB 4 n := List.take_left' (fC4 4 n)
    show (if (numB 4 n ++ r).length < 4 then Except.error 10 else if toNum ((numB 4 n ++ r).take 4) < 65536 then Except.error 11 else Except.ok (toNum ((numB 4 n ++ r).take 4), 5)) = _
    rw [e, fA49, Nat.mod_eq_of_lt (by omega), if_neg (by rw [List.length_append, fC4]; omega), if_neg (by omega)]
    rfl
  · rw [if_neg h3]
    have e : (numB 8 n ++ r).take 8 = numB 8 n := List.take_left' (fC4 8 n)
    show (if (numB 8 n ++ r).length < 8 then Except.error 10 else if toNum ((numB 8 n ++ r).take 8) < 4294967296 then Except.error 11 else Except.ok (toNum ((numB 8 n ++ r).take 8), 9)) = _
    rw [e, fA49, Nat.mod_eq_of_lt (by omega), if_neg (by rw [List.length_append, fC4]; omega), if_neg (by omega)]
    rfl
theorem rd_var (k : Nat) (b : List UInt8) (e most : Int) : fA7.run (k + 9) b e most = some (((varR b e most).1.1, (varR b e most).1.2, ()), (((varR b e most).2 : Nat) : Int), ()) := by
  unfold varR
  by_cases he : e ≠ 0
  · rw [if_pos he]
    exact go_o (fD64 k b e 1 he) (go_o (v := ((b, e, ()), 0, 0, ())) rfl (go_nn he rfl))
  rw [if_neg he]
  have he0 : e = 0 := by omega
  subst he0
  cases b with
  | nil => exact go_o (fD46 k [] 1 (by simp)) (go_o (v := (([], 10, ()), 0, 0, ())) rfl rfl)
  | cons c r =>
    have hc := c.toNat_lt
    have h1 := fB49 k (c :: r) 1 (by omega) (by simp)
    have e1 : (c :: r).take 1 = [c] := rfl
    have e2 : (c :: r).drop 1 = r := rfl
    rw [e1, e2, fD73] at h1
    refine go_o h1 ?_
    simp only [varX, varD]
    have fin : ∀ (m : Nat) (least : Int) (q : Except Int (Nat × Nat)), m ≤ 8 →
        (bif !(decide ((0 : Int) = (0 : Int))) then some (((c :: r), (0 : Int), ()), (0 : Int), ()) else bif decide ((toNum (r.take m) : Int) < least) then some (((c :: r), (11 : Int), ()), (0 : Int), ()) else bif decide ((toNum (r.take m) : Int) > most) then some (((c :: r), (12 : Int), ()), (0 : Int), ()) else some ((r.drop m, (0 : Int), ()), (toNum (r.take m) : Int), ())) =
        (if (toNum (r.take m) : Int) < least then some (((c :: r), (11 : Int), ()), (0 : Int), ()) else if (toNum (r.take m) : Int) > most then some (((c :: r), (12 : Int), ()), (0 : Int), ()) else some ((r.drop m, (0 : Int), ()), (toNum (r.take m) : Int), ())) := by
      intro m least q hm
      refine go_nd rfl ?_
      by_cases h : (toNum (r.take m) : Int) < least
      · rw [if_pos h]; exact go_d h rfl
      · rw [if_neg h]
        refine go_n h ?_
        by_cases h2 : (toNum (r.take m) : Int) > most
        · rw [if_pos h2]; exact go_d h2 rfl
        · rw [if_neg h2]; exact go_n h2 rfl
    by_cases x1 : c.toNat = 253
    · rw [if_pos x1]
      by_cases hl : r.length < 2
      · rw [if_pos hl]
        exact go_o (v := ((r, 10, ()), 0, 253, ())) (go_d (by omega) (go_o (fD46 k r 2 (by omega)) rfl)) rfl
      · rw [if_neg hl]
        refine go_o (v := ((r.drop 2, 0, ()), (toNum (r.take 2) : Int), 253, ())) (go_d (by omega) (go_o (fB49 k r 2 (by omega) (by omega)) rfl)) ((fin 2 253 (.error 0) (by omega)).trans ?_)
        by_cases y1 : toNum (r.take 2) < 253
        · rw [if_pos y1, if_pos (by omega)]
          try rfl
        · rw [if_neg y1, if_neg (by omega)]
          simp only
          by_cases y2 : (toNum (r.take 2) : Int) > most
          · rw [if_pos y2, if_pos y2]
            try rfl
          · rw [if_neg y2, if_neg y2]; rfl
    rw [if_neg x1]
    by_cases x2 : c.toNat = 254
    · rw [if_pos x2]
      by_cases hl : r.length < 4
      · rw [if_pos hl]
        exact go_o (v := ((r, 10, ()), 0, 65536, ())) (go_n (by omega) (go_d (by omega) (go_o (fD46 k r 4 (by omega)) rfl))) rfl
      · rw [if_neg hl]
        refine go_o (v := ((r.drop 4, 0, ()), (toNum (r.take 4) : Int), 65536, ())) (go_n (by omega) (go_d (by omega) (go_o (fB49 k r 4 (by omega) (by omega)) rfl))) ((fin 4 65536 (.error 0) (by omega)).trans ?_)
        by_cases y1 : toNum (r.take 4) < 65536
        · rw [if_pos y1, if_pos (by omega)]
          try rfl
        · rw [if_neg y1, if_neg (by omega)]
          simp only
          by_cases y2 : (toNum (r.take 4) : Int) > most
          · rw [if_pos y2, if_pos y2]
            try rfl
          · rw [if_neg y2, if_neg y2]; rfl
    rw [if_neg x2]
    by_cases x3 : c.toNat = 255
    · rw [if_pos x3]
      by_cases hl : r.length < 8
      · rw [if_pos hl]
        exact go_o (v := ((r, 10, ()), 0, 4294967296, ())) (go_n (by omega) (go_n (by omega) (go_d (by omega) (go_o (fD46 k r 8 (by omega)) rfl)))) rfl
      · rw [if_neg hl]
        refine go_o (v := ((r.drop 8, 0, ()), (toNum (r.take 8) : Int), 4294967296, ())) (go_n (by omega) (go_n (by omega) (go_d (by omega) (go_o (fB49 k r 8 (by omega) (by omega)) rfl)))) ((fin 8 4294967296 (.error 0) (by omega)).trans ?_)
        by_cases y1 : toNum (r.take 8) < 4294967296
        · rw [if_pos y1, if_pos (by omega)]
          try rfl
        · rw [if_neg y1, if_neg (by omega)]
          simp only
          by_cases y2 : (toNum (r.take 8) : Int) > most
          · rw [if_pos y2, if_pos y2]
            try rfl
          · rw [if_neg y2, if_neg y2]; rfl
    rw [if_neg x3]
    refine go_o (v := ((r, 0, ()), (c.toNat : Int), 0, ())) (go_n (by omega) (go_n (by omega) (go_n (by omega) rfl))) (go_nd rfl (go_n (by show ¬ ((c.toNat : Nat) : Int) < 0; omega) ?_))
    simp only
    by_cases y2 : (c.toNat : Int) > most
    · rw [if_pos y2]; exact go_d y2 rfl
    · rw [if_neg y2]; exact go_n y2 rfl

theorem fC66 {b : List UInt8} {most : Int} (h : most < 0) : varX b most = match varD b with | .error e => .error e | .ok _ => .error 12 := by
  unfold varX
  cases varD b with
  | error e => rfl
  | ok p =>
    obtain ⟨n, m⟩ := p
    simp only
    rw [if_pos (by omega)]
theorem fB77 {b : List UInt8} {x : Int} (hq : varD b = .error x) : x ≠ 0 := by
  unfold varD at hq
  split at hq
  · cases hq; decide
  · split at hq
    · split at hq
      · cases hq; decide
      · split at hq <;> cases hq; decide
    split at hq
    · split at hq
      · cases hq; decide
      · split at hq <;> cases hq; decide
    split at hq
    · split at hq
      · cases hq; decide
      · split at hq <;> cases hq; decide
    · cases hq
theorem fD84 (k : Nat) (b : List UInt8) (e most : Int) (hm : most < 9223372036854775808) : fD13.run (k + 9) b e most = some (((varR b e most).1.1, (varR b e most).1.2, ()), (((varR b e most).2 : Nat) : Int), ()) := by
  by_cases h : most < 0
  · have e1 : max most 0 = 0 := by omega
    have e2 : IntKind.u64.wrap (max most (0 : Int)) = 0 := by rw [e1]; rfl
    have hv := rd_var k b e 0
    rw [← e2] at hv
    unfold varR at hv ⊢
    by_cases he : e ≠ 0
    · rw [if_pos he] at hv ⊢
      exact go_o hv (go_d h (go_n he rfl))
    · rw [if_neg he] at hv ⊢
      rw [fC66 h]
      cases hq : varD b with
      | error x =>
        have h1 : varX b (IntKind.u64.wrap (max most (0 : Int))) = .error x := by unfold varX; rw [hq]
        rw [h1] at hv
        exact go_o hv (go_d h (go_n (fB77 hq) rfl))
      | ok p =>
        obtain ⟨n, m⟩ := p
        by_cases hn : (n : Int) > 0
        · have h1 : varX b (IntKind.u64.wrap (max most (0 : Int))) = .error 12 := by unfold varX; rw [hq, e2]; simp only; rw [if_pos hn]
          rw [h1] at hv
          exact go_o hv (go_d h (go_n (by show ¬ (12 : Int) = 0; decide) rfl))
        · have h1 : varX b (IntKind.u64.wrap (max most (0 : Int))) = .ok (n, m) := by unfold varX; rw [hq, e2]; simp only; rw [if_neg hn]
          rw [h1] at hv
          exact go_o hv (go_d h (go_d rfl rfl))
  · have e2 : IntKind.u64.wrap (max most (0 : Int)) = most := by rw [w_u64]; omega
    have hv := rd_var k b e most
    rw [← e2] at hv
    refine go_o hv ?_
    rw [e2]
    exact go_n h rfl
theorem fB65 {b : List UInt8} {most x : Int} (h : varX b most = .error x) : x ≠ 0 := by
  unfold varX at h
  split at h
  · rename_i e hq
    cases h
    exact fB77 hq
  · split at h <;> cases h
    decide
theorem fD54 {b : List UInt8} {most : Int} {n m : Nat} (h : varX b most = .ok (n, m)) : varD b = .ok (n, m) ∧ (n : Int) ≤ most := by
  unfold varX at h
  split at h
  · cases h
  · rename_i n' m' hq
    split at h
    · cases h
    · cases h
      exact ⟨hq, by omega⟩

/-- So many bytes. -/
def rawR (b : List UInt8) (e n : Int) : (List UInt8 × Int) × List UInt8 := if e ≠ 0 then ((b, e), []) else if n < 0 then ((b, 12), []) else if n > (b.length : Int) then ((b, 10), []) else ((b.drop n.toNat, 0), b.take n.toNat)
theorem rd_raw (N : Nat) (b : List UInt8) (e n : Int) (hb : b.length ≤ 100000000000000) : fC5.run N b e n = some (((rawR b e n).1.1, (rawR b e n).1.2, ()), (rawR b e n).2, ()) := by
  unfold rawR
  by_cases he : e ≠ 0
  · rw [if_pos he]
    by_cases h : n < 0
    · exact go_d h (go_o (v := ((b, e, ()), ())) (go_n he rfl) rfl)
    · exact go_n h (go_o (fB64 N b e n he) (go_o (fD43 N [] (by simp)) rfl))
  rw [if_neg he]
  have he0 : e = 0 := by omega
  subst he0
  by_cases h : n < 0
  · rw [if_pos h]
    exact go_d h (go_o (v := ((b, 12, ()), ())) (go_d rfl rfl) rfl)
  rw [if_neg h]
  by_cases h2 : n > (b.length : Int)
  · rw [if_pos h2]
    exact go_n h (go_o (fB58 N b n h2) (go_o (fD43 N [] (by simp)) rfl))
  · rw [if_neg h2]
    obtain ⟨m, rfl⟩ := Int.eq_ofNat_of_zero_le (show 0 ≤ n by omega)
    exact go_n h (go_o (fA69 N b m (by omega)) (go_o (fD43 N _ (by rw [List.length_take]; omega)) rfl))
/-- A text of so many bytes at most. -/
def textR (b : List UInt8) (e most : Int) : (List UInt8 × Int) × List UInt8 :=
  if e ≠ 0 then ((b, e), []) else match varX b most with
    | .error x => ((b, x), [])
    | .ok (n, m) => if n > (b.drop m).length then ((b, 10), []) else ((b.drop (m + n), 0), (b.drop m).take n)
theorem fA101 (k : Nat) (b : List UInt8) (e most : Int) (hb : b.length ≤ 100000000000000) (hm : most < 9223372036854775808) : fB21.run (k + 9) b e most = some (((textR b e most).1.1, (textR b e most).1.2, ()), (textR b e most).2, ()) := by
  refine go_o (fD84 k b e most hm) ?_
  unfold textR varR
  by_cases he : e ≠ 0
  · rw [if_pos he, if_pos he]
    refine go_n he (go_o (rd_raw _ b e _ hb) ?_)
    unfold rawR
    rw [if_pos he]
  rw [if_neg he, if_neg he]
  cases hq : varX b most with
  | error x =>
    have hx := fB65 hq
    refine go_n hx (go_o (rd_raw _ b x _ hb) ?_)
    unfold rawR
    rw [if_pos hx]
  | ok p =>
    obtain ⟨n, m⟩ := p
    obtain ⟨h1, h2⟩ := fD54 hq
    obtain ⟨h3, h4, h5, _⟩ := fA61 h1
    simp only
    have e1 : IntKind.u64.wrap (((b.drop m).length : Nat) : Int) = (((b.drop m).length : Nat) : Int) := by rw [w_u64, List.length_drop]; omega
    have e2 : IntKind.i64.wrap (n : Int) = (n : Int) := wrap_nat n (by omega)
    refine go_t (by simp) ?_
    show (bif decide ((n : Int) > IntKind.u64.wrap (((b.drop m).length : Nat) : Int)) then _ else _) = _
    rw [e1]
    by_cases hn : n > (b.drop m).length
    · rw [if_pos hn]
      refine go_d (by omega) (go_o (rd_raw _ b 10 _ hb) ?_)
      unfold rawR
      rw [if_pos (by decide)]
    · rw [if_neg hn]
      refine go_n (by omega) ?_
      show obind (fC5.run (k + 9) (b.drop m) 0 (IntKind.i64.wrap (n : Int))) _ = _
      rw [e2]
      refine go_o (rd_raw _ (b.drop m) 0 (n : Int) (by rw [List.length_drop]; omega)) ?_
      unfold rawR
      rw [if_neg (by decide), if_neg (by omega), if_neg (by omega), Int.toNat_natCast, List.drop_drop]
end Go.Hay.YthlojpcjafefjaaGreat
