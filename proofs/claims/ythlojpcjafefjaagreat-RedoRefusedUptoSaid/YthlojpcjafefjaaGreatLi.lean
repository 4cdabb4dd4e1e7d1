/- Records as bytes, and back: the program's and the document's tell the same. Conditions: sizes below a bound. -/
import Derived.Test.YthlojpcjafefjaaGreatLh
set_option linter.unusedVariables false
set_option linter.unusedSimpArgs false
namespace Go.Hay.YthlojpcjafefjaaGreat
open Go Go.Hay Go.Proofs

/-! ### Records as bytes -/
/-- Records one behind the other. -/
def recB (l : List (List UInt8)) : List UInt8 := varB l.length ++ l.flatMap textB
/-- How many bytes records have. -/
def tl (l : List (List UInt8)) : Nat := (l.map (·.length)).sum
theorem fC48 (t : List UInt8) (l : List (List UInt8)) : tl (t :: l) = t.length + tl l := by simp [tl]
theorem fD48 (a b : List (List UInt8)) : tl (a ++ b) = tl a + tl b := by simp [tl]
theorem tl_tot (l : List (List UInt8)) : tot l = tl l + 9 * l.length := by
  induction l with
  | nil => simp [tot, tl]
  | cons t l ih => rw [fC48, List.length_cons, show tot (t :: l) = t.length + 9 + tot l by simp [tot], ih]; omega
theorem fB47 (l : List (List UInt8)) : (recB l).length ≤ tot l + 9 := by
  have h1 := (fC47 l.length).1
  have h2 := fB76 l
  unfold recB
  rw [List.length_append]; omega
/-- Few enough for a frame. -/
def Small (l : List (List UInt8)) : Prop := tot l + 9 ≤ 16777216
theorem Small.tl {l : List (List UInt8)} (h : Small l) : tl l ≤ 16777216 ∧ l.length ≤ 16777216 := by
  have := tl_tot l
  unfold Small at h
  omega

theorem fB68 (N : Nat) (l : List (List UInt8)) (hl : Small l) : ∀ (suf pre : List (List UInt8)) (fuel : Nat), l = pre ++ suf → suf.length < fuel → fD18.go N fuel (tl pre : Nat) l (l.length : Int) (pre.length : Int) = some (.inr ())
  | _, _, 0, _, h => absurd h (Nat.not_lt_zero _)
  | [], pre, fuel + 1, hp, _ => go_n (by rw [hp]; simp) rfl
  | t :: suf, pre, fuel + 1, hp, hf => by
    have hlt : pre.length < l.length := by rw [hp]; simp
    have hgd : l.getD ((pre.length : Int)).toNat ([] : List UInt8) = t := by rw [hp]; exact fC29 _ _ _ _
    have hb := (Small.tl hl)
    have htl : tl l = tl pre + (t.length + tl suf) := by rw [hp, fD48, fC48]
    refine go_d (by omega) (go_t (inB_nat hlt) ?_)
    rw [hgd, show IntKind.i64.wrap (((tl pre : Nat) : Int) + (t.length : Int)) = ((tl pre + t.length : Nat) : Int) by rw [wrap_i64] <;> omega]
    refine go_n (by omega) ?_
    rw [wrap_succ pre.length (by omega)]
    have ih := fB68 N l hl suf (pre ++ [t]) fuel (by rw [hp]; simp) (by simp at hf; omega)
    rw [show ((pre ++ [t]).length : Int) = ((pre.length + 1 : Nat) : Int) by simp, show tl (pre ++ [t]) = tl pre + t.length by rw [fD48, fC48]; simp [tl]] at ih
    exact ih
theorem fD58 (N : Nat) (l : List (List UInt8)) (hl : Small l) : ∀ (suf pre : List (List UInt8)) (fuel : Nat), l = pre ++ suf → suf.length < fuel → fC25.go N fuel (tl pre : Nat) l (l.length : Int) (pre.length : Int) = some (.inr ())
  | _, _, 0, _, h => absurd h (Nat.not_lt_zero _)
  | [], pre, fuel + 1, hp, _ => go_n (by rw [hp]; simp) rfl
  | t :: suf, pre, fuel + 1, hp, hf => by
    have hlt : pre.length < l.length := by rw [hp]; simp
    have hgd : l.getD ((pre.length : Int)).toNat ([] : List UInt8) = t := by rw [hp]; exact fC29 _ _ _ _
    have hb := (Small.tl hl)
    have htl : tl l = tl pre + (t.length + tl suf) := by rw [hp, fD48, fC48]
    refine go_d (by omega) (go_t (inB_nat hlt) (go_d hlt ?_))
    rw [hgd, show IntKind.i64.wrap (((tl pre : Nat) : Int) + (t.length : Int)) = ((tl pre + t.length : Nat) : Int) by rw [wrap_i64] <;> omega]
    refine go_n (by omega) ?_
    rw [wrap_succ pre.length (by omega)]
    have ih := fD58 N l hl suf (pre ++ [t]) fuel (by rw [hp]; simp) (by simp at hf; omega)
    rw [show ((pre ++ [t]).length : Int) = ((pre.length + 1 : Nat) : Int) by simp, show tl (pre ++ [t]) = tl pre + t.length by rw [fD48, fC48]; simp [tl]] at ih
    exact ih
theorem fA64 (N : Nat) (l : List (List UInt8)) (hl : Small l) : ∀ (suf pre : List (List UInt8)) (fuel : Nat), l = pre ++ suf → suf.length < fuel → fB30.go N fuel l (tl pre : Nat) (pre.length : Int) = some (.inr ())
  | _, _, 0, _, h => absurd h (Nat.not_lt_zero _)
  | [], pre, fuel + 1, hp, _ => go_n (by rw [hp]; simp) rfl
  | t :: suf, pre, fuel + 1, hp, hf => by
    have hlt : pre.length < l.length := by rw [hp]; simp
    have hgd : l.getD ((pre.length : Int)).toNat ([] : List UInt8) = t := by rw [hp]; exact fC29 _ _ _ _
    have hb := (Small.tl hl)
    have htl : tl l = tl pre + (t.length + tl suf) := by rw [hp, fD48, fC48]
    refine go_d (by omega) (go_t (inB_nat hlt) ?_)
    rw [hgd, show IntKind.i64.wrap (((tl pre : Nat) : Int) + (t.length : Int)) = ((tl pre + t.length : Nat) : Int) by rw [wrap_i64] <;> omega]
    refine go_n (by omega) ?_
    rw [wrap_succ pre.length (by omega)]
    have ih := fA64 N l hl suf (pre ++ [t]) fuel (by rw [hp]; simp) (by simp at hf; omega)
    rw [show ((pre ++ [t]).length : Int) = ((pre.length + 1 : Nat) : Int) by simp, show tl (pre ++ [t]) = tl pre + t.length by rw [fD48, fC48]; simp [tl]] at ih
    exact ih
theorem fD77 (k : Nat) (l : List (List UInt8)) (hl : l.length ≤ 1000000000) : ∀ (suf pre : List (List UInt8)) (b : List UInt8) (fuel : Nat), l = pre ++ suf → b.length + tot suf ≤ 1000000000000 → suf.length < fuel →
    fC17.go (k + 9) fuel b l (l.length : Int) (pre.length : Int) = some ((b ++ suf.flatMap textB, ()), ())
  | _, _, _, 0, _, _, h => absurd h (Nat.not_lt_zero _)
  | [], pre, b, fuel + 1, hp, _, hf => go_n (by rw [hp]; simp) (by simp)
  | t :: suf, pre, b, fuel + 1, hp, hb, hf => by
    have hlt : pre.length < l.length := by rw [hp]; simp
    have hgd : l.getD ((pre.length : Int)).toNat ([] : List UInt8) = t := by rw [hp]; exact fC29 _ _ _ _
    rw [show tot (t :: suf) = t.length + 9 + tot suf by simp [tot]] at hb
    have h1 := fC52 t
    refine go_d (by omega) (go_t (inB_nat hlt) (go_d hlt ?_))
    rw [hgd]
    refine go_o (v := ((b ++ textB t, ()), ())) (go_o (fD83 k b t (by omega) (by omega)) rfl) ?_
    rw [wrap_succ pre.length (by omega)]
    have ih := fD77 k l hl suf (pre ++ [t]) (b ++ textB t) fuel (by rw [hp]; simp) (by rw [List.length_append]; omega) (by simp at hf; omega)
    rw [show ((pre ++ [t]).length : Int) = ((pre.length + 1 : Nat) : Int) by simp] at ih
    exact ih.trans (by simp)
theorem fA85 (k : Nat) (l : List (List UInt8)) (hl : l.length ≤ 1000000000) : ∀ (suf pre : List (List UInt8)) (b : List UInt8) (fuel : Nat), l = pre ++ suf → b.length + tot suf ≤ 1000000000000 → suf.length < fuel →
    fB29.go (k + 9) fuel l b (pre.length : Int) = some (b ++ suf.flatMap textB, ())
  | _, _, _, 0, _, _, h => absurd h (Nat.not_lt_zero _)
  | [], pre, b, fuel + 1, hp, _, hf => go_n (by rw [hp]; simp) (by simp)
  | t :: suf, pre, b, fuel + 1, hp, hb, hf => by
    have hlt : pre.length < l.length := by rw [hp]; simp
    have hgd : l.getD ((pre.length : Int)).toNat ([] : List UInt8) = t := by rw [hp]; exact fC29 _ _ _ _
    rw [show tot (t :: suf) = t.length + 9 + tot suf by simp [tot]] at hb
    have h1 := fC52 t
    refine go_d (by omega) (go_t (inB_nat hlt) ?_)
    rw [hgd]
    refine go_o (fC99 k t (by omega)) (go_t (room_t (by omega) (by omega)) ?_)
    rw [wrap_succ pre.length (by omega)]
    have ih := fA85 k l hl suf (pre ++ [t]) (b ++ textB t) fuel (by rw [hp]; simp) (by rw [List.length_append]; omega) (by simp at hf; omega)
    rw [show ((pre ++ [t]).length : Int) = ((pre.length + 1 : Nat) : Int) by simp] at ih
    exact ih.trans (by simp)

theorem put_ok (k : Nat) (l : List (List UInt8)) (hl : Small l) (hk : l.length < k) : fD6.run (k + 9) [] l = some ((recB l, ()), ()) := by
  have hs := Small.tl hl
  have ht := tl_tot l
  have h1 := wr_var k l.length [] (by simp)
  have h2 := (fC47 l.length).1
  rw [← fA55 l.length (by omega)] at h1
  exact go_o h1 (go_o (fB85 k l (by omega) l [] (varB l.length) (k + 9) rfl (by omega) (by omega)) rfl)
theorem fB93 (k : Nat) (l : List (List UInt8)) (hl : Small l) (hk : l.length < k) : fB12.run (k + 9) [] l = some ((recB l, ()), ()) := by
  have hs := Small.tl hl
  have ht := tl_tot l
  have h1 := wr_var k l.length [] (by simp)
  have h2 := (fC47 l.length).1
  rw [← fA55 l.length (by omega)] at h1
  exact go_o h1 (go_o (fD77 k l (by omega) l [] (varB l.length) (k + 9) rfl (by omega) (by omega)) rfl)

theorem fC91 (k : Nat) (l : List (List UInt8)) (hl : Small l) (hk : tot l + 9 < k) : fD7.run (k + 20) l = some (frame (recB l), 0, ()) := by
  have hs := Small.tl hl
  have ht := tl_tot l
  have hr := fB47 l
  have hl' : tot l + 9 ≤ 16777216 := hl
  exact go_o (fB68 (k + 20) l hl l [] (k + 20) rfl (by omega)) (go_o (v := (([], ()), ())) rfl (go_o (put_ok (k + 11) l hl (by omega)) (go_o (fB66 _ _ (by omega)) (go_o (fD76 k (recB l) (by omega) (by omega) (by omega)) (go_nd rfl rfl)))))
theorem fA82 (k : Nat) (l : List (List UInt8)) (hl : Small l) (hk : tot l + 9 < k) : fB20.run (k + 20) l = some (frame (recB l), 0, ()) := by
  have hs := Small.tl hl
  have ht := tl_tot l
  have hr := fB47 l
  have hl' : tot l + 9 ≤ 16777216 := hl
  exact go_o (fD58 (k + 20) l hl l [] (k + 20) rfl (by omega)) (go_o (v := (([], ()), ())) rfl (go_o (fB93 (k + 11) l hl (by omega)) (go_o (fB66 _ _ (by omega)) (go_o (fD76 k (recB l) (by omega) (by omega) (by omega)) (go_nd rfl rfl)))))
theorem fC88 (k : Nat) (l : List (List UInt8)) (hl : Small l) (hk : tot l + 9 < k) : fB14.run (k + 20) l = some (frame (recB l), 0, ()) := by
  have hs := Small.tl hl
  have ht := tl_tot l
  have hr := fB47 l
  have hl' : tot l + 9 ≤ 16777216 := hl
  have h1 := rf_var (k + 11) l.length (by omega)
  have h2 := (fC47 l.length).1
  rw [← fA55 l.length (by omega)] at h1
  exact go_o (fA64 (k + 20) l hl l [] (k + 20) rfl (by omega)) (go_o h1 (go_o (fA85 (k + 11) l (by omega) l [] (varB l.length) (k + 20) rfl (by omega) (by omega)) (go_o (fC97 k (recB l) (by omega) (by omega) (by omega)) (go_nd rfl rfl))))
end Go.Hay.YthlojpcjafefjaaGreat
