/- Records as bytes, and back: the program's and the document's tell the same. Conditions: sizes below a bound. -/
import Derived.Test.YthlojpcjafefjaaGreatLh
set_option linter.unusedVariables false
set_option linter.unusedSimpArgs false
namespace Go.Hay.YthlojpcjafefjaaGreat
open Go Go.Hay Go.Proofs

/-! ### Records as bytes -/
/-- Records one behind the other. -/
def recB (l : List (List UInt8)) : List UInt8 := varB l.length ++ l.flatMap textB
/-- How many bytes records have. -/
def tl (l : List (List UInt8)) : Nat := (l.map (·.length)).sum
theorem fD47 (t : List UInt8) (l : List (List UInt8)) : tl (t :: l) = t.length + tl l := by simp [tl]
theorem fC47 (a b : List (List UInt8)) : tl (a ++ b) = tl a + tl b := by simp [tl]
theorem tl_tot (l : List (List UInt8)) : tot l = tl l + 9 * l.length := by
  induction l with
  | nil => simp [tot, tl]
  | cons t l ih => rw [fD47, List.length_cons, show tot (t :: l) = t.length + 9 + tot l by simp [tot], ih]; omega
theorem fD49 (l : List (List UInt8)) : (recB l).length ≤ tot l + 9 := by
  have h1 := (fA47 l.length).1
  have h2 := fB76 l
  unfold recB
  rw [List.length_append]; omega
/-- Few enough for a frame. -/
def Small (l : List (List UInt8)) : Prop := tot l + 9 ≤ 16777216
theorem Small.tl {l : List (List UInt8)} (h : Small l) : tl l ≤ 16777216 ∧ l.length ≤ 16777216 := by
  have := tl_tot l
  unfold Small at h
  omega

theorem fA66 (N : Nat) (l : List (List UInt8)) (hl : Small l) : ∀ (suf pre : List (List UInt8)) (fuel : Nat), l = pre ++ suf → suf.length < fuel → fA19.go N fuel (tl pre : Nat) l (l.length : Int) (pre.length : Int) = some (.inr ())
  | _, _, 0, _, h => absurd h (Nat.not_lt_zero _)
  | [], pre, fuel + 1, hp, _ => go_n (by rw [hp]; simp) rfl
  | t :: suf, pre, fuel + 1, hp, hf => by
    have hlt : pre.length < l.length := by rw [hp]; simp
    have hgd : l.getD ((pre.length : Int)).toNat ([] : List UInt8) = t := by rw [hp]; exact fB32 _ _ _ _
    have hb := (Small.tl hl)
    have htl : tl l = tl pre + (t.length + tl suf) := by rw [hp, fC47, fD47]
    refine go_d (by omega) (go_t (inB_nat hlt) ?_)
    rw [hgd, show IntKind.i64.wrap (((tl pre : Nat) : Int) + (t.length : Int)) = ((tl pre + t.length : Nat) : Int) by rw [wrap_i64] <;> omega]
    refine go_n (by omega) ?_
    rw [wrap_succ pre.length (by omega)]
    have ih := fA66 N l hl suf (pre ++ [t]) fuel (by rw [hp]; simp) (by simp at hf; omega)
    rw [show ((pre ++ [t]).length : Int) = ((pre.length + 1 : Nat) : Int) by simp, show tl (pre ++ [t]) = tl pre + t.length by rw [fC47, fD47]; simp [tl]] at ih
    exact ih
theorem fD58 (N : Nat) (l : List (List UInt8)) (hl : Small l) : ∀ (suf pre : List (List UInt8)) (fuel : Nat), l = pre ++ suf → suf.length < fuel → fA27.go N fuel (tl pre : Nat) l (l.length : Int) (pre.length : Int) = some (.inr ())
  | _, _, 0, _, h => absurd h (Nat.not_lt_zero _)
  | [], pre, fuel + 1, hp, _ => go_n (by rw [hp]; simp) rfl
  | t :: suf, pre, fuel + 1, hp, hf => by
    have hlt : pre.length < l.length := by rw [hp]; simp
    have hgd : l.getD ((pre.length : Int)).toNat ([] : List UInt8) = t := by rw [hp]; exact fB32 _ _ _ _
    have hb := (Small.tl hl)
    have htl : tl l = tl pre + (t.length + tl suf) := by rw [hp, fC47, fD47]
    refine go_d (by omega) (go_t (inB_nat hlt) (go_d hlt ?_))
    rw [hgd, show IntKind.i64.wrap (((tl pre : Nat) : Int) + (t.length : Int)) = ((tl pre + t.length : Nat) : Int) by rw [wrap_i64] <;> omega]
    refine go_n (by omega) ?_
    rw [wrap_succ pre.length (by omega)]
    have ih := fD58 N l hl suf (pre ++ [t]) fuel (by rw [hp]; simp) (by simp at hf; omega)
    rw [show ((pre ++ [t]).length : Int) = ((pre.length + 1 : Nat) : Int) by simp, show tl (pre ++ [t]) = tl pre + t.length by rw [fC47, fD47]; simp [tl]] at ih
    exact ih
theorem fA63 (N : Nat) (l : List (List UInt8)) (hl : Small l) : ∀ (suf pre : List (List UInt8)) (fuel : Nat), l = pre ++ suf → suf.length < fuel → fC29.go N fuel l (tl pre : Nat) (pre.length : Int) = some (.inr ())
  | _, _, 0, _, h => absurd h (Nat.not_lt_zero _)
  | [], pre, fuel + 1, hp, _ => go_n (by rw [hp]; simp) rfl
  | t :: suf, pre, fuel + 1, hp, hf => by
    have hlt : pre.length < l.length := by rw [hp]; simp
    have hgd : l.getD ((pre.length : Int)).toNat ([] : List UInt8) = t := by rw [hp]; exact fB32 _ _ _ _
    have hb := (Small.tl hl)
    have htl : tl l = tl pre + (t.length + tl suf) := by rw [hp, fC47, fD47]
    refine go_d (by omega) (go_t (inB_nat hlt) ?_)
    rw [hgd, show IntKind.i64.wrap (((tl pre : Nat) : Int) + (t.length : Int)) = ((tl pre + t.length : Nat) : Int) by rw [wrap_i64] <;> omega]
    refine go_n (by omega) ?_
    rw [wrap_succ pre.length (by omega)]
    have ih := fA63 N l hl suf (pre ++ [t]) fuel (by rw [hp]; simp) (by simp at hf; omega)
    rw [show ((pre ++ [t]).length : Int) = ((pre.length + 1 : Nat) : Int) by simp, show tl (pre ++ [t]) = tl pre + t.length by rw [fC47, fD47]; simp [tl]] at ih
    exact ih
theorem fA78 (k : Nat) (l : List (List UInt8)) (hl : l.length ≤ 1000000000) : ∀ (suf pre : List (List UInt8)) (b : List UInt8) (fuel : Nat), l = pre ++ suf → b.length + tot suf ≤ 1000000000000 → suf.length < fuel →
    fA18.go (k + 9) fuel b l (l.length : Int) (pre.length : Int) = some ((b ++ suf.flatMap textB, ()), ())
  | _, _, _, 0, _, _, h => absurd h (Nat.not_lt_zero _)
  | [], pre, b, fuel + 1, hp, _, hf => go_n (by rw [hp]; simp) (by simp)
  | t :: suf, pre, b, fuel + 1, hp, hb, hf => by
    have hlt : pre.length < l.length := by rw [hp]; simp
    have hgd : l.getD ((pre.length : Int)).toNat ([] : List UInt8) = t := by rw [hp]; exact fB32 _ _ _ _
    rw [show tot (t :: suf) = t.length + 9 + tot suf by simp [tot]] at hb
    have h1 := fC52 t
    refine go_d (by omega) (go_t (inB_nat hlt) (go_d hlt ?_))
    rw [hgd]
    refine go_o (v := ((b ++ textB t, ()), ())) (go_o (fA83 k b t (by omega) (by omega)) rfl) ?_
    rw [wrap_succ pre.length (by omega)]
    have ih := fA78 k l hl suf (pre ++ [t]) (b ++ textB t) fuel (by rw [hp]; simp) (by rw [List.length_append]; omega) (by simp at hf; omega)
    rw [show ((pre ++ [t]).length : Int) = ((pre.length + 1 : Nat) : Int) by simp] at ih
    exact ih.trans (by simp)
theorem fC82 (k : Nat) (l : List (List UInt8)) (hl : l.length ≤ 1000000000) : ∀ (suf pre : List (List UInt8)) (b : List UInt8) (fuel : Nat), l = pre ++ suf → b.length + tot suf ≤ 1000000000000 → suf.length < fuel →
    fC31.go (k + 9) fuel l b (pre.length : Int) = some (b ++ suf.flatMap textB, ())
  | _, _, _, 0, _, _, h => absurd h (Nat.not_lt_zero _)
  | [], pre, b, fuel + 1, hp, _, hf => go_n (by rw [hp]; simp) (by simp)
  | t :: suf, pre, b, fuel + 1, hp, hb, hf => by
    have hlt : pre.length < l.length := by rw [hp]; simp
    have hgd : l.getD ((pre.length : Int)).toNat ([] : List UInt8) = t := by rw [hp]; exact fB32 _ _ _ _
    rw [show tot (t :: suf) = t.length + 9 + tot suf by simp [tot]] at hb
    have h1 := fC52 t
    refine go_d (by omega) (go_t (inB_nat hlt) ?_)
    rw [hgd]
    refine go_o (fC98 k t (by omega)) (go_t (room_t (by omega) (by omega)) ?_)
    rw [wrap_succ pre.length (by omega)]
    have ih := fC82 k l hl suf (pre ++ [t]) (b ++ textB t) fuel (by rw [hp]; simp) (by rw [List.length_append]; omega) (by simp at hf; omega)
    rw [show ((pre ++ [t]).length : Int) = ((pre.length + 1 : Nat) : Int) by simp] at ih
    exact ih.trans (by simp)

theorem put_ok (k : Nat) (l : List (List UInt8)) (hl : Small l) (hk : l.length < k) : fA7.run (k + 9) [] l = some ((recB l, ()), ()) := by
  have hs := Small.tl hl
  have ht := tl_tot l
  have h1 := wr_var k l.length [] (by simp)
  have h2 := (fA47 l.length).1
  rw [← fD53 l.length (by omega)] at h1
  exact go_o h1 (go_o (fD80 k l (by omega) l [] (varB l.length) (k + 9) rfl (by omega) (by omega)) rfl)
theorem fB88 (k : Nat) (l : List (List UInt8)) (hl : Small l) (hk : l.length < k) : fC11.run (k + 9) [] l = some ((recB l, ()), ()) := by
  have hs := Small.tl hl
  have ht := tl_tot l
  have h1 := wr_var k l.length [] (by simp)
  have h2 := (fA47 l.length).1
  rw [← fD53 l.length (by omega)] at h1
  exact go_o h1 (go_o (fA78 k l (by omega) l [] (varB l.length) (k + 9) rfl (by omega) (by omega)) rfl)

theorem fC90 (k : Nat) (l : List (List UInt8)) (hl : Small l) (hk : tot l + 9 < k) : fD7.run (k + 20) l = some (frame (recB l), 0, ()) := by
  have hs := Small.tl hl
  have ht := tl_tot l
  have hr := fD49 l
  have hl' : tot l + 9 ≤ 16777216 := hl
  exact go_o (fA66 (k + 20) l hl l [] (k + 20) rfl (by omega)) (go_o (v := (([], ()), ())) rfl (go_o (put_ok (k + 11) l hl (by omega)) (go_o (fA64 _ _ (by omega)) (go_o (fC73 k (recB l) (by omega) (by omega) (by omega)) (go_nd rfl rfl)))))
theorem fC80 (k : Nat) (l : List (List UInt8)) (hl : Small l) (hk : tot l + 9 < k) : fB20.run (k + 20) l = some (frame (recB l), 0, ()) := by
  have hs := Small.tl hl
  have ht := tl_tot l
  have hr := fD49 l
  have hl' : tot l + 9 ≤ 16777216 := hl
  exact go_o (fD58 (k + 20) l hl l [] (k + 20) rfl (by omega)) (go_o (v := (([], ()), ())) rfl (go_o (fB88 (k + 11) l hl (by omega)) (go_o (fA64 _ _ (by omega)) (go_o (fC73 k (recB l) (by omega) (by omega) (by omega)) (go_nd rfl rfl)))))
theorem fA85 (k : Nat) (l : List (List UInt8)) (hl : Small l) (hk : tot l + 9 < k) : fD13.run (k + 20) l = some (frame (recB l), 0, ()) := by
  have hs := Small.tl hl
  have ht := tl_tot l
  have hr := fD49 l
  have hl' : tot l + 9 ≤ 16777216 := hl
  have h1 := rf_var (k + 11) l.length (by omega)
  have h2 := (fA47 l.length).1
  rw [← fD53 l.length (by omega)] at h1
  exact go_o (fA63 (k + 20) l hl l [] (k + 20) rfl (by omega)) (go_o h1 (go_o (fC82 (k + 11) l (by omega) l [] (varB l.length) (k + 20) rfl (by omega) (by omega)) (go_o (fD94 k (recB l) (by omega) (by omega) (by omega)) (go_nd rfl rfl))))
end Go.Hay.YthlojpcjafefjaaGreat
