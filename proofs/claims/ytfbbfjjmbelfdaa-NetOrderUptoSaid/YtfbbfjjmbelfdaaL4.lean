import Derived.Test.YtfbbfjjmbelfdaaF
import Derived.Test.YtfbbfjjmbelfdaaHayZc
set_option linter.unusedVariables false
set_option linter.unusedSimpArgs false
namespace Go.Hay.Ytfbbfjjmbelfdaa
open Go Go.Hay Go.Proofs

theorem wr {x : Int} (h1 : -9223372036854775808 ≤ x) (h2 : x ≤ 9223372036854775807) : IntKind.i64.wrap x = x := by rw [IntKind.wrap_i64]; omega
theorem room_t {n b : Nat} (h : n * b ≤ 140737488355328) (h2 : n ≤ 140737488355328) : room n b = true := by simp [room, h, h2]
theorem pick2_same {Ω : Type} (b : Bool) (x : Option Ω) : pick2 b x x = x := by unfold pick2; cases b <;> simp
theorem inB_t {k : Int} {n : Nat} (h1 : 0 ≤ k) (h2 : k < n) : inB k n = true := by simp [inB, h1, h2]
theorem okB_t {a b : Int} {n : Nat} (h1 : 0 ≤ a) (h2 : a ≤ b) (h3 : b ≤ n) : okB a b n = true := by simp [okB, h1, h2, h3]

theorem F25_eq (N : Nat) (x : List UInt8) (h : x.length ≤ 1099511627776) : F25.fn N (x, ()) = some (x, ()) := by
  unfold F25.fn
  cases x with
  | nil => exact pick2_same _ _
  | cons a r =>
    have hr : room (0 + (a :: r).length) 1 = true := room_t (by simp at h ⊢; omega) (by simp at h ⊢; omega)
    simp only [hr, cond_true]
    rfl
theorem F25b_eq (N : Nat) (x : List UInt8) (h : x.length ≤ 1099511627776) : F25b.fn N (x, ()) = some (x, ()) := by
  unfold F25b.fn
  cases x with
  | nil => exact pick2_same _ _
  | cons a r =>
    have hr : room (0 + (a :: r).length) 1 = true := room_t (by simp at h ⊢; omega) (by simp at h ⊢; omega)
    simp only [hr, cond_true]
    rfl

abbrev Msg := Int × List UInt8

theorem F11_ok (N : Nat) (r : Int) (l : List Msg) (to : Int) (b : List UInt8) (hb : b.length ≤ 1099511627776) (hl : l.length ≤ 1099511627776) (hr : (l.length : Int) ≠ r) : F11.fn N ((r, l, ()), to, b, ()) = some ((r, l ++ [(to, b)], ()), 0, ()) := by
  have hd : decide ((l.length : Int) = r) = false := by simp [hr]
  have hq : room (l.length + [(to, b)].length) 32 = true := room_t (by simp; omega) (by simp; omega)
  simp only [F11.fn, hd, cond_false, F25_eq N b hb, obind, hq, cond_true]
  rfl
theorem F11_full (N : Nat) (r : Int) (l : List Msg) (to : Int) (b : List UInt8) (hr : (l.length : Int) = r) : F11.fn N ((r, l, ()), to, b, ()) = some ((r, l, ()), 50, ()) := by
  have hd : decide ((l.length : Int) = r) = true := by simp [hr]
  simp only [F11.fn, hd, cond_true]
  rfl
theorem F11b_ok (N : Nat) (r : Int) (l : List Msg) (to : Int) (b : List UInt8) (hb : b.length ≤ 1099511627776) (hl : l.length ≤ 1099511627776) (hr : (l.length : Int) ≠ r) : F11b.fn N ((r, l, ()), to, b, ()) = some ((r, l ++ [(to, b)], ()), 0, ()) := by
  have hd : decide ((l.length : Int) = r) = false := by simp [hr]
  have hq : room (l.length + [(to, b)].length) 32 = true := room_t (by simp; omega) (by simp; omega)
  simp only [F11b.fn, hd, cond_false, F25b_eq N b hb, obind, hq, cond_true]
  rfl

theorem F24_in (N : Nat) (r : Int) (l : List Msg) (i : Nat) (h : i < l.length) : F24.fn N ((r, l, ()), (i : Int), ()) = some (true, ()) := by
  have h1 : decide ((i : Int) ≥ 0) = true := by simp
  have h2 : decide ((i : Int) < l.length) = true := by simp [h]
  simp only [F24.fn, h1, cond_true, h2]
  rfl

theorem F10_in (N : Nat) (r : Int) (l : List Msg) (i : Nat) (h : i < l.length) (hb : (l.getD i (0, [])).2.length ≤ 1099511627776) :
    F10.fn N ((r, l, ()), (i : Int), ()) = some ((l.getD i (0, [])).1, (l.getD i (0, [])).2, true, ()) := by
  have h1 : inB (i : Int) l.length = true := inB_t (by omega) (by omega)
  have h2 : decide (i < l.length) = true := by simp [h]
  simp only [F10.fn, F24_in N r l i h, obind, Bool.not_true, cond_false, Int.toNat_natCast, h1, h2, cond_true, F25b_eq N _ hb]
  rfl

theorem F14_in (N : Nat) (r : Int) (l : List Msg) (i : Nat) (h : i < l.length) (hb : (l.getD i (0, [])).2.length ≤ 1099511627776) (hl : l.length ≤ 1099511627776) (hr : (l.length : Int) ≠ r) :
    F14.fn N ((r, l, ()), (i : Int), ()) = some ((r, l ++ [l.getD i (0, [])], ()), 0, ()) := by
  have h1 : inB (i : Int) l.length = true := inB_t (by omega) (by omega)
  have h2 : decide (i < l.length) = true := by simp [h]
  simp only [F14.fn, F24_in N r l i h, obind, Bool.not_true, cond_false, Int.toNat_natCast, h1, h2, cond_true, F11b_ok N r l _ _ hb hl hr]
  rfl

theorem F36_eq (N : Nat) (n : Int) (h0 : 0 ≤ n) (h : n ≤ 1099511627776) : F36.fn N ((), n, ()) = some ([], ()) := by
  have e0 : IntKind.i64.wrap (((0 : Nat) : Int) - ((0 : Nat) : Int)) = 0 := by rw [wr] <;> simp
  have e1 : IntKind.i64.wrap (n - 0) = n := by rw [wr] <;> omega
  have h1 : decide (n < 0) = false := by simp; omega
  by_cases hn : n > 0
  · have h2 : decide (n > 0) = true := by simp [hn]
    have h3 : (decide ((0 : Int) ≤ n) && room n.toNat 32) = true := by simp [h0]; exact room_t (by omega) (by omega)
    have h4 : okB 0 ((0 : Nat) : Int) 0 = true := rfl
    have h5 : okB 0 ((0 : Nat) : Int) (List.replicate n.toNat ((0 : Int), ([] : List UInt8))).length = true := okB_t (by simp) (by simp) (by simp; omega)
    simp only [F36.fn, e0, e1, h1, cond_false, h2, cond_true, h3, h4, h5]
    rfl
  · have h2 : decide (n > 0) = false := by simp [hn]
    simp only [F36.fn, e0, e1, h1, cond_false, h2]
    rfl

theorem F26_0_eq (N k : Nat) (a b : List Msg) (h : a.length + b.length ≤ 1099511627776) : F26_0.g N (k + 3) ([a, b], 0, (), 2, 0, ()) = some (((a.length + b.length : Nat) : Int), ()) := by
  have w1 : IntKind.i64.wrap (0 + (a.length : Int)) = a.length := by rw [wr] <;> omega
  have w2 : IntKind.i64.wrap ((a.length : Int) + b.length) = a.length + b.length := by rw [wr] <;> omega
  have w3 : IntKind.i64.wrap ((0 : Int) + 1) = 1 := by rw [wr] <;> omega
  have w4 : IntKind.i64.wrap ((1 : Int) + 1) = 2 := by rw [wr] <;> omega
  have n1 : decide ((a.length : Int) < 0) = false := by simp
  have n2 : decide ((a.length : Int) + b.length < 0) = false := by simp; omega
  have s0 : F26_0.g N (k + 3) ([a, b], 0, (), 2, 0, ()) = F26_0.g N (k + 2) ([a, b], (a.length : Int), (), 2, 1, ()) := by
    show (bif decide (IntKind.i64.wrap (0 + (a.length : Int)) < 0) then none else F26_0.g N (k + 2) ([a, b], IntKind.i64.wrap (0 + (a.length : Int)), (), 2, IntKind.i64.wrap ((0 : Int) + 1), ())) = _
    rw [w1, n1, w3]
    rfl
  have s1 : F26_0.g N (k + 2) ([a, b], (a.length : Int), (), 2, 1, ()) = F26_0.g N (k + 1) ([a, b], (a.length : Int) + b.length, (), 2, 2, ()) := by
    show (bif decide (IntKind.i64.wrap ((a.length : Int) + (b.length : Int)) < 0) then none else F26_0.g N (k + 1) ([a, b], IntKind.i64.wrap ((a.length : Int) + (b.length : Int)), (), 2, IntKind.i64.wrap ((1 : Int) + 1), ())) = _
    rw [w2, n2, w4]
    rfl
  rw [s0, s1]
  show some (((a.length : Int) + b.length), PUnit.unit) = _
  simp

theorem F26_1_eq (N k : Nat) (a b : List Msg) (h : a.length + b.length ≤ 1099511627776) : F26_1.g N (k + 3) ([], [a, b], 2, 0, ()) = some (a ++ b, ()) := by
  have w3 : IntKind.i64.wrap ((0 : Int) + 1) = 1 := by rw [wr] <;> omega
  have w4 : IntKind.i64.wrap ((1 : Int) + 1) = 2 := by rw [wr] <;> omega
  have r1 : room (([] : List Msg).length + a.length) 32 = true := room_t (by simp; omega) (by simp; omega)
  have r2 : room (([] ++ a : List Msg).length + b.length) 32 = true := room_t (by simp; omega) (by simp; omega)
  have s0 : F26_1.g N (k + 3) ([], [a, b], 2, 0, ()) = F26_1.g N (k + 2) ([] ++ a, [a, b], 2, 1, ()) := by
    show (bif room (([] : List Msg).length + a.length) 32 then F26_1.g N (k + 2) ([] ++ a, [a, b], 2, IntKind.i64.wrap ((0 : Int) + 1), ()) else none) = _
    rw [r1, w3]
    rfl
  have s1 : F26_1.g N (k + 2) ([] ++ a, [a, b], 2, 1, ()) = F26_1.g N (k + 1) ([] ++ a ++ b, [a, b], 2, 2, ()) := by
    show (bif room (([] ++ a : List Msg).length + b.length) 32 then F26_1.g N (k + 1) ([] ++ a ++ b, [a, b], 2, IntKind.i64.wrap ((1 : Int) + 1), ()) else none) = _
    rw [r2, w4]
    rfl
  rw [s0, s1]
  rfl

theorem F26_eq (k : Nat) (a b : List Msg) (h : a.length + b.length ≤ 1099511627776) : F26.fn (k + 3) ([a, b], ()) = some (a ++ b, ()) := by
  have e0 := F26_0_eq (k + 3) k a b h
  have e1 := F36_eq (k + 3) ((a.length + b.length : Nat) : Int) (by omega) (by omega)
  have e2 := F26_1_eq (k + 3) k a b h
  show obind (F26_0.g (k + 3) (k + 3) ([a, b], 0, (), 2, 0, ())) _ = _
  rw [e0]
  show obind (F36.fn (k + 3) ((), ((a.length + b.length : Nat) : Int), ())) _ = _
  rw [e1]
  show obind (F26_1.g (k + 3) (k + 3) ([], [a, b], 2, 0, ())) _ = _
  rw [e2]
  rfl

theorem F13_in (k : Nat) (r : Int) (l : List Msg) (i : Nat) (h : i < l.length) (hl : l.length ≤ 1099511627776) : F13.fn (k + 3) ((r, l, ()), (i : Int), ()) = some ((r, l.take i ++ l.drop (i + 1), ()), true, ()) := by
  have w1 : IntKind.i64.wrap ((i : Int) + 1) = ((i + 1 : Nat) : Int) := by rw [wr] <;> omega
  have k1 : okB 0 (i : Int) l.length = true := okB_t (by omega) (by omega) (by omega)
  have k2 : okB ((i + 1 : Nat) : Int) (l.length : Int) l.length = true := okB_t (by omega) (by omega) (by omega)
  have e1 : List.take ((i : Int) - 0).toNat (List.drop (Int.toNat 0) l) = l.take i := by simp
  have e2 : List.take ((l.length : Int) - ((i + 1 : Nat) : Int)).toNat (List.drop (((i + 1 : Nat) : Int)).toNat l) = l.drop (i + 1) := by
    rw [Int.toNat_natCast]
    apply List.take_of_length_le
    rw [List.length_drop]
    omega
  simp only [F13.fn, F24_in (k + 3) r l i h, obind, Bool.not_true, cond_false, w1, k1, k2, cond_true, e1, e2]
  rw [F26_eq k _ _ (by rw [List.length_take, List.length_drop]; omega)]
  rfl

theorem F12_in (k : Nat) (r : Int) (l : List Msg) (i : Nat) (h : i < l.length) (hb : (l.getD i (0, [])).2.length ≤ 1099511627776) (hl : l.length ≤ 1099511627776) :
    F12.fn (k + 3) ((r, l, ()), (i : Int), ()) = some ((r, l.take i ++ l.drop (i + 1), ()), (l.getD i (0, [])).1, (l.getD i (0, [])).2, true, ()) := by
  simp only [F12.fn, F10_in (k + 3) r l i h hb, obind, F13_in k r l i h hl]
  rfl

theorem F9_eq (k : Nat) (room : Int) : F9.fn (k + 3) (room, ()) = some ((max room 0, [], ()), true, ()) := by
  have e0 : F23.fn (k + 3) (2, ()) = some ((2, [], ()), ()) := rfl
  have e1 : F11.fn (k + 3) ((2, [], ()), 3, [Hay.u8 7], ()) = some ((2, [(3, [Hay.u8 7])], ()), 0, ()) := F11_ok (k + 3) 2 [] 3 [Hay.u8 7] (by simp) (by simp) (by simp)
  have e2 : F14.fn (k + 3) ((2, [(3, [Hay.u8 7])], ()), 0, ()) = some ((2, [(3, [Hay.u8 7]), (3, [Hay.u8 7])], ()), 0, ()) := F14_in (k + 3) 2 [(3, [Hay.u8 7])] 0 (by simp) (by simp) (by simp) (by simp)
  have e3 : F11.fn (k + 3) ((2, [(3, [Hay.u8 7]), (3, [Hay.u8 7])], ()), 3, [], ()) = some ((2, [(3, [Hay.u8 7]), (3, [Hay.u8 7])], ()), 50, ()) := F11_full (k + 3) 2 [(3, [Hay.u8 7]), (3, [Hay.u8 7])] 3 [] (by simp)
  have e4 : F12.fn (k + 3) ((2, [(3, [Hay.u8 7]), (3, [Hay.u8 7])], ()), 1, ()) = some ((2, [(3, [Hay.u8 7])], ()), 3, [Hay.u8 7], true, ()) := F12_in k 2 [(3, [Hay.u8 7]), (3, [Hay.u8 7])] 1 (by simp) (by simp) (by simp)
  unfold F9.fn
  rw [show F23.fn (k + 3) ((2 : Int), PUnit.unit) = some ((2, [], ()), ()) from e0]
  simp only [obind, e1]
  rw [show F14.fn (k + 3) ((2, [(3, [Hay.u8 7])], PUnit.unit), (0 : Int), PUnit.unit) = _ from e2]
  simp only [obind, e3, e4]
  rfl

end Go.Hay.Ytfbbfjjmbelfdaa
