/- Rows and keys as bytes: what the functions that write them come to. Conditions: sizes below a bound. -/
import Derived.Test.YtpgamibdlinhjaaGreatLra
set_option linter.unusedVariables false
set_option linter.unusedSimpArgs false
namespace Go.Hay.YtpgamibdlinhjaaGreat.Rw
open Go Go.Hay Go.Proofs

theorem fA139 {v : V} (h : right v = true) : (enc1 v).length ≤ 66 := by
  rcases fD88 h with rfl | ⟨c, rfl⟩ | ⟨n, rfl⟩ | ⟨s, rfl, hs⟩ <;> simp [enc1, fD87]
  omega
/-- A row's bytes. -/
def encs (row : List V) : List UInt8 := row.flatMap enc1
def enc (row : List V) : List UInt8 := UInt8.ofNat row.length :: encs row
theorem fB135 : ∀ {row : List V}, row.all right = true → (encs row).length ≤ 66 * row.length
  | [], _ => by simp [encs]
  | v :: row, h => by
    simp only [List.all_cons, Bool.and_eq_true] at h
    have h1 := fA139 h.1
    have h2 := fB135 h.2
    simp only [encs, List.flatMap_cons, List.length_append, List.length_cons] at h2 ⊢
    omega
theorem fB90 {row : List V} (h : rights row = true) : row.all right = true ∧ row.length ≤ 16 := by
  unfold rights at h
  simp only [Bool.and_eq_true, decide_eq_true_eq] at h
  exact h

theorem fB101 (k : Nat) (row : List V) (hl : row.length ≤ 16) : ∀ (suf pre : List V) (b : List UInt8) (fuel : Nat), row = pre ++ suf → suf.all right = true → b.length ≤ 1 + 66 * pre.length → suf.length < fuel →
    fB29.go (k + 9) fuel row b (pre.length : Int) = some (b ++ encs suf, ())
  | _, _, _, 0, _, _, _, h => absurd h (Nat.not_lt_zero _)
  | [], pre, b, fuel + 1, e, _, _, _ => by
    rw [show encs [] = [] from rfl, List.append_nil]
    exact go_n (by rw [e]; simp) rfl
  | v :: suf, pre, b, fuel + 1, e, hr, hb, hf => by
    have hlt : pre.length < row.length := by rw [e]; simp
    have hgd : row.getD ((pre.length : Int)).toNat v0 = v := by rw [e]; exact fD74 _ _ _ _
    simp only [List.all_cons, Bool.and_eq_true] at hr
    have h1 := fA139 hr.1
    refine go_d (by omega) (go_t (inB_nat hlt) ?_)
    rw [hgd]
    refine go_o (fA149 k v hr.1) (go_t (room_t (by omega) (by omega)) ?_)
    rw [wrap_succ pre.length (by omega)]
    have ih := fB101 k row hl suf (pre ++ [v]) (b ++ enc1 v) fuel (by rw [e]; simp) hr.2 (by simp; omega) (by simp at hf; omega)
    rw [show ((pre ++ [v]).length : Int) = ((pre.length + 1 : Nat) : Int) by simp] at ih
    exact ih.trans (by simp [encs])

/-- What is told of writing a row. -/
def encR (row : List V) : Option (List UInt8 × Int × Unit) := if rights row = true then some (enc row, 0, ()) else some ([], 30, ())
theorem fC131 (k : Nat) (row : List V) (hl : row.length ≤ 1099511627776) (hN : row.length < k) : fB19.run (k + 9) row = encR row := by
  refine go_o (fD136 _ row hl (by omega)) ?_
  unfold encR
  cases h : rights row with
  | false => rfl
  | true =>
    obtain ⟨h1, h2⟩ := fB90 h
    refine go_f rfl (go_o (v := (enc row, ())) ?_ rfl)
    have e : Hay.u8 (IntKind.u8.wrap ((row.length : Nat) : Int)) = UInt8.ofNat row.length := u8_len row.length (by omega)
    rw [e]
    exact fB101 k row h2 row [] [UInt8.ofNat row.length] (k + 9) rfl h1 (by simp) (by omega)

/- Keys. -/
def esc (s : List UInt8) : List UInt8 := s.flatMap fun c => if c.toNat = 0 then [c, 255] else [c]
/-- A value's bytes in a key. -/
def key1 (v : V) : List UInt8 :=
  if v.1 = 2 then 2 :: num8 (IntKind.u64.wrap (IntKind.u64.wrap v.2.2.1 + 9223372036854775808)) else if v.1 = 3 then 3 :: (esc v.2.2.2 ++ [0, 0]) else enc1 v
def key (row : List V) : List UInt8 := row.flatMap key1

end Go.Hay.YtpgamibdlinhjaaGreat.Rw
