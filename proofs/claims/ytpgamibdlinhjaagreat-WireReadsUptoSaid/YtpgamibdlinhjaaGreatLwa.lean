/- Messages as bytes: what is written, what is read, field by field; what is written is read as it was, and what is read is written so. Conditions: numbers that fit. -/
import Derived.Test.YtpgamibdlinhjaaGreatLi
import Derived.Test.YtpgamibdlinhjaaGreatLrg
set_option linter.unusedVariables false
set_option linter.unusedSimpArgs false
namespace Go.Hay.YtpgamibdlinhjaaGreat
open Go Go.Hay Go.Proofs

abbrev V := Rw.V
abbrev Ver := (Int × Int) × (List V × Int)
abbrev Ins := (Int × Int) × Ver
abbrev Ers := (Int × Int) × (Int × Int)
instance decV : DecidableEq V := inferInstance
instance decR : DecidableEq (List V × Int) := inferInstance
instance decVer : DecidableEq Ver := inferInstance
instance decIns : DecidableEq Ins := inferInstance
/-- A message. -/
structure Msg where
  jA : Int
  jB_ : Int
  jC_ : Int
  jD : Int
  jE : Int
  jF : Int
  jG : Int
  jH : Int
  jI : Int
  jJ : Int
  jK : Int
  jL : Bool
  jM : Bool
  jN : Bool
  jO_ : Int × Int
  jP : List Ins
  jP1 : List Ers
  jQ : List Ver
noncomputable instance : DecidableEq Msg := fun _ _ => Classical.propDecidable _
/-- Numbers that fit their kinds. -/
def U64 (n : Int) : Prop := 0 ≤ n ∧ n < 18446744073709551616
def U32 (n : Int) : Prop := 0 ≤ n ∧ n < 4294967296
def I64 (n : Int) : Prop := -9223372036854775808 ≤ n ∧ n < 9223372036854775808
def FVer (x : Ver) : Prop := U64 x.1.1 ∧ U32 x.1.2 ∧ Rw.fitsL x.2.1 ∧ U64 x.2.2
def FIns (x : Ins) : Prop := I64 x.1.1 ∧ I64 x.1.2 ∧ FVer x.2
def FErs (x : Ers) : Prop := I64 x.1.1 ∧ I64 x.1.2 ∧ U64 x.2.1 ∧ U32 x.2.2

/-- What is written of numbers, truths, places, rows, names. -/
def wByte (n : Int) : List UInt8 := [Hay.u8 (IntKind.u8.wrap n)]
def wLong (n : Int) : List UInt8 := numB 8 n.toNat
def wWord (n : Int) : List UInt8 := numB 4 n.toNat
def wPlace (n : Int) : List UInt8 := varB (IntKind.u64.wrap n).toNat
def wTruth (t : Bool) : List UInt8 := [if t = true then 1 else 0]
def wRow (l : List V) : List UInt8 := textB (if Rw.rights l = true then Rw.enc l else [])
def oByte (n most : Int) : Bool := decide (0 ≤ n) && decide (n ≤ most)
def oPlace (n : Int) : Bool := oByte n 2147483647
def wIns (x : Ins) : List UInt8 := wPlace x.1.1 ++ (wPlace x.1.2 ++ (wWord x.2.1.2 ++ wRow x.2.2.1))
def oIns (x : Ins) : Bool := (decide (x.2.1.1 = 0) && decide (x.2.2.2 = 0)) && (oPlace x.1.1 && (oPlace x.1.2 && Rw.rights x.2.2.1))
def wErs (x : Ers) : List UInt8 := wPlace x.1.1 ++ (wPlace x.1.2 ++ (wLong x.2.1 ++ wWord x.2.2))
def oErs (x : Ers) : Bool := oPlace x.1.1 && oPlace x.1.2
def wVer (x : Ver) : List UInt8 := wLong x.1.1 ++ (wWord x.1.2 ++ (wRow x.2.1 ++ wLong x.2.2))
def oVer (x : Ver) : Bool := Rw.rights x.2.1
def wList {α : Type} (w : α → List UInt8) (l : List α) : List UInt8 := varB l.length ++ l.flatMap w

/-- A reader, and whether something was jT. -/
abbrev RS := List UInt8 × Int × Bool
def rByte (s : RS) (most : Int) : RS × Int := (((hiX s.1 s.2.1 1).1.1, (hiX s.1 s.2.1 1).1.2, s.2.2 || !oByte ((hiX s.1 s.2.1 1).2 : Nat) most), (((hiX s.1 s.2.1 1).2 : Nat) : Int))
def rLong (s : RS) : RS × Int := (((hiX s.1 s.2.1 8).1.1, (hiX s.1 s.2.1 8).1.2, s.2.2), (((hiX s.1 s.2.1 8).2 : Nat) : Int))
def rWord (s : RS) : RS × Int := (((hiX s.1 s.2.1 4).1.1, (hiX s.1 s.2.1 4).1.2, s.2.2), (((hiX s.1 s.2.1 4).2 : Nat) : Int))
def rPlace (s : RS) : RS × Int := (((varR s.1 s.2.1 2147483647).1.1, (varR s.1 s.2.1 2147483647).1.2, s.2.2), (((varR s.1 s.2.1 2147483647).2 : Nat) : Int))
def rTruth (s : RS) : RS × Bool := ((rByte s 1).1, decide ((rByte s 1).2 = 1))
def rRow (s : RS) : RS × List V :=
  (((textR s.1 s.2.1 16777216).1.1, (textR s.1 s.2.1 16777216).1.2, s.2.2 || (Rw.decode (textR s.1 s.2.1 16777216).2).isNone), (Rw.decode (textR s.1 s.2.1 16777216).2).getD [])
def rSeg (s : RS) : RS × (Int × Int) := ((rPlace (rPlace s).1).1, ((rPlace s).2, (rPlace (rPlace s).1).2))
def rName (s : RS) : RS × (Int × Int) := ((rWord (rLong s).1).1, ((rLong s).2, (rWord (rLong s).1).2))
def rIns (s : RS) : RS × Ins := ((rRow (rWord (rSeg s).1).1).1, ((rSeg s).2, ((0, (rWord (rSeg s).1).2), ((rRow (rWord (rSeg s).1).1).2, 0))))
def rErs (s : RS) : RS × Ers := ((rName (rSeg s).1).1, ((rSeg s).2, (rName (rSeg s).1).2))
def rVer (s : RS) : RS × Ver := ((rLong (rRow (rName s).1).1).1, ((rName s).2, ((rRow (rName s).1).2, (rLong (rRow (rName s).1).1).2)))
def failed (s : RS) : Bool := s.2.2 || !decide (s.2.1 = 0)
def rL {α : Type} (r : RS → RS × α) : Nat → RS → List α → RS × List α
  | 0, s, l => (s, l)
  | n + 1, s, l => if failed s = true then (s, l) else rL r n (r s).1 (l ++ [(r s).2])
def rList {α : Type} (r : RS → RS × α) (s : RS) : RS × List α := rL r (varR s.1 s.2.1 16777216).2 ((varR s.1 s.2.1 16777216).1.1, (varR s.1 s.2.1 16777216).1.2, s.2.2) []

/-- What is written is read as it was; what is read without a fault is written so; what was failed stays failed; jM bytes are added. -/
structure Cod {α : Type} (w : α → List UInt8) (o : α → Bool) (F : α → Prop) (r : RS → RS × α) : Prop where
  back : ∀ x rest, F x → o x = true → r (w x ++ rest, 0, false) = ((rest, 0, false), x)
  forth : ∀ b b' x, r (b, 0, false) = ((b', 0, false), x) → o x = true ∧ F x ∧ b = w x ++ b'
  stays : ∀ s b' x, r s = ((b', 0, false), x) → s.2 = (0, false)
  le : ∀ s, (r s).1.1.length ≤ s.1.length

theorem hi_le (b : List UInt8) (e : Int) (n : Nat) : (hiX b e n).1.1.length ≤ b.length := (hi_suf (List.suffix_refl b) e n).length_le
theorem fC93 {b b' : List UInt8} {e : Int} {n x : Nat} (h : hiX b e n = ((b', 0), x)) : e = 0 := by
  by_cases he : e = 0
  · exact he
  · rw [hi_bad he] at h; cases h; exact absurd rfl he
theorem fD92 {b b' : List UInt8} {n x : Nat} (h : hiX b 0 n = ((b', 0), x)) : x < 256 ^ n ∧ b = numB n x ++ b' := by
  by_cases hl : n > b.length
  · rw [fD93 hl] at h; cases h
  · have hl' : n ≤ b.length := by omega
    rw [hi_ok hl'] at h
    have h1 : b' = b.drop n := by cases h; rfl
    have h2 : x = toNum (b.take n) := by cases h; rfl
    have hlen : (b.take n).length = n := by rw [List.length_take]; omega
    have h3 := fB68 (b.take n)
    have h4 := fD86 (b.take n)
    rw [hlen] at h3 h4
    refine ⟨by rw [h2]; exact h3, ?_⟩
    rw [h1, h2, h4, List.take_append_drop]
theorem fC125 (n x : Nat) (rest : List UInt8) (h : x < 256 ^ n) : hiX (numB n x ++ rest) 0 n = ((rest, 0), x) := by
  have hl := fA9 n x
  have : n ≤ (numB n x ++ rest).length := by rw [List.length_append]; omega
  rw [hi_ok this, List.drop_left' hl, List.take_left' hl, fD85, Nat.mod_eq_of_lt h]

theorem fD2 : Cod wLong (fun _ => true) U64 rLong where
  back x rest hf _ := by
    obtain ⟨m, rfl⟩ := Int.eq_ofNat_of_zero_le hf.1
    have h1 := hf.2
    have := fC125 8 m rest (by omega)
    unfold rLong wLong
    rw [Int.toNat_natCast, this]
  forth b b' x h := by
    unfold rLong at h
    have e1 : (hiX b 0 8).1.1 = b' := congrArg (fun t => t.1.1) h
    have e2 : (hiX b 0 8).1.2 = 0 := congrArg (fun t => t.1.2.1) h
    have h0 : hiX b 0 8 = ((b', 0), (hiX b 0 8).2) := Prod.ext (Prod.ext e1 e2) rfl
    have hx : x = (((hiX b 0 8).2 : Nat) : Int) := (congrArg (fun t => t.2) h).symm
    obtain ⟨h1, h2⟩ := fD92 h0
    refine ⟨rfl, ⟨by omega, by rw [hx]; omega⟩, ?_⟩
    rw [hx]
    unfold wLong
    rw [Int.toNat_natCast]
    exact h2
  stays s b' x h := by
    unfold rLong at h
    have e1 : (hiX s.1 s.2.1 8).1.2 = 0 := congrArg (fun t => t.1.2.1) h
    have e2 : s.2.2 = false := congrArg (fun t => t.1.2.2) h
    have e3 : hiX s.1 s.2.1 8 = (((hiX s.1 s.2.1 8).1.1, 0), (hiX s.1 s.2.1 8).2) := Prod.ext (Prod.ext rfl e1) rfl
    exact Prod.ext (fC93 e3) e2
  le s := hi_le _ _ _
theorem fA88 : Cod wWord (fun _ => true) U32 rWord where
  back x rest hf _ := by
    obtain ⟨m, rfl⟩ := Int.eq_ofNat_of_zero_le hf.1
    have h1 := hf.2
    have := fC125 4 m rest (by omega)
    unfold rWord wWord
    rw [Int.toNat_natCast, this]
  forth b b' x h := by
    unfold rWord at h
    have e1 : (hiX b 0 4).1.1 = b' := congrArg (fun t => t.1.1) h
    have e2 : (hiX b 0 4).1.2 = 0 := congrArg (fun t => t.1.2.1) h
    have h0 : hiX b 0 4 = ((b', 0), (hiX b 0 4).2) := Prod.ext (Prod.ext e1 e2) rfl
    have hx : x = (((hiX b 0 4).2 : Nat) : Int) := (congrArg (fun t => t.2) h).symm
    obtain ⟨h1, h2⟩ := fD92 h0
    refine ⟨rfl, ⟨by omega, by rw [hx]; omega⟩, ?_⟩
    rw [hx]
    unfold wWord
    rw [Int.toNat_natCast]
    exact h2
  stays s b' x h := by
    unfold rWord at h
    have e1 : (hiX s.1 s.2.1 4).1.2 = 0 := congrArg (fun t => t.1.2.1) h
    have e2 : s.2.2 = false := congrArg (fun t => t.1.2.2) h
    have e3 : hiX s.1 s.2.1 4 = (((hiX s.1 s.2.1 4).1.1, 0), (hiX s.1 s.2.1 4).2) := Prod.ext (Prod.ext rfl e1) rfl
    exact Prod.ext (fC93 e3) e2
  le s := hi_le _ _ _

theorem fD81 {n most : Int} : oByte n most = true ↔ 0 ≤ n ∧ n ≤ most := by simp [oByte]
theorem fA119 {n : Nat} (h : n < 256) : wByte (n : Int) = numB 1 n := by
  unfold wByte
  rw [u8_nat, numB_one]
  where numB_one (n : Nat) : numB 1 n = [UInt8.ofNat (n % 256)] := by simp [numB]
theorem fC80 (most : Int) (hm : most < 256) : Cod wByte (fun n => oByte n most) (fun _ => True) (fun s => rByte s most) where
  back x rest _ ho := by
    obtain ⟨h1, h2⟩ := fD81.1 ho
    obtain ⟨m, rfl⟩ := Int.eq_ofNat_of_zero_le h1
    have h3 := fC125 1 m rest (by omega)
    have h4 : wByte ((m : Nat) : Int) = numB 1 m := fA119 (by omega)
    unfold rByte
    rw [h4, h3, ho]
    rfl
  forth b b' x h := by
    unfold rByte at h
    have e1 : (hiX b 0 1).1.1 = b' := congrArg (fun t => t.1.1) h
    have e2 : (hiX b 0 1).1.2 = 0 := congrArg (fun t => t.1.2.1) h
    have e3 : (false || !oByte ((hiX b 0 1).2 : Nat) most) = false := congrArg (fun t => t.1.2.2) h
    have h0 : hiX b 0 1 = ((b', 0), (hiX b 0 1).2) := Prod.ext (Prod.ext e1 e2) rfl
    have hx : x = (((hiX b 0 1).2 : Nat) : Int) := (congrArg (fun t => t.2) h).symm
    obtain ⟨h1, h2⟩ := fD92 h0
    have e4 : oByte ((hiX b 0 1).2 : Nat) most = true := by simpa using e3
    refine ⟨by rw [hx]; exact e4, trivial, ?_⟩
    rw [hx, fA119 (by omega)]
    exact h2
  stays s b' x h := by
    unfold rByte at h
    have e1 : (hiX s.1 s.2.1 1).1.2 = 0 := congrArg (fun t => t.1.2.1) h
    have e2 : (s.2.2 || !oByte ((hiX s.1 s.2.1 1).2 : Nat) most) = false := congrArg (fun t => t.1.2.2) h
    have e3 : hiX s.1 s.2.1 1 = (((hiX s.1 s.2.1 1).1.1, 0), (hiX s.1 s.2.1 1).2) := Prod.ext (Prod.ext rfl e1) rfl
    exact Prod.ext (fC93 e3) (Bool.or_eq_false_iff.1 e2).1
  le s := hi_le _ _ _
theorem fB86 : Cod wTruth (fun _ => true) (fun _ => True) rTruth where
  back x rest _ _ := by
    have h := (fC80 1 (by decide)).back (if x = true then 1 else 0) rest trivial (by cases x <;> rfl)
    have e : wByte (if x = true then 1 else 0) = wTruth x := by cases x <;> rfl
    rw [e] at h
    unfold rTruth
    rw [h]
    cases x <;> rfl
  forth b b' x h := by
    unfold rTruth at h
    have e1 : (rByte (b, 0, false) 1).1 = (b', 0, false) := congrArg (fun t => t.1) h
    have e2 : decide ((rByte (b, 0, false) 1).2 = 1) = x := congrArg (fun t => t.2) h
    obtain ⟨h1, _, h2⟩ := (fC80 1 (by decide)).forth b b' (rByte (b, 0, false) 1).2 (Prod.ext e1 rfl)
    obtain ⟨h3, h4⟩ := fD81.1 h1
    refine ⟨rfl, trivial, ?_⟩
    rw [h2]
    rcases (show (rByte (b, 0, false) 1).2 = 0 ∨ (rByte (b, 0, false) 1).2 = 1 by omega) with e | e
    · rw [e] at e2 ⊢; subst e2; rfl
    · rw [e] at e2 ⊢; subst e2; rfl
  stays s b' x h := by
    unfold rTruth at h
    have e1 : (rByte s 1).1 = (b', 0, false) := congrArg (fun t => t.1) h
    exact (fC80 1 (by decide)).stays s b' (rByte s 1).2 (Prod.ext e1 rfl)
  le s := (fC80 1 (by decide)).le s

theorem var_le (b : List UInt8) (e most : Int) : (varR b e most).1.1.length ≤ b.length := (fC90 (List.suffix_refl b) e most).length_le
theorem fC128 {b b' : List UInt8} {e most : Int} {x : Nat} (h : varR b e most = ((b', 0), x)) : e = 0 := by
  by_cases he : e = 0
  · exact he
  · unfold varR at h; rw [if_pos he] at h; cases h; exact absurd rfl he
theorem fB130 {b b' : List UInt8} {most : Int} {x : Nat} (h : varR b 0 most = ((b', 0), x)) : (x : Int) ≤ most ∧ x < 18446744073709551616 ∧ b = varB x ++ b' := by
  unfold varR at h
  rw [if_neg (by decide)] at h
  split at h
  · rename_i y hq
    have := fB104 hq
    cases h
    exact absurd rfl this
  · rename_i n m hq
    obtain ⟨h1, h2⟩ := fC99 hq
    obtain ⟨h3, h4, h5, h6⟩ := fA116 h1
    cases h
    exact ⟨h2, h5, by rw [h6, List.take_append_drop]⟩
theorem fD138 (x : Nat) (most : Int) (rest : List UInt8) (h : (x : Int) ≤ most) (hx : x < 18446744073709551616) : varR (varB x ++ rest) 0 most = ((rest, 0), x) := by
  unfold varR varX
  rw [if_neg (by decide), fA127 x hx rest]
  simp only
  rw [if_neg (by omega)]
  simp only [List.drop_left]
theorem fB80 : Cod wPlace oPlace I64 rPlace where
  back x rest hf ho := by
    obtain ⟨h1, h2⟩ := fD81.1 ho
    obtain ⟨m, rfl⟩ := Int.eq_ofNat_of_zero_le h1
    have e : IntKind.u64.wrap ((m : Nat) : Int) = ((m : Nat) : Int) := by rw [w_u64]; omega
    have := fD138 m 2147483647 rest (by omega) (by omega)
    unfold rPlace wPlace
    rw [e, Int.toNat_natCast, this]
  forth b b' x h := by
    unfold rPlace at h
    have e1 : (varR b 0 2147483647).1.1 = b' := congrArg (fun t => t.1.1) h
    have e2 : (varR b 0 2147483647).1.2 = 0 := congrArg (fun t => t.1.2.1) h
    have h0 : varR b 0 2147483647 = ((b', 0), (varR b 0 2147483647).2) := Prod.ext (Prod.ext e1 e2) rfl
    have hx : x = (((varR b 0 2147483647).2 : Nat) : Int) := (congrArg (fun t => t.2) h).symm
    obtain ⟨h1, h2, h3⟩ := fB130 h0
    refine ⟨fD81.2 ⟨by omega, by omega⟩, ⟨by omega, by omega⟩, ?_⟩
    have e : IntKind.u64.wrap (((varR b 0 2147483647).2 : Nat) : Int) = (((varR b 0 2147483647).2 : Nat) : Int) := by rw [w_u64]; omega
    rw [hx]
    unfold wPlace
    rw [e, Int.toNat_natCast]
    exact h3
  stays s b' x h := by
    unfold rPlace at h
    have e1 : (varR s.1 s.2.1 2147483647).1.2 = 0 := congrArg (fun t => t.1.2.1) h
    have e2 : s.2.2 = false := congrArg (fun t => t.1.2.2) h
    have e3 : varR s.1 s.2.1 2147483647 = (((varR s.1 s.2.1 2147483647).1.1, 0), (varR s.1 s.2.1 2147483647).2) := Prod.ext (Prod.ext rfl e1) rfl
    exact Prod.ext (fC128 e3) e2
  le s := var_le _ _ _

theorem fC143 (b : List UInt8) (e most : Int) : (textR b e most).1.1.length ≤ b.length := (fB133 (List.suffix_refl b) e most).length_le
theorem fA122 {b b' t : List UInt8} {e most : Int} (h : textR b e most = ((b', 0), t)) : e = 0 := by
  by_cases he : e = 0
  · exact he
  · unfold textR at h; rw [if_pos he] at h; cases h; exact absurd rfl he
theorem fC120 {b b' t : List UInt8} {most : Int} (h : textR b 0 most = ((b', 0), t)) : b = textB t ++ b' := by
  unfold textR at h
  rw [if_neg (by decide)] at h
  split at h
  · rename_i y hq
    have := fB104 hq
    cases h
    exact absurd rfl this
  · rename_i n m hq
    obtain ⟨h1, h2⟩ := fC99 hq
    obtain ⟨h3, h4, h5, h6⟩ := fA116 h1
    split at h
    · cases h
    · rename_i hl
      cases h
      have e : ((b.drop m).take n).length = n := by rw [List.length_take]; omega
      unfold textB
      rw [e, h6, List.append_assoc, ← List.drop_drop, List.take_append_drop, List.take_append_drop]
theorem fA130 (t : List UInt8) (most : Int) (rest : List UInt8) (h : (t.length : Int) ≤ most) (hx : t.length < 18446744073709551616) : textR (textB t ++ rest) 0 most = ((rest, 0), t) := by
  unfold textR varX textB
  rw [if_neg (by decide), List.append_assoc, fA127 t.length hx (t ++ rest)]
  simp only
  rw [if_neg (by omega)]
  simp only [List.drop_left, List.take_left]
  rw [if_neg (by rw [List.length_append]; omega), ← List.drop_drop, List.drop_left, List.drop_left]
theorem fA102 : Cod wRow Rw.rights Rw.fitsL rRow where
  back x rest hf ho := by
    have hl := Rw.fA141 ho
    have := fA130 (Rw.enc x) 16777216 rest (by omega) (by omega)
    unfold rRow wRow
    rw [if_pos ho, this]
    simp only
    rw [Rw.fC121 ho hf]
    rfl
  forth b b' x h := by
    unfold rRow at h
    have e1 : (textR b 0 16777216).1.1 = b' := congrArg (fun t => t.1.1) h
    have e2 : (textR b 0 16777216).1.2 = 0 := congrArg (fun t => t.1.2.1) h
    have e3 : (false || (Rw.decode (textR b 0 16777216).2).isNone) = false := congrArg (fun t => t.1.2.2) h
    have e4 : (Rw.decode (textR b 0 16777216).2).getD [] = x := congrArg (fun t => t.2) h
    have h0 : textR b 0 16777216 = ((b', 0), (textR b 0 16777216).2) := Prod.ext (Prod.ext e1 e2) rfl
    cases hd : Rw.decode (textR b 0 16777216).2 with
    | none => rw [hd] at e3; cases e3
    | some l =>
      rw [hd] at e4
      simp only [Option.getD_some] at e4
      subst e4
      obtain ⟨g1, g2, g3⟩ := Rw.fB119 hd
      refine ⟨g1, g2, ?_⟩
      unfold wRow
      rw [if_pos g1, g3]
      exact fC120 h0
  stays s b' x h := by
    unfold rRow at h
    have e1 : (textR s.1 s.2.1 16777216).1.2 = 0 := congrArg (fun t => t.1.2.1) h
    have e2 : (s.2.2 || (Rw.decode (textR s.1 s.2.1 16777216).2).isNone) = false := congrArg (fun t => t.1.2.2) h
    have e3 : textR s.1 s.2.1 16777216 = (((textR s.1 s.2.1 16777216).1.1, 0), (textR s.1 s.2.1 16777216).2) := Prod.ext (Prod.ext rfl e1) rfl
    exact Prod.ext (fA122 e3) (Bool.or_eq_false_iff.1 e2).1
  le s := fC143 _ _ _
end Go.Hay.YtpgamibdlinhjaaGreat
