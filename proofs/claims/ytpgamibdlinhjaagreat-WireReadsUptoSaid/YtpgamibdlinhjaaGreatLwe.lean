/- What the functions of a pipe come to at whole messages. Conditions: sizes below a bound, numbers that fit. -/
import Derived.Test.YtpgamibdlinhjaaGreatLwd
set_option linter.unusedVariables false
set_option linter.unusedSimpArgs false
namespace Go.Hay.YtpgamibdlinhjaaGreat
open Go Go.Hay Go.Proofs
structure BM (m : Msg) : Prop where
  F : FM m
  ins : ∀ x ∈ m.jP, BIns x
  ers : ∀ x ∈ m.jP1, BErs x
  vers : ∀ x ∈ m.jQ, BVer x
theorem fD120 : ∀ (n : Nat) (s : RS) (l : List Ers), (rL rErs n s l).1.2.2 = s.2.2
  | 0, s, l => rfl
  | n + 1, s, l => by
    rw [rL]
    split
    · rfl
    · exact (fD120 n _ _).trans rfl
theorem fA83 (s : RS) : (rLong s).1.2.2 = s.2.2 := rfl
theorem fD84 (s : RS) : (rSeg s).1.2.2 = s.2.2 := rfl
theorem fA150 (s : RS) : (rList rErs s).1.2.2 = s.2.2 := fD120 _ _ _
theorem fB158 (k : Nat) (hk : 17000000 ≤ k) {b : List UInt8} {e : Int} {jT : Bool} (o : Msg) (hb : b.length ≤ 1000000000000) :
    fD32.run (k + 20) b e jT o.jA o.jB_ o.jC_ o.jD o.jE o.jF o.jG o.jH o.jI o.jJ o.jK o.jL o.jM o.jN o.jO_.1 o.jO_.2 o.jP o.jP1 o.jQ = some (((frs (fA1 o.jA) (b, e, jT) o).1.1, (frs (fA1 o.jA) (b, e, jT) o).1.2.1, ()), ((), (), (frs (fA1 o.jA) (b, e, jT) o).1.2.2, ()), ((frs (fA1 o.jA) (b, e, jT) o).2.jA, (frs (fA1 o.jA) (b, e, jT) o).2.jB_, (frs (fA1 o.jA) (b, e, jT) o).2.jC_, (frs (fA1 o.jA) (b, e, jT) o).2.jD, (frs (fA1 o.jA) (b, e, jT) o).2.jE, (frs (fA1 o.jA) (b, e, jT) o).2.jF, (frs (fA1 o.jA) (b, e, jT) o).2.jG, (frs (fA1 o.jA) (b, e, jT) o).2.jH, (frs (fA1 o.jA) (b, e, jT) o).2.jI, (frs (fA1 o.jA) (b, e, jT) o).2.jJ, (frs (fA1 o.jA) (b, e, jT) o).2.jK, (frs (fA1 o.jA) (b, e, jT) o).2.jL, (frs (fA1 o.jA) (b, e, jT) o).2.jM, (frs (fA1 o.jA) (b, e, jT) o).2.jN, (frs (fA1 o.jA) (b, e, jT) o).2.jO_.1, (frs (fA1 o.jA) (b, e, jT) o).2.jO_.2, (frs (fA1 o.jA) (b, e, jT) o).2.jP, (frs (fA1 o.jA) (b, e, jT) o).2.jP1, (frs (fA1 o.jA) (b, e, jT) o).2.jQ, ()), !(fA1 o.jA).isEmpty, ()) := by
  by_cases e1 : (1 : Int) = o.jA
  · have hl : fA1 o.jA = [.x, .b, .p] := by rw [← e1]; rfl
    rw [hl]
    exact go_d e1 (go_o (fA94 k hk hb) (by simp only [frs, fr, List.isEmpty_cons, Bool.not_false, fA150]))
  refine go_n e1 ?_
  by_cases e2 : (2 : Int) = o.jA
  · have hl : fA1 o.jA = [.x, .y] := by rw [← e2]; rfl
    rw [hl]
    exact go_d e2 (go_o (fD95 k hk hb) (by simp only [frs, fr, List.isEmpty_cons, Bool.not_false]))
  refine go_n e2 ?_
  by_cases e3 : (3 : Int) = o.jA
  · have hl : fA1 o.jA = [.e, .x] := by rw [← e3]; rfl
    rw [hl]
    exact go_d e3 (go_o (fB95 k hk hb) (by simp only [frs, fr, List.isEmpty_cons, Bool.not_false, fA83, fD84]))
  refine go_n e3 ?_
  by_cases e4 : (4 : Int) = o.jA
  · have hl : fA1 o.jA = [.e, .m] := by rw [← e4]; rfl
    rw [hl]
    exact go_d e4 (go_o (fA96 k hk hb) (by simp only [frs, fr, List.isEmpty_cons, Bool.not_false, fA83, fD84]))
  refine go_n e4 ?_
  by_cases e5 : (5 : Int) = o.jA
  · have hl : fA1 o.jA = [.q, .e, .a] := by rw [← e5]; rfl
    rw [hl]
    exact go_d e5 (go_o (fC95 k hk hb) (by simp only [frs, fr, List.isEmpty_cons, Bool.not_false, fA83, fD84]))
  refine go_n e5 ?_
  by_cases e6 : (6 : Int) = o.jA
  · have hl : fA1 o.jA = [.q, .a, .n, .v] := by rw [← e6]; rfl
    rw [hl]
    exact go_d e6 (go_o (fD94 k hk hb) (by simp only [frs, fr, List.isEmpty_cons, Bool.not_false]))
  refine go_n e6 ?_
  by_cases e7 : (7 : Int) = o.jA
  · have hl : fA1 o.jA = [.q, .e, .w] := by rw [← e7]; rfl
    rw [hl]
    exact go_d e7 (go_o (fB94 k hk hb) (by simp only [frs, fr, List.isEmpty_cons, Bool.not_false]))
  refine go_n e7 ?_
  by_cases e8 : (8 : Int) = o.jA
  · have hl : fA1 o.jA = [.d, .t, .a, .s, .e] := by rw [← e8]; rfl
    rw [hl]
    exact go_d e8 (go_o (fA95 k hk hb) (by simp only [frs, fr, List.isEmpty_cons, Bool.not_false, fA83, fD84]))
  refine go_n e8 ?_
  by_cases e9 : (9 : Int) = o.jA
  · have hl : fA1 o.jA = [.t, .a, .s, .e, .m, .v] := by rw [← e9]; rfl
    rw [hl]
    exact go_d e9 (go_o (fC94 k hk hb) (by simp only [frs, fr, List.isEmpty_cons, Bool.not_false]))
  refine go_n e9 ?_
  by_cases e10 : (10 : Int) = o.jA
  · have hl : fA1 o.jA = [.t, .e] := by rw [← e10]; rfl
    rw [hl]
    exact go_d e10 (go_o (fC92 k hk hb) (by simp only [frs, fr, List.isEmpty_cons, Bool.not_false, fA83, fD84]))
  refine go_n e10 ?_
  by_cases e11 : (11 : Int) = o.jA
  · have hl : fA1 o.jA = [.m] := by rw [← e11]; rfl
    rw [hl]
    exact go_d e11 (go_o (fA92 k hk hb) (by simp only [frs, fr, List.isEmpty_cons, Bool.not_false, fA83, fD84]))
  refine go_n e11 ?_
  by_cases e12 : (12 : Int) = o.jA
  · have hl : fA1 o.jA = [.q] := by rw [← e12]; rfl
    rw [hl]
    exact go_d e12 (go_o (fC91 k hk hb) (by simp only [frs, fr, List.isEmpty_cons, Bool.not_false, fA83, fD84]))
  refine go_n e12 ?_
  have hl : fA1 o.jA = [] := by
    unfold fA1
    rw [if_neg (fun h => e1 h.symm), if_neg (fun h => e2 h.symm), if_neg (fun h => e3 h.symm), if_neg (fun h => e4 h.symm), if_neg (fun h => e5 h.symm), if_neg (fun h => e6 h.symm), if_neg (fun h => e7 h.symm), if_neg (fun h => e8 h.symm), if_neg (fun h => e9 h.symm), if_neg (fun h => e10 h.symm), if_neg (fun h => e11 h.symm), if_neg (fun h => e12 h.symm)]
  rw [hl]
  rfl
theorem r_all (k : Nat) (hk : 17000000 ≤ k) {b : List UInt8} {e : Int} {jT : Bool} (hb : b.length ≤ 1000000000000) : fC28.run (k + 20) b e jT (0 : Int) (0 : Int) (0 : Int) (0 : Int) (0 : Int) (0 : Int) (0 : Int) (0 : Int) (0 : Int) (0 : Int) (0 : Int) false false false (0 : Int) (0 : Int) ([] : List Ins) ([] : List Ers) ([] : List Ver) =
    some (((rAll (b, e, jT)).1.1, (rAll (b, e, jT)).1.2.1, ()), ((), (), (rAll (b, e, jT)).1.2.2, ()), ((rAll (b, e, jT)).2.jA, (rAll (b, e, jT)).2.jB_, (rAll (b, e, jT)).2.jC_, (rAll (b, e, jT)).2.jD, (rAll (b, e, jT)).2.jE, (rAll (b, e, jT)).2.jF, (rAll (b, e, jT)).2.jG, (rAll (b, e, jT)).2.jH, (rAll (b, e, jT)).2.jI, (rAll (b, e, jT)).2.jJ, (rAll (b, e, jT)).2.jK, (rAll (b, e, jT)).2.jL, (rAll (b, e, jT)).2.jM, (rAll (b, e, jT)).2.jN, (rAll (b, e, jT)).2.jO_.1, (rAll (b, e, jT)).2.jO_.2, (rAll (b, e, jT)).2.jP, (rAll (b, e, jT)).2.jP1, (rAll (b, e, jT)).2.jQ, ()), ()) := by
  have q1 : (rByte (b, e, jT) 255).1.1.length ≤ 1000000000000 := Nat.le_trans (hi_le _ _ _) hb
  have q2 : (rByte (rByte (b, e, jT) 255).1 8).1.1.length ≤ 1000000000000 := Nat.le_trans (hi_le _ _ _) q1
  have q3 : (rHead (b, e, jT)).1.1.length ≤ 1000000000000 := Nat.le_trans (hi_le _ _ _) q2
  refine go_o (fD113 k hk hb) (go_o (fD111 k hk q1) (go_o (fA111 k hk q2) (go_o (fB158 k hk (head (rHead (b, e, jT)).2.1 (rHead (b, e, jT)).2.2.1 (rHead (b, e, jT)).2.2.2) q3) (go_o (fA22 _ _ _ _ _) ?_))))
  rw [Bool.not_not]
  rfl

end Go.Hay.YtpgamibdlinhjaaGreat
