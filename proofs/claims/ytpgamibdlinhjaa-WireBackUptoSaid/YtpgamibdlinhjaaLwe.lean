/- What the functions of a pipe come to at whole messages. Conditions: sizes below a bound, numbers that fit. -/
import Derived.Test.YtpgamibdlinhjaaLwd
set_option linter.unusedVariables false
set_option linter.unusedSimpArgs false
namespace Go.Hay.Ytpgamibdlinhjaa
open Go Go.Hay Go.Proofs
structure BM (m : Msg) : Prop where
  F : FM m
  ins : ∀ x ∈ m.part, BIns x
  ers : ∀ x ∈ m.part1, BErs x
  vers : ∀ x ∈ m.versions, BVer x
theorem w_fields (k : Nat) (hk : 17000000 ≤ k) (m : Msg) (hm : BM m) {b : List UInt8} {wrong : Bool} (hb : b.length + ((letters m.kind).flatMap fun c => fw c m).length ≤ 10000000000000) :
    wire_pipe_fields.run (k + 20) b wrong m.kind m.from_ m.to_ m.txn m.base m.epoch m.since m.mark m.ask m.attempt m.node m.yes m.no m.wiped m.at_.1 m.at_.2 m.part m.part1 m.versions = some ((b ++ (letters m.kind).flatMap (fun c => fw c m), ()), ((), (), wrong || !((letters m.kind).all fun c => fo c m), ()), (m.kind, m.from_, m.to_, m.txn, m.base, m.epoch, m.since, m.mark, m.ask, m.attempt, m.node, m.yes, m.no, m.wiped, m.at_.1, m.at_.2, m.part, m.part1, m.versions, ()), !(letters m.kind).isEmpty, ()) := by
  by_cases e1 : (1 : Int) = m.kind
  · have hl : letters m.kind = [.x, .b, .p] := by rw [← e1]; rfl
    rw [hl] at hb ⊢
    simp only [List.flatMap_cons, List.flatMap_nil, fw, List.append_nil, List.length_append] at hb
    refine go_d e1 (go_o (k_wire_pipe_fields_f1 k hk (hm.F .x) (hm.F .b) hm.ins (hm.F .p).1.2 hm.ers (hm.F .p).2.2 (by omega)) ?_)
    simp only [List.flatMap_cons, List.flatMap_nil, fw, fo, List.all_cons, List.all_nil, List.append_nil, List.append_assoc, Bool.and_true, Bool.true_and, Bool.not_true, Bool.or_false, Bool.and_assoc, List.isEmpty_cons, Bool.not_false]
  refine go_n e1 ?_
  by_cases e2 : (2 : Int) = m.kind
  · have hl : letters m.kind = [.x, .y] := by rw [← e2]; rfl
    rw [hl] at hb ⊢
    simp only [List.flatMap_cons, List.flatMap_nil, fw, List.append_nil, List.length_append] at hb
    refine go_d e2 (go_o (k_wire_pipe_fields_f2 k hk (hm.F .x) (by omega)) ?_)
    simp only [List.flatMap_cons, List.flatMap_nil, fw, fo, List.all_cons, List.all_nil, List.append_nil, List.append_assoc, Bool.and_true, Bool.true_and, Bool.not_true, Bool.or_false, Bool.and_assoc, List.isEmpty_cons, Bool.not_false]
  refine go_n e2 ?_
  by_cases e3 : (3 : Int) = m.kind
  · have hl : letters m.kind = [.e, .x] := by rw [← e3]; rfl
    rw [hl] at hb ⊢
    simp only [List.flatMap_cons, List.flatMap_nil, fw, List.append_nil, List.length_append] at hb
    refine go_d e3 (go_o (k_wire_pipe_fields_f3 k hk (hm.F .e) (hm.F .x) (by omega)) ?_)
    simp only [List.flatMap_cons, List.flatMap_nil, fw, fo, List.all_cons, List.all_nil, List.append_nil, List.append_assoc, Bool.and_true, Bool.true_and, Bool.not_true, Bool.or_false, Bool.and_assoc, List.isEmpty_cons, Bool.not_false]
  refine go_n e3 ?_
  by_cases e4 : (4 : Int) = m.kind
  · have hl : letters m.kind = [.e, .m] := by rw [← e4]; rfl
    rw [hl] at hb ⊢
    simp only [List.flatMap_cons, List.flatMap_nil, fw, List.append_nil, List.length_append] at hb
    refine go_d e4 (go_o (k_wire_pipe_fields_f4 k hk (hm.F .e) (hm.F .m) (by omega)) ?_)
    simp only [List.flatMap_cons, List.flatMap_nil, fw, fo, List.all_cons, List.all_nil, List.append_nil, List.append_assoc, Bool.and_true, Bool.true_and, Bool.not_true, Bool.or_false, Bool.and_assoc, List.isEmpty_cons, Bool.not_false]
  refine go_n e4 ?_
  by_cases e5 : (5 : Int) = m.kind
  · have hl : letters m.kind = [.q, .e, .a] := by rw [← e5]; rfl
    rw [hl] at hb ⊢
    simp only [List.flatMap_cons, List.flatMap_nil, fw, List.append_nil, List.length_append] at hb
    refine go_d e5 (go_o (k_wire_pipe_fields_f5 k hk (hm.F .q) (hm.F .e) (by omega)) ?_)
    simp only [List.flatMap_cons, List.flatMap_nil, fw, fo, List.all_cons, List.all_nil, List.append_nil, List.append_assoc, Bool.and_true, Bool.true_and, Bool.not_true, Bool.or_false, Bool.and_assoc, List.isEmpty_cons, Bool.not_false]
  refine go_n e5 ?_
  by_cases e6 : (6 : Int) = m.kind
  · have hl : letters m.kind = [.q, .a, .n, .v] := by rw [← e6]; rfl
    rw [hl] at hb ⊢
    simp only [List.flatMap_cons, List.flatMap_nil, fw, List.append_nil, List.length_append] at hb
    refine go_d e6 (go_o (k_wire_pipe_fields_f6 k hk (hm.F .q) hm.vers (hm.F .v).2 (by omega)) ?_)
    simp only [List.flatMap_cons, List.flatMap_nil, fw, fo, List.all_cons, List.all_nil, List.append_nil, List.append_assoc, Bool.and_true, Bool.true_and, Bool.not_true, Bool.or_false, Bool.and_assoc, List.isEmpty_cons, Bool.not_false]
  refine go_n e6 ?_
  by_cases e7 : (7 : Int) = m.kind
  · have hl : letters m.kind = [.q, .e, .w] := by rw [← e7]; rfl
    rw [hl] at hb ⊢
    simp only [List.flatMap_cons, List.flatMap_nil, fw, List.append_nil, List.length_append] at hb
    refine go_d e7 (go_o (k_wire_pipe_fields_f7 k hk (hm.F .q) (hm.F .e) (by omega)) ?_)
    simp only [List.flatMap_cons, List.flatMap_nil, fw, fo, List.all_cons, List.all_nil, List.append_nil, List.append_assoc, Bool.and_true, Bool.true_and, Bool.not_true, Bool.or_false, Bool.and_assoc, List.isEmpty_cons, Bool.not_false]
  refine go_n e7 ?_
  by_cases e8 : (8 : Int) = m.kind
  · have hl : letters m.kind = [.d, .t, .a, .s, .e] := by rw [← e8]; rfl
    rw [hl] at hb ⊢
    simp only [List.flatMap_cons, List.flatMap_nil, fw, List.append_nil, List.length_append] at hb
    refine go_d e8 (go_o (k_wire_pipe_fields_f8 k hk (hm.F .t) (hm.F .s) (hm.F .e) (by omega)) ?_)
    simp only [List.flatMap_cons, List.flatMap_nil, fw, fo, List.all_cons, List.all_nil, List.append_nil, List.append_assoc, Bool.and_true, Bool.true_and, Bool.not_true, Bool.or_false, Bool.and_assoc, List.isEmpty_cons, Bool.not_false]
  refine go_n e8 ?_
  by_cases e9 : (9 : Int) = m.kind
  · have hl : letters m.kind = [.t, .a, .s, .e, .m, .v] := by rw [← e9]; rfl
    rw [hl] at hb ⊢
    simp only [List.flatMap_cons, List.flatMap_nil, fw, List.append_nil, List.length_append] at hb
    refine go_d e9 (go_o (k_wire_pipe_fields_f9 k hk (hm.F .t) (hm.F .s) (hm.F .e) (hm.F .m) hm.vers (hm.F .v).2 (by omega)) ?_)
    simp only [List.flatMap_cons, List.flatMap_nil, fw, fo, List.all_cons, List.all_nil, List.append_nil, List.append_assoc, Bool.and_true, Bool.true_and, Bool.not_true, Bool.or_false, Bool.and_assoc, List.isEmpty_cons, Bool.not_false]
  refine go_n e9 ?_
  by_cases e10 : (10 : Int) = m.kind
  · have hl : letters m.kind = [.t, .e] := by rw [← e10]; rfl
    rw [hl] at hb ⊢
    simp only [List.flatMap_cons, List.flatMap_nil, fw, List.append_nil, List.length_append] at hb
    refine go_d e10 (go_o (k_wire_pipe_fields_f10 k hk (hm.F .t) (hm.F .e) (by omega)) ?_)
    simp only [List.flatMap_cons, List.flatMap_nil, fw, fo, List.all_cons, List.all_nil, List.append_nil, List.append_assoc, Bool.and_true, Bool.true_and, Bool.not_true, Bool.or_false, Bool.and_assoc, List.isEmpty_cons, Bool.not_false]
  refine go_n e10 ?_
  by_cases e11 : (11 : Int) = m.kind
  · have hl : letters m.kind = [.m] := by rw [← e11]; rfl
    rw [hl] at hb ⊢
    simp only [List.flatMap_cons, List.flatMap_nil, fw, List.append_nil, List.length_append] at hb
    refine go_d e11 (go_o (k_wire_pipe_fields_f11 k hk (hm.F .m) (by omega)) ?_)
    simp only [List.flatMap_cons, List.flatMap_nil, fw, fo, List.all_cons, List.all_nil, List.append_nil, List.append_assoc, Bool.and_true, Bool.true_and, Bool.not_true, Bool.or_false, Bool.and_assoc, List.isEmpty_cons, Bool.not_false]
  refine go_n e11 ?_
  by_cases e12 : (12 : Int) = m.kind
  · have hl : letters m.kind = [.q] := by rw [← e12]; rfl
    rw [hl] at hb ⊢
    simp only [List.flatMap_cons, List.flatMap_nil, fw, List.append_nil, List.length_append] at hb
    refine go_d e12 (go_o (k_wire_pipe_fields_f12 k hk (hm.F .q) (by omega)) ?_)
    simp only [List.flatMap_cons, List.flatMap_nil, fw, fo, List.all_cons, List.all_nil, List.append_nil, List.append_assoc, Bool.and_true, Bool.true_and, Bool.not_true, Bool.or_false, Bool.and_assoc, List.isEmpty_cons, Bool.not_false]
  refine go_n e12 ?_
  have hl : letters m.kind = [] := by
    unfold letters
    rw [if_neg (fun h => e1 h.symm), if_neg (fun h => e2 h.symm), if_neg (fun h => e3 h.symm), if_neg (fun h => e4 h.symm), if_neg (fun h => e5 h.symm), if_neg (fun h => e6 h.symm), if_neg (fun h => e7 h.symm), if_neg (fun h => e8 h.symm), if_neg (fun h => e9 h.symm), if_neg (fun h => e10 h.symm), if_neg (fun h => e11 h.symm), if_neg (fun h => e12 h.symm)]
  rw [hl]
  simp only [List.flatMap_nil, List.append_nil, List.all_nil, Bool.not_true, Bool.or_false, List.isEmpty_nil]
theorem ersL_wrong : ∀ (n : Nat) (s : RS) (l : List Ers), (rL rErs n s l).1.2.2 = s.2.2
  | 0, s, l => rfl
  | n + 1, s, l => by
    rw [rL]
    split
    · rfl
    · exact (ersL_wrong n _ _).trans rfl
theorem long_wrong (s : RS) : (rLong s).1.2.2 = s.2.2 := rfl
theorem seg_wrong (s : RS) : (rSeg s).1.2.2 = s.2.2 := rfl
theorem ers_wrong (s : RS) : (rList rErs s).1.2.2 = s.2.2 := ersL_wrong _ _ _
theorem r_fields (k : Nat) (hk : 17000000 ≤ k) {b : List UInt8} {e : Int} {wrong : Bool} (o : Msg) (hb : b.length ≤ 1000000000000) :
    wire_pipe_fields_b.run (k + 20) b e wrong o.kind o.from_ o.to_ o.txn o.base o.epoch o.since o.mark o.ask o.attempt o.node o.yes o.no o.wiped o.at_.1 o.at_.2 o.part o.part1 o.versions = some (((frs (letters o.kind) (b, e, wrong) o).1.1, (frs (letters o.kind) (b, e, wrong) o).1.2.1, ()), ((), (), (frs (letters o.kind) (b, e, wrong) o).1.2.2, ()), ((frs (letters o.kind) (b, e, wrong) o).2.kind, (frs (letters o.kind) (b, e, wrong) o).2.from_, (frs (letters o.kind) (b, e, wrong) o).2.to_, (frs (letters o.kind) (b, e, wrong) o).2.txn, (frs (letters o.kind) (b, e, wrong) o).2.base, (frs (letters o.kind) (b, e, wrong) o).2.epoch, (frs (letters o.kind) (b, e, wrong) o).2.since, (frs (letters o.kind) (b, e, wrong) o).2.mark, (frs (letters o.kind) (b, e, wrong) o).2.ask, (frs (letters o.kind) (b, e, wrong) o).2.attempt, (frs (letters o.kind) (b, e, wrong) o).2.node, (frs (letters o.kind) (b, e, wrong) o).2.yes, (frs (letters o.kind) (b, e, wrong) o).2.no, (frs (letters o.kind) (b, e, wrong) o).2.wiped, (frs (letters o.kind) (b, e, wrong) o).2.at_.1, (frs (letters o.kind) (b, e, wrong) o).2.at_.2, (frs (letters o.kind) (b, e, wrong) o).2.part, (frs (letters o.kind) (b, e, wrong) o).2.part1, (frs (letters o.kind) (b, e, wrong) o).2.versions, ()), !(letters o.kind).isEmpty, ()) := by
  by_cases e1 : (1 : Int) = o.kind
  · have hl : letters o.kind = [.x, .b, .p] := by rw [← e1]; rfl
    rw [hl]
    exact go_d e1 (go_o (k_wire_pipe_fields_f1_b k hk hb) (by simp only [frs, fr, List.isEmpty_cons, Bool.not_false, ers_wrong]))
  refine go_n e1 ?_
  by_cases e2 : (2 : Int) = o.kind
  · have hl : letters o.kind = [.x, .y] := by rw [← e2]; rfl
    rw [hl]
    exact go_d e2 (go_o (k_wire_pipe_fields_f2_b k hk hb) (by simp only [frs, fr, List.isEmpty_cons, Bool.not_false]))
  refine go_n e2 ?_
  by_cases e3 : (3 : Int) = o.kind
  · have hl : letters o.kind = [.e, .x] := by rw [← e3]; rfl
    rw [hl]
    exact go_d e3 (go_o (k_wire_pipe_fields_f3_b k hk hb) (by simp only [frs, fr, List.isEmpty_cons, Bool.not_false, long_wrong, seg_wrong]))
  refine go_n e3 ?_
  by_cases e4 : (4 : Int) = o.kind
  · have hl : letters o.kind = [.e, .m] := by rw [← e4]; rfl
    rw [hl]
    exact go_d e4 (go_o (k_wire_pipe_fields_f4_b k hk hb) (by simp only [frs, fr, List.isEmpty_cons, Bool.not_false, long_wrong, seg_wrong]))
  refine go_n e4 ?_
  by_cases e5 : (5 : Int) = o.kind
  · have hl : letters o.kind = [.q, .e, .a] := by rw [← e5]; rfl
    rw [hl]
    exact go_d e5 (go_o (k_wire_pipe_fields_f5_b k hk hb) (by simp only [frs, fr, List.isEmpty_cons, Bool.not_false, long_wrong, seg_wrong]))
  refine go_n e5 ?_
  by_cases e6 : (6 : Int) = o.kind
  · have hl : letters o.kind = [.q, .a, .n, .v] := by rw [← e6]; rfl
    rw [hl]
    exact go_d e6 (go_o (k_wire_pipe_fields_f6_b k hk hb) (by simp only [frs, fr, List.isEmpty_cons, Bool.not_false]))
  refine go_n e6 ?_
  by_cases e7 : (7 : Int) = o.kind
  · have hl : letters o.kind = [.q, .e, .w] := by rw [← e7]; rfl
    rw [hl]
    exact go_d e7 (go_o (k_wire_pipe_fields_f7_b k hk hb) (by simp only [frs, fr, List.isEmpty_cons, Bool.not_false]))
  refine go_n e7 ?_
  by_cases e8 : (8 : Int) = o.kind
  · have hl : letters o.kind = [.d, .t, .a, .s, .e] := by rw [← e8]; rfl
    rw [hl]
    exact go_d e8 (go_o (k_wire_pipe_fields_f8_b k hk hb) (by simp only [frs, fr, List.isEmpty_cons, Bool.not_false, long_wrong, seg_wrong]))
  refine go_n e8 ?_
  by_cases e9 : (9 : Int) = o.kind
  · have hl : letters o.kind = [.t, .a, .s, .e, .m, .v] := by rw [← e9]; rfl
    rw [hl]
    exact go_d e9 (go_o (k_wire_pipe_fields_f9_b k hk hb) (by simp only [frs, fr, List.isEmpty_cons, Bool.not_false]))
  refine go_n e9 ?_
  by_cases e10 : (10 : Int) = o.kind
  · have hl : letters o.kind = [.t, .e] := by rw [← e10]; rfl
    rw [hl]
    exact go_d e10 (go_o (k_wire_pipe_fields_f10_b k hk hb) (by simp only [frs, fr, List.isEmpty_cons, Bool.not_false, long_wrong, seg_wrong]))
  refine go_n e10 ?_
  by_cases e11 : (11 : Int) = o.kind
  · have hl : letters o.kind = [.m] := by rw [← e11]; rfl
    rw [hl]
    exact go_d e11 (go_o (k_wire_pipe_fields_f11_b k hk hb) (by simp only [frs, fr, List.isEmpty_cons, Bool.not_false, long_wrong, seg_wrong]))
  refine go_n e11 ?_
  by_cases e12 : (12 : Int) = o.kind
  · have hl : letters o.kind = [.q] := by rw [← e12]; rfl
    rw [hl]
    exact go_d e12 (go_o (k_wire_pipe_fields_f12_b k hk hb) (by simp only [frs, fr, List.isEmpty_cons, Bool.not_false, long_wrong, seg_wrong]))
  refine go_n e12 ?_
  have hl : letters o.kind = [] := by
    unfold letters
    rw [if_neg (fun h => e1 h.symm), if_neg (fun h => e2 h.symm), if_neg (fun h => e3 h.symm), if_neg (fun h => e4 h.symm), if_neg (fun h => e5 h.symm), if_neg (fun h => e6 h.symm), if_neg (fun h => e7 h.symm), if_neg (fun h => e8 h.symm), if_neg (fun h => e9 h.symm), if_neg (fun h => e10 h.symm), if_neg (fun h => e11 h.symm), if_neg (fun h => e12 h.symm)]
  rw [hl]
  rfl
theorem w_all (k : Nat) (hk : 17000000 ≤ k) (m : Msg) (hm : BM m) {b : List UInt8} {wrong : Bool} (hb : b.length + (body m).length ≤ 10000000000000) : wire_pipe_all.run (k + 20) b wrong m.kind m.from_ m.to_ m.txn m.base m.epoch m.since m.mark m.ask m.attempt m.node m.yes m.no m.wiped m.at_.1 m.at_.2 m.part m.part1 m.versions = some ((b ++ body m, ()), ((), (), wrong || !(okM m), ()), (m.kind, m.from_, m.to_, m.txn, m.base, m.epoch, m.since, m.mark, m.ask, m.attempt, m.node, m.yes, m.no, m.wiped, m.at_.1, m.at_.2, m.part, m.part1, m.versions, ()), ()) := by
  unfold body at hb ⊢
  simp only [List.length_append] at hb
  have hl : ∀ n : Int, (wByte n).length = 1 := fun _ => rfl
  rw [hl, hl, hl] at hb
  refine go_o (k_wire_pipe_byte k hk (by rw [hl]; omega)) (go_o (k_wire_pipe_node k hk (by simp only [List.length_append, hl]; omega)) (go_o (k_wire_pipe_node_b k hk (by simp only [List.length_append, hl]; omega)) (go_o (w_fields k hk m hm (by simp only [List.length_append, hl]; omega)) (go_o (k_wire_pipe_must _ _ _ _) ?_))))
  simp only [okM, List.append_assoc, Bool.or_assoc, Bool.not_and]
theorem r_all (k : Nat) (hk : 17000000 ≤ k) {b : List UInt8} {e : Int} {wrong : Bool} (hb : b.length ≤ 1000000000000) : wire_pipe_all_b.run (k + 20) b e wrong (0 : Int) (0 : Int) (0 : Int) (0 : Int) (0 : Int) (0 : Int) (0 : Int) (0 : Int) (0 : Int) (0 : Int) (0 : Int) false false false (0 : Int) (0 : Int) ([] : List Ins) ([] : List Ers) ([] : List Ver) =
    some (((rAll (b, e, wrong)).1.1, (rAll (b, e, wrong)).1.2.1, ()), ((), (), (rAll (b, e, wrong)).1.2.2, ()), ((rAll (b, e, wrong)).2.kind, (rAll (b, e, wrong)).2.from_, (rAll (b, e, wrong)).2.to_, (rAll (b, e, wrong)).2.txn, (rAll (b, e, wrong)).2.base, (rAll (b, e, wrong)).2.epoch, (rAll (b, e, wrong)).2.since, (rAll (b, e, wrong)).2.mark, (rAll (b, e, wrong)).2.ask, (rAll (b, e, wrong)).2.attempt, (rAll (b, e, wrong)).2.node, (rAll (b, e, wrong)).2.yes, (rAll (b, e, wrong)).2.no, (rAll (b, e, wrong)).2.wiped, (rAll (b, e, wrong)).2.at_.1, (rAll (b, e, wrong)).2.at_.2, (rAll (b, e, wrong)).2.part, (rAll (b, e, wrong)).2.part1, (rAll (b, e, wrong)).2.versions, ()), ()) := by
  have q1 : (rByte (b, e, wrong) 255).1.1.length ≤ 1000000000000 := Nat.le_trans (hi_le _ _ _) hb
  have q2 : (rByte (rByte (b, e, wrong) 255).1 8).1.1.length ≤ 1000000000000 := Nat.le_trans (hi_le _ _ _) q1
  have q3 : (rHead (b, e, wrong)).1.1.length ≤ 1000000000000 := Nat.le_trans (hi_le _ _ _) q2
  refine go_o (k_wire_pipe_byte_f k hk hb) (go_o (k_wire_pipe_node_d k hk q1) (go_o (k_wire_pipe_node_e k hk q2) (go_o (r_fields k hk (head (rHead (b, e, wrong)).2.1 (rHead (b, e, wrong)).2.2.1 (rHead (b, e, wrong)).2.2.2) q3) (go_o (k_wire_pipe_must_b _ _ _ _ _) ?_))))
  rw [Bool.not_not]
  rfl

end Go.Hay.Ytpgamibdlinhjaa
