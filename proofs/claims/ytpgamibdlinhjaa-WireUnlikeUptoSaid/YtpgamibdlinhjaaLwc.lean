/- What the functions of a pipe that write come to. Conditions: sizes below a bound, numbers that fit. -/
import Derived.Test.YtpgamibdlinhjaaLwb
set_option linter.unusedVariables false
set_option linter.unusedSimpArgs false
namespace Go.Hay.Ytpgamibdlinhjaa
open Go Go.Hay Go.Proofs
def BVer (x : Ver) : Prop := FVer x ∧ x.2.1.length ≤ 1048576
def BIns (x : Ins) : Prop := FIns x ∧ x.2.2.1.length ≤ 1048576
def BErs (x : Ers) : Prop := FErs x
theorem w_long (k : Nat) {n : Int} {b : List UInt8} (h : U64 n) (hb : b.length ≤ 10000000000000) : codec_Writer_Long.run (k + 20) b n = some ((b ++ wLong n, ()), ()) := by
  obtain ⟨m, rfl⟩ := Int.eq_ofNat_of_zero_le h.1
  unfold wLong
  rw [Int.toNat_natCast]
  exact go_o (wr_high (k + 11) m 8 b (by omega) (by omega)) rfl
theorem w_word (k : Nat) {n : Int} {b : List UInt8} (h : U32 n) (hb : b.length ≤ 10000000000000) : codec_Writer_Word.run (k + 20) b n = some ((b ++ wWord n, ()), ()) := by
  obtain ⟨m, rfl⟩ := Int.eq_ofNat_of_zero_le h.1
  unfold wWord
  rw [Int.toNat_natCast]
  exact wr_word (k + 11) m b (by have := h.2; omega) (by omega)
theorem w_place (k : Nat) {n : Int} {b : List UInt8} (hb : b.length ≤ 10000000000000) : codec_Writer_Var.run (k + 20) b (IntKind.u64.wrap n) = some ((b ++ wPlace n, ()), ()) := by
  have e : IntKind.u64.wrap n = (((IntKind.u64.wrap n).toNat : Nat) : Int) := by
    have : 0 ≤ IntKind.u64.wrap n := by rw [w_u64]; omega
    omega
  unfold wPlace
  generalize (IntKind.u64.wrap n).toNat = m at e ⊢
  rw [e]
  exact wr_var (k + 11) m b hb
theorem w_text (k : Nat) {t b : List UInt8} (hb : b.length + (textB t).length ≤ 10000000000000) : codec_Writer_Text.run (k + 20) b t = some ((b ++ textB t, ()), ()) := by
  have : t.length ≤ (textB t).length := by unfold textB; rw [List.length_append]; omega
  exact wr_text (k + 11) b t (by omega) (by omega)
theorem w_len (k : Nat) {n : Nat} {b : List UInt8} (hn : n ≤ 16777216) (hb : b.length ≤ 10000000000000) : codec_Writer_Var.run (k + 20) b (IntKind.u64.wrap (n : Int)) = some ((b ++ varB n, ()), ()) := by
  rw [u64_len n (by omega)]
  exact wr_var (k + 11) n b hb
section
variable {b : (List UInt8)} {wrong yes no wiped : Bool} {kind from_ to_ txn base epoch since mark ask attempt node at_ at1 most ver ver1 ver3 id_ id1 n_ deleted : Int} {part : (List T7)} {part1 : (List T8)} {versions : (List T6)} {ver2 row : (List T4)}
theorem k_wire_pipe_must (N : Nat) (b : List UInt8) (wrong ok_ : Bool) : wire_pipe_must.run N b wrong ok_ = some (((), ()), ((), (), wrong || !ok_, ()), ()) := by cases wrong <;> rfl
theorem k_wire_pipe_byte (k : Nat) (hk : 17000000 ≤ k)  (hb : b.length + ((wByte kind).length) ≤ 10000000000000) : wire_pipe_byte.run (k + 20) b wrong kind from_ to_ txn base epoch since mark ask attempt node yes no wiped at_ at1 part part1 versions most = some ((b ++ wByte kind, ()), ((), (), wrong || !(oByte kind most), ()), ()) := by
  have hq := wr_byte (k + 20) b (Hay.u8 (IntKind.u8.wrap kind)) (by omega)
  by_cases h : kind ≥ (0 : Int)
  · exact go_o hq (go_d h (go_o (k_wire_pipe_must _ _ _ _) (by simp [oByte, wByte, h])))
  · exact go_o hq (go_n h (go_o (k_wire_pipe_must _ _ _ _) (by simp [oByte, wByte, h])))
theorem k_wire_pipe_byte_b (k : Nat) (hk : 17000000 ≤ k)  (hb : b.length + ((wByte from_).length) ≤ 10000000000000) : wire_pipe_byte_b.run (k + 20) b wrong kind from_ to_ txn base epoch since mark ask attempt node yes no wiped at_ at1 part part1 versions most = some ((b ++ wByte from_, ()), ((), (), wrong || !(oByte from_ most), ()), (kind, from_, to_, txn, base, epoch, since, mark, ask, attempt, node, yes, no, wiped, at_, at1, part, part1, versions, ()), ()) := by
  have hq := wr_byte (k + 20) b (Hay.u8 (IntKind.u8.wrap from_)) (by omega)
  by_cases h : from_ ≥ (0 : Int)
  · exact go_o hq (go_d h (go_o (k_wire_pipe_must _ _ _ _) (by simp [oByte, wByte, h])))
  · exact go_o hq (go_n h (go_o (k_wire_pipe_must _ _ _ _) (by simp [oByte, wByte, h])))
theorem k_wire_pipe_node (k : Nat) (hk : 17000000 ≤ k)  (hb : b.length + ((wByte from_).length) ≤ 10000000000000) : wire_pipe_node.run (k + 20) b wrong kind from_ to_ txn base epoch since mark ask attempt node yes no wiped at_ at1 part part1 versions = some ((b ++ (wByte from_), ()), ((), (), wrong || !(oByte from_ (8 : Int)), ()), (kind, from_, to_, txn, base, epoch, since, mark, ask, attempt, node, yes, no, wiped, at_, at1, part, part1, versions, ()), ()) := by
  refine go_o (k_wire_pipe_byte_b k hk (by (try simp only [List.length_append]); omega)) (?_)
  simp only [List.append_assoc, Bool.or_assoc, Bool.not_and, Bool.not_true, Bool.or_false, Bool.true_and, Bool.and_true]
theorem k_wire_pipe_byte_c (k : Nat) (hk : 17000000 ≤ k)  (hb : b.length + ((wByte to_).length) ≤ 10000000000000) : wire_pipe_byte_c.run (k + 20) b wrong kind from_ to_ txn base epoch since mark ask attempt node yes no wiped at_ at1 part part1 versions most = some ((b ++ wByte to_, ()), ((), (), wrong || !(oByte to_ most), ()), (kind, from_, to_, txn, base, epoch, since, mark, ask, attempt, node, yes, no, wiped, at_, at1, part, part1, versions, ()), ()) := by
  have hq := wr_byte (k + 20) b (Hay.u8 (IntKind.u8.wrap to_)) (by omega)
  by_cases h : to_ ≥ (0 : Int)
  · exact go_o hq (go_d h (go_o (k_wire_pipe_must _ _ _ _) (by simp [oByte, wByte, h])))
  · exact go_o hq (go_n h (go_o (k_wire_pipe_must _ _ _ _) (by simp [oByte, wByte, h])))
theorem k_wire_pipe_node_b (k : Nat) (hk : 17000000 ≤ k)  (hb : b.length + ((wByte to_).length) ≤ 10000000000000) : wire_pipe_node_b.run (k + 20) b wrong kind from_ to_ txn base epoch since mark ask attempt node yes no wiped at_ at1 part part1 versions = some ((b ++ (wByte to_), ()), ((), (), wrong || !(oByte to_ (8 : Int)), ()), (kind, from_, to_, txn, base, epoch, since, mark, ask, attempt, node, yes, no, wiped, at_, at1, part, part1, versions, ()), ()) := by
  refine go_o (k_wire_pipe_byte_c k hk (by (try simp only [List.length_append]); omega)) (?_)
  simp only [List.append_assoc, Bool.or_assoc, Bool.not_and, Bool.not_true, Bool.or_false, Bool.true_and, Bool.and_true]
theorem k_wire_pipe_long (k : Nat) (hk : 17000000 ≤ k)  (h1 : U64 txn) (hb : b.length + ((wLong txn).length) ≤ 10000000000000) : wire_pipe_long.run (k + 20) b wrong kind from_ to_ txn base epoch since mark ask attempt node yes no wiped at_ at1 part part1 versions = some ((b ++ wLong txn, ()), (kind, from_, to_, txn, base, epoch, since, mark, ask, attempt, node, yes, no, wiped, at_, at1, part, part1, versions, ()), ()) := by
  exact go_o (w_long k h1 (by (try simp only [List.length_append]); omega)) rfl
theorem k_wire_pipe_long_b (k : Nat) (hk : 17000000 ≤ k)  (h1 : U64 base) (hb : b.length + ((wLong base).length) ≤ 10000000000000) : wire_pipe_long_b.run (k + 20) b wrong kind from_ to_ txn base epoch since mark ask attempt node yes no wiped at_ at1 part part1 versions = some ((b ++ wLong base, ()), (kind, from_, to_, txn, base, epoch, since, mark, ask, attempt, node, yes, no, wiped, at_, at1, part, part1, versions, ()), ()) := by
  exact go_o (w_long k h1 (by (try simp only [List.length_append]); omega)) rfl
theorem k_wire_pipe_longs (k : Nat) (hk : 17000000 ≤ k)  (h1 : U64 txn) (h2 : U64 base) (hb : b.length + ((wLong txn).length + ((wLong base).length)) ≤ 10000000000000) : wire_pipe_longs.run (k + 20) b wrong kind from_ to_ txn base epoch since mark ask attempt node yes no wiped at_ at1 part part1 versions = some ((b ++ (wLong txn ++ (wLong base)), ()), (kind, from_, to_, txn, base, epoch, since, mark, ask, attempt, node, yes, no, wiped, at_, at1, part, part1, versions, ()), ()) := by
  refine go_o (k_wire_pipe_long k hk h1 (by (try simp only [List.length_append]); omega)) (go_o (k_wire_pipe_long_b k hk h2 (by (try simp only [List.length_append]); omega)) (?_))
  simp only [List.append_assoc, Bool.or_assoc, Bool.not_and, Bool.not_true, Bool.or_false, Bool.true_and, Bool.and_true]
theorem k_wire_pipe_place (k : Nat) (hk : 17000000 ≤ k)  (hb : b.length + ((wPlace at_).length) ≤ 10000000000000) : wire_pipe_place.run (k + 20) b wrong at_ at1 ver ver1 ver2 ver3 = some ((b ++ wPlace at_, ()), ((), (), wrong || !(oPlace at_), ()), ()) := by
  by_cases h : at_ ≥ (0 : Int)
  · exact go_d h (go_o (k_wire_pipe_must _ _ _ _) (go_o (w_place k (by (try simp only [List.length_append]); omega)) (by simp [oPlace, oByte, h])))
  · exact go_n h (go_o (k_wire_pipe_must _ _ _ _) (go_o (w_place k (by (try simp only [List.length_append]); omega)) (by simp [oPlace, oByte, h])))
theorem k_wire_pipe_place_b (k : Nat) (hk : 17000000 ≤ k)  (hb : b.length + ((wPlace at1).length) ≤ 10000000000000) : wire_pipe_place_b.run (k + 20) b wrong at_ at1 ver ver1 ver2 ver3 = some ((b ++ wPlace at1, ()), ((), (), wrong || !(oPlace at1), ()), (at_, at1, ver, ver1, ver2, ver3, ()), ()) := by
  by_cases h : at1 ≥ (0 : Int)
  · exact go_d h (go_o (k_wire_pipe_must _ _ _ _) (go_o (w_place k (by (try simp only [List.length_append]); omega)) (by simp [oPlace, oByte, h])))
  · exact go_n h (go_o (k_wire_pipe_must _ _ _ _) (go_o (w_place k (by (try simp only [List.length_append]); omega)) (by simp [oPlace, oByte, h])))
theorem k_wire_pipe_segment (k : Nat) (hk : 17000000 ≤ k)  (hb : b.length + ((wPlace at_).length + ((wPlace at1).length)) ≤ 10000000000000) : wire_pipe_segment.run (k + 20) b wrong at_ at1 ver ver1 ver2 ver3 = some ((b ++ (wPlace at_ ++ (wPlace at1)), ()), ((), (), wrong || !(oPlace at_ && (oPlace at1)), ()), (at_, at1, ver, ver1, ver2, ver3, ()), ()) := by
  refine go_o (k_wire_pipe_place k hk (by (try simp only [List.length_append]); omega)) (go_o (k_wire_pipe_place_b k hk (by (try simp only [List.length_append]); omega)) (?_))
  simp only [List.append_assoc, Bool.or_assoc, Bool.not_and, Bool.not_true, Bool.or_false, Bool.true_and, Bool.and_true]
theorem k_wire_pipe_word (k : Nat) (hk : 17000000 ≤ k)  (h1 : U32 ver1) (hb : b.length + ((wWord ver1).length) ≤ 10000000000000) : wire_pipe_word.run (k + 20) b wrong at_ at1 ver ver1 ver2 ver3 = some ((b ++ wWord ver1, ()), (at_, at1, ver, ver1, ver2, ver3, ()), ()) := by
  exact go_o (w_word k h1 (by (try simp only [List.length_append]); omega)) rfl
theorem k_wire_pipe_row (k : Nat) (hk : 17000000 ≤ k)  (h1 : ver2.length ≤ 1048576) (hb : b.length + ((wRow ver2).length) ≤ 10000000000000) : wire_pipe_row.run (k + 20) b wrong at_ at1 ver ver1 ver2 ver3 = some ((b ++ wRow ver2, ()), ((), (), wrong || !(Rw.rights ver2), ()), (at_, at1, ver, ver1, ver2, ver3, ()), ()) := by
  have hq := Rw.encode_ok (k + 11) ver2 (by omega) (by omega)
  unfold Rw.encR at hq
  unfold wRow at hb ⊢
  by_cases h : Rw.rights ver2 = true
  · rw [if_pos h] at hq hb ⊢
    rw [h]
    exact go_o hq (go_o (w_text k (by omega)) (go_o (k_wire_pipe_must _ _ _ _) rfl))
  · rw [if_neg h] at hq hb ⊢
    have h' : Rw.rights ver2 = false := by simpa using h
    rw [h']
    exact go_o hq (go_o (w_text k (by omega)) (go_o (k_wire_pipe_must _ _ _ _) rfl))
theorem k_wire_pipe_insert_0 (k : Nat) (hk : 17000000 ≤ k)  : wire_pipe_insert_0.run (k + 20) b wrong at_ at1 ver ver1 ver2 ver3 = some (((), ()), ((), (), wrong || !(decide (ver = 0) && decide (ver3 = 0)), ()), ()) := by
  by_cases h : ver = (0 : Int)
  · exact go_d h (go_o (k_wire_pipe_must _ _ _ _) (by simp [h]))
  · exact go_n h (go_o (k_wire_pipe_must _ _ _ _) (by simp [h]))
theorem k_wire_pipe_insert (k : Nat) (hk : 17000000 ≤ k)  (h1 : U32 ver1) (h2 : ver2.length ≤ 1048576) (hb : b.length + ((wPlace at_).length + ((wPlace at1).length + ((wWord ver1).length + ((wRow ver2).length)))) ≤ 10000000000000) : wire_pipe_insert.run (k + 20) b wrong at_ at1 ver ver1 ver2 ver3 = some ((b ++ (wPlace at_ ++ (wPlace at1 ++ (wWord ver1 ++ (wRow ver2)))), ()), ((), (), wrong || !(decide (ver = 0) && decide (ver3 = 0) && (oPlace at_ && (oPlace at1 && (Rw.rights ver2)))), ()), (at_, at1, ver, ver1, ver2, ver3, ()), ()) := by
  refine go_o (k_wire_pipe_insert_0 k hk ) (go_o (k_wire_pipe_segment k hk (by (try simp only [List.length_append]); omega)) (go_o (k_wire_pipe_word k hk h1 (by (try simp only [List.length_append]); omega)) (go_o (k_wire_pipe_row k hk h2 (by (try simp only [List.length_append]); omega)) (?_))))
  simp only [List.append_assoc, Bool.or_assoc, Bool.not_and, Bool.not_true, Bool.or_false, Bool.true_and, Bool.and_true]
theorem kx_wire_pipe_insert (k : Nat) (hk : 17000000 ≤ k) {b : List UInt8} {wrong : Bool} (x : Ins) (hx : BIns x) (hb : b.length + (wIns x).length ≤ 10000000000000) : wire_pipe_insert.run (k + 20) b wrong x.1.1 x.1.2 x.2.1.1 x.2.1.2 x.2.2.1 x.2.2.2 = some ((b ++ wIns x, ()), ((), (), wrong || !(oIns x), ()), (x.1.1, x.1.2, x.2.1.1, x.2.1.2, x.2.2.1, x.2.2.2, ()), ()) :=
  (k_wire_pipe_insert k hk hx.1.2.2.2.1 hx.2 (by unfold wIns at hb; simp only [List.length_append] at hb; omega)).trans (by simp only [wIns, oIns, Bool.and_assoc, Bool.and_true])
theorem k_wire_list_api_Insert_0 (k : Nat) (hk : 17000000 ≤ k) (l : List Ins) (hl : l.length ≤ 16777216) : ∀ (suf pre : List Ins) (b : List UInt8) (wrong : Bool) (fuel : Nat), l = pre ++ suf → (∀ x ∈ suf, BIns x) → suf.length < fuel → b.length + (suf.flatMap wIns).length ≤ 10000000000000 →
    wire_list_api_Insert_0.go (k + 20) fuel b wrong l (l.length : Int) (pre.length : Int) = some ((b ++ suf.flatMap wIns, ()), ((), (), wrong || !(suf.all oIns), ()), ())
  | _, _, _, _, 0, _, _, h, _ => absurd h (Nat.not_lt_zero _)
  | [], pre, b, wrong, fuel + 1, e, _, _, _ => by
    rw [List.flatMap_nil, List.append_nil, List.all_nil, Bool.not_true, Bool.or_false]
    exact go_n (by rw [e]; simp) rfl
  | x :: suf, pre, b, wrong, fuel + 1, e, hF, hf, hb => by
    have hlt : pre.length < l.length := by rw [e]; simp
    have hgd : l.getD ((pre.length : Int)).toNat (((0 : Int), (0 : Int)), ((0 : Int), (0 : Int)), ([] : List T4), (0 : Int)) = x := by rw [e]; exact getD_mid _ _ _ _
    have hx := hF x (List.mem_cons_self ..)
    rw [List.flatMap_cons] at hb ⊢
    simp only [List.length_append] at hb
    have ih := k_wire_list_api_Insert_0 k hk l hl suf (pre ++ [x]) (b ++ wIns x) (wrong || !(oIns x)) fuel (by rw [e]; simp) (fun y hy => hF y (List.mem_cons_of_mem _ hy)) (by simp at hf; omega) (by simp only [List.length_append]; omega)
    rw [show ((pre ++ [x]).length : Int) = ((pre.length + 1 : Nat) : Int) by simp] at ih
    refine go_d (by omega) (go_t (inB_nat hlt) ?_)
    rw [hgd]
    refine go_o (kx_wire_pipe_insert k hk x hx (by omega)) ?_
    rw [wrap_succ pre.length (by omega)]
    refine ih.trans ?_
    simp only [List.append_assoc, List.all_cons, Bool.or_assoc, Bool.not_and]
theorem k_wire_list_api_Insert (k : Nat) (hk : 17000000 ≤ k)  (h1 : ∀ x ∈ part, BIns x) (h2 : part.length ≤ 16777216) (hb : b.length + ((wList wIns part).length) ≤ 10000000000000) : wire_list_api_Insert.run (k + 20) b wrong kind from_ to_ txn base epoch since mark ask attempt node yes no wiped at_ at1 part part1 versions = some ((b ++ wList wIns part, ()), ((), (), wrong || !(part.all oIns), ()), (kind, from_, to_, txn, base, epoch, since, mark, ask, attempt, node, yes, no, wiped, at_, at1, part, part1, versions, ()), ()) := by
  unfold wList at hb ⊢
  simp only [List.length_append] at hb
  refine go_o (w_len k (n := part.length) (b := b) h2 (by omega)) (go_o (k_wire_list_api_Insert_0 k hk part h2 part [] _ wrong (k + 20) rfl h1 (by omega) (by simp only [List.length_append]; omega)) ?_)
  simp only [List.append_assoc]
theorem k_wire_pipe_place_c (k : Nat) (hk : 17000000 ≤ k)  (hb : b.length + ((wPlace at_).length) ≤ 10000000000000) : wire_pipe_place_c.run (k + 20) b wrong at_ at1 id_ id1 = some ((b ++ wPlace at_, ()), ((), (), wrong || !(oPlace at_), ()), ()) := by
  by_cases h : at_ ≥ (0 : Int)
  · exact go_d h (go_o (k_wire_pipe_must _ _ _ _) (go_o (w_place k (by (try simp only [List.length_append]); omega)) (by simp [oPlace, oByte, h])))
  · exact go_n h (go_o (k_wire_pipe_must _ _ _ _) (go_o (w_place k (by (try simp only [List.length_append]); omega)) (by simp [oPlace, oByte, h])))
theorem k_wire_pipe_place_d (k : Nat) (hk : 17000000 ≤ k)  (hb : b.length + ((wPlace at1).length) ≤ 10000000000000) : wire_pipe_place_d.run (k + 20) b wrong at_ at1 id_ id1 = some ((b ++ wPlace at1, ()), ((), (), wrong || !(oPlace at1), ()), (at_, at1, id_, id1, ()), ()) := by
  by_cases h : at1 ≥ (0 : Int)
  · exact go_d h (go_o (k_wire_pipe_must _ _ _ _) (go_o (w_place k (by (try simp only [List.length_append]); omega)) (by simp [oPlace, oByte, h])))
  · exact go_n h (go_o (k_wire_pipe_must _ _ _ _) (go_o (w_place k (by (try simp only [List.length_append]); omega)) (by simp [oPlace, oByte, h])))
theorem k_wire_pipe_segment_b (k : Nat) (hk : 17000000 ≤ k)  (hb : b.length + ((wPlace at_).length + ((wPlace at1).length)) ≤ 10000000000000) : wire_pipe_segment_b.run (k + 20) b wrong at_ at1 id_ id1 = some ((b ++ (wPlace at_ ++ (wPlace at1)), ()), ((), (), wrong || !(oPlace at_ && (oPlace at1)), ()), (at_, at1, id_, id1, ()), ()) := by
  refine go_o (k_wire_pipe_place_c k hk (by (try simp only [List.length_append]); omega)) (go_o (k_wire_pipe_place_d k hk (by (try simp only [List.length_append]); omega)) (?_))
  simp only [List.append_assoc, Bool.or_assoc, Bool.not_and, Bool.not_true, Bool.or_false, Bool.true_and, Bool.and_true]
theorem k_wire_pipe_long_c (k : Nat) (hk : 17000000 ≤ k)  (h1 : U64 id_) (hb : b.length + ((wLong id_).length) ≤ 10000000000000) : wire_pipe_long_c.run (k + 20) b wrong at_ at1 id_ id1 = some ((b ++ wLong id_, ()), (at_, at1, id_, id1, ()), ()) := by
  exact go_o (w_long k h1 (by (try simp only [List.length_append]); omega)) rfl
theorem k_wire_pipe_word_b (k : Nat) (hk : 17000000 ≤ k)  (h1 : U32 id1) (hb : b.length + ((wWord id1).length) ≤ 10000000000000) : wire_pipe_word_b.run (k + 20) b wrong at_ at1 id_ id1 = some ((b ++ wWord id1, ()), (at_, at1, id_, id1, ()), ()) := by
  exact go_o (w_word k h1 (by (try simp only [List.length_append]); omega)) rfl
theorem k_wire_pipe_name (k : Nat) (hk : 17000000 ≤ k)  (h1 : U64 id_) (h2 : U32 id1) (hb : b.length + ((wLong id_).length + ((wWord id1).length)) ≤ 10000000000000) : wire_pipe_name.run (k + 20) b wrong at_ at1 id_ id1 = some ((b ++ (wLong id_ ++ (wWord id1)), ()), (at_, at1, id_, id1, ()), ()) := by
  refine go_o (k_wire_pipe_long_c k hk h1 (by (try simp only [List.length_append]); omega)) (go_o (k_wire_pipe_word_b k hk h2 (by (try simp only [List.length_append]); omega)) (?_))
  simp only [List.append_assoc, Bool.or_assoc, Bool.not_and, Bool.not_true, Bool.or_false, Bool.true_and, Bool.and_true]
theorem k_wire_pipe_erase (k : Nat) (hk : 17000000 ≤ k)  (h1 : U64 id_) (h2 : U32 id1) (hb : b.length + ((wPlace at_).length + ((wPlace at1).length + ((wLong id_).length + ((wWord id1).length)))) ≤ 10000000000000) : wire_pipe_erase.run (k + 20) b wrong at_ at1 id_ id1 = some ((b ++ (wPlace at_ ++ (wPlace at1 ++ (wLong id_ ++ (wWord id1)))), ()), ((), (), wrong || !(oPlace at_ && (oPlace at1)), ()), (at_, at1, id_, id1, ()), ()) := by
  refine go_o (k_wire_pipe_segment_b k hk (by (try simp only [List.length_append]); omega)) (go_o (k_wire_pipe_name k hk h1 h2 (by (try simp only [List.length_append]); omega)) (?_))
  simp only [List.append_assoc, Bool.or_assoc, Bool.not_and, Bool.not_true, Bool.or_false, Bool.true_and, Bool.and_true]
theorem kx_wire_pipe_erase (k : Nat) (hk : 17000000 ≤ k) {b : List UInt8} {wrong : Bool} (x : Ers) (hx : BErs x) (hb : b.length + (wErs x).length ≤ 10000000000000) : wire_pipe_erase.run (k + 20) b wrong x.1.1 x.1.2 x.2.1 x.2.2 = some ((b ++ wErs x, ()), ((), (), wrong || !(oErs x), ()), (x.1.1, x.1.2, x.2.1, x.2.2, ()), ()) :=
  (k_wire_pipe_erase k hk hx.2.2.1 hx.2.2.2 (by unfold wErs at hb; simp only [List.length_append] at hb; omega)).trans (by simp only [wErs, oErs, Bool.and_assoc, Bool.and_true])
theorem k_wire_list_api_Erase_0 (k : Nat) (hk : 17000000 ≤ k) (l : List Ers) (hl : l.length ≤ 16777216) : ∀ (suf pre : List Ers) (b : List UInt8) (wrong : Bool) (fuel : Nat), l = pre ++ suf → (∀ x ∈ suf, BErs x) → suf.length < fuel → b.length + (suf.flatMap wErs).length ≤ 10000000000000 →
    wire_list_api_Erase_0.go (k + 20) fuel b wrong l (l.length : Int) (pre.length : Int) = some ((b ++ suf.flatMap wErs, ()), ((), (), wrong || !(suf.all oErs), ()), ())
  | _, _, _, _, 0, _, _, h, _ => absurd h (Nat.not_lt_zero _)
  | [], pre, b, wrong, fuel + 1, e, _, _, _ => by
    rw [List.flatMap_nil, List.append_nil, List.all_nil, Bool.not_true, Bool.or_false]
    exact go_n (by rw [e]; simp) rfl
  | x :: suf, pre, b, wrong, fuel + 1, e, hF, hf, hb => by
    have hlt : pre.length < l.length := by rw [e]; simp
    have hgd : l.getD ((pre.length : Int)).toNat (((0 : Int), (0 : Int)), (0 : Int), (0 : Int)) = x := by rw [e]; exact getD_mid _ _ _ _
    have hx := hF x (List.mem_cons_self ..)
    rw [List.flatMap_cons] at hb ⊢
    simp only [List.length_append] at hb
    have ih := k_wire_list_api_Erase_0 k hk l hl suf (pre ++ [x]) (b ++ wErs x) (wrong || !(oErs x)) fuel (by rw [e]; simp) (fun y hy => hF y (List.mem_cons_of_mem _ hy)) (by simp at hf; omega) (by simp only [List.length_append]; omega)
    rw [show ((pre ++ [x]).length : Int) = ((pre.length + 1 : Nat) : Int) by simp] at ih
    refine go_d (by omega) (go_t (inB_nat hlt) ?_)
    rw [hgd]
    refine go_o (kx_wire_pipe_erase k hk x hx (by omega)) ?_
    rw [wrap_succ pre.length (by omega)]
    refine ih.trans ?_
    simp only [List.append_assoc, List.all_cons, Bool.or_assoc, Bool.not_and]
theorem k_wire_list_api_Erase (k : Nat) (hk : 17000000 ≤ k)  (h1 : ∀ x ∈ part1, BErs x) (h2 : part1.length ≤ 16777216) (hb : b.length + ((wList wErs part1).length) ≤ 10000000000000) : wire_list_api_Erase.run (k + 20) b wrong kind from_ to_ txn base epoch since mark ask attempt node yes no wiped at_ at1 part part1 versions = some ((b ++ wList wErs part1, ()), ((), (), wrong || !(part1.all oErs), ()), (kind, from_, to_, txn, base, epoch, since, mark, ask, attempt, node, yes, no, wiped, at_, at1, part, part1, versions, ()), ()) := by
  unfold wList at hb ⊢
  simp only [List.length_append] at hb
  refine go_o (w_len k (n := part1.length) (b := b) h2 (by omega)) (go_o (k_wire_list_api_Erase_0 k hk part1 h2 part1 [] _ wrong (k + 20) rfl h1 (by omega) (by simp only [List.length_append]; omega)) ?_)
  simp only [List.append_assoc]
theorem k_wire_pipe_part (k : Nat) (hk : 17000000 ≤ k)  (h1 : ∀ x ∈ part, BIns x) (h2 : part.length ≤ 16777216) (h3 : ∀ x ∈ part1, BErs x) (h4 : part1.length ≤ 16777216) (hb : b.length + ((wList wIns part).length + ((wList wErs part1).length)) ≤ 10000000000000) : wire_pipe_part.run (k + 20) b wrong kind from_ to_ txn base epoch since mark ask attempt node yes no wiped at_ at1 part part1 versions = some ((b ++ (wList wIns part ++ (wList wErs part1)), ()), ((), (), wrong || !(part.all oIns && (part1.all oErs)), ()), (kind, from_, to_, txn, base, epoch, since, mark, ask, attempt, node, yes, no, wiped, at_, at1, part, part1, versions, ()), ()) := by
  refine go_o (k_wire_list_api_Insert k hk h1 h2 (by (try simp only [List.length_append]); omega)) (go_o (k_wire_list_api_Erase k hk h3 h4 (by (try simp only [List.length_append]); omega)) (?_))
  simp only [List.append_assoc, Bool.or_assoc, Bool.not_and, Bool.not_true, Bool.or_false, Bool.true_and, Bool.and_true]
theorem k_wire_pipe_fields_f1 (k : Nat) (hk : 17000000 ≤ k)  (h1 : U64 txn) (h2 : U64 base) (h3 : ∀ x ∈ part, BIns x) (h4 : part.length ≤ 16777216) (h5 : ∀ x ∈ part1, BErs x) (h6 : part1.length ≤ 16777216) (hb : b.length + ((wLong txn).length + ((wLong base).length + ((wList wIns part).length + ((wList wErs part1).length)))) ≤ 10000000000000) : wire_pipe_fields_f1.run (k + 20) b wrong kind from_ to_ txn base epoch since mark ask attempt node yes no wiped at_ at1 part part1 versions = some ((b ++ (wLong txn ++ (wLong base ++ (wList wIns part ++ (wList wErs part1)))), ()), ((), (), wrong || !(part.all oIns && (part1.all oErs)), ()), (kind, from_, to_, txn, base, epoch, since, mark, ask, attempt, node, yes, no, wiped, at_, at1, part, part1, versions, ()), ()) := by
  refine go_o (k_wire_pipe_longs k hk h1 h2 (by (try simp only [List.length_append]); omega)) (go_o (k_wire_pipe_part k hk h3 h4 h5 h6 (by (try simp only [List.length_append]); omega)) (?_))
  simp only [List.append_assoc, Bool.or_assoc, Bool.not_and, Bool.not_true, Bool.or_false, Bool.true_and, Bool.and_true]
theorem k_wire_pipe_byte_d (k : Nat) (hk : 17000000 ≤ k)  (hb : b.length + ((wByte n_).length) ≤ 10000000000000) : wire_pipe_byte_d.run (k + 20) b wrong n_ most = some ((b ++ wByte n_, ()), ((), (), wrong || !(oByte n_ most), ()), ()) := by
  have hq := wr_byte (k + 20) b (Hay.u8 (IntKind.u8.wrap n_)) (by omega)
  by_cases h : n_ ≥ (0 : Int)
  · exact go_o hq (go_d h (go_o (k_wire_pipe_must _ _ _ _) (by simp [oByte, wByte, h])))
  · exact go_o hq (go_n h (go_o (k_wire_pipe_must _ _ _ _) (by simp [oByte, wByte, h])))
theorem k_wire_pipe_truth (k : Nat) (hk : 17000000 ≤ k)  (hb : b.length + ((wTruth yes).length) ≤ 10000000000000) : wire_pipe_truth.run (k + 20) b wrong kind from_ to_ txn base epoch since mark ask attempt node yes no wiped at_ at1 part part1 versions = some ((b ++ wTruth yes, ()), ((), (), wrong || !true, ()), (kind, from_, to_, txn, base, epoch, since, mark, ask, attempt, node, yes, no, wiped, at_, at1, part, part1, versions, ()), ()) := by
  have hl : (wTruth yes).length = 1 := rfl
  rw [hl] at hb
  cases yes
  · exact go_f rfl (go_o (k_wire_pipe_byte_d k hk (by show b.length + 1 ≤ _; omega)) rfl)
  · exact go_t rfl (go_o (k_wire_pipe_byte_d k hk (by show b.length + 1 ≤ _; omega)) rfl)
theorem k_wire_pipe_fields_f2 (k : Nat) (hk : 17000000 ≤ k)  (h1 : U64 txn) (hb : b.length + ((wLong txn).length + ((wTruth yes).length)) ≤ 10000000000000) : wire_pipe_fields_f2.run (k + 20) b wrong kind from_ to_ txn base epoch since mark ask attempt node yes no wiped at_ at1 part part1 versions = some ((b ++ (wLong txn ++ (wTruth yes)), ()), ((), (), wrong || !(true), ()), (kind, from_, to_, txn, base, epoch, since, mark, ask, attempt, node, yes, no, wiped, at_, at1, part, part1, versions, ()), ()) := by
  refine go_o (k_wire_pipe_long k hk h1 (by (try simp only [List.length_append]); omega)) (go_o (k_wire_pipe_truth k hk (by (try simp only [List.length_append]); omega)) (?_))
  simp only [List.append_assoc, Bool.or_assoc, Bool.not_and, Bool.not_true, Bool.or_false, Bool.true_and, Bool.and_true]
theorem k_wire_pipe_long_d (k : Nat) (hk : 17000000 ≤ k)  (h1 : U64 epoch) (hb : b.length + ((wLong epoch).length) ≤ 10000000000000) : wire_pipe_long_d.run (k + 20) b wrong kind from_ to_ txn base epoch since mark ask attempt node yes no wiped at_ at1 part part1 versions = some ((b ++ wLong epoch, ()), (kind, from_, to_, txn, base, epoch, since, mark, ask, attempt, node, yes, no, wiped, at_, at1, part, part1, versions, ()), ()) := by
  exact go_o (w_long k h1 (by (try simp only [List.length_append]); omega)) rfl
theorem k_wire_pipe_longs_b (k : Nat) (hk : 17000000 ≤ k)  (h1 : U64 epoch) (h2 : U64 txn) (hb : b.length + ((wLong epoch).length + ((wLong txn).length)) ≤ 10000000000000) : wire_pipe_longs_b.run (k + 20) b wrong kind from_ to_ txn base epoch since mark ask attempt node yes no wiped at_ at1 part part1 versions = some ((b ++ (wLong epoch ++ (wLong txn)), ()), (kind, from_, to_, txn, base, epoch, since, mark, ask, attempt, node, yes, no, wiped, at_, at1, part, part1, versions, ()), ()) := by
  refine go_o (k_wire_pipe_long_d k hk h1 (by (try simp only [List.length_append]); omega)) (go_o (k_wire_pipe_long k hk h2 (by (try simp only [List.length_append]); omega)) (?_))
  simp only [List.append_assoc, Bool.or_assoc, Bool.not_and, Bool.not_true, Bool.or_false, Bool.true_and, Bool.and_true]
theorem k_wire_pipe_fields_f3 (k : Nat) (hk : 17000000 ≤ k)  (h1 : U64 epoch) (h2 : U64 txn) (hb : b.length + ((wLong epoch).length + ((wLong txn).length)) ≤ 10000000000000) : wire_pipe_fields_f3.run (k + 20) b wrong kind from_ to_ txn base epoch since mark ask attempt node yes no wiped at_ at1 part part1 versions = some ((b ++ (wLong epoch ++ (wLong txn)), ()), (kind, from_, to_, txn, base, epoch, since, mark, ask, attempt, node, yes, no, wiped, at_, at1, part, part1, versions, ()), ()) := by
  refine go_o (k_wire_pipe_longs_b k hk h1 h2 (by (try simp only [List.length_append]); omega)) (?_)
  simp only [List.append_assoc, Bool.or_assoc, Bool.not_and, Bool.not_true, Bool.or_false, Bool.true_and, Bool.and_true]
theorem k_wire_pipe_long_e (k : Nat) (hk : 17000000 ≤ k)  (h1 : U64 mark) (hb : b.length + ((wLong mark).length) ≤ 10000000000000) : wire_pipe_long_e.run (k + 20) b wrong kind from_ to_ txn base epoch since mark ask attempt node yes no wiped at_ at1 part part1 versions = some ((b ++ wLong mark, ()), (kind, from_, to_, txn, base, epoch, since, mark, ask, attempt, node, yes, no, wiped, at_, at1, part, part1, versions, ()), ()) := by
  exact go_o (w_long k h1 (by (try simp only [List.length_append]); omega)) rfl
theorem k_wire_pipe_longs_c (k : Nat) (hk : 17000000 ≤ k)  (h1 : U64 epoch) (h2 : U64 mark) (hb : b.length + ((wLong epoch).length + ((wLong mark).length)) ≤ 10000000000000) : wire_pipe_longs_c.run (k + 20) b wrong kind from_ to_ txn base epoch since mark ask attempt node yes no wiped at_ at1 part part1 versions = some ((b ++ (wLong epoch ++ (wLong mark)), ()), (kind, from_, to_, txn, base, epoch, since, mark, ask, attempt, node, yes, no, wiped, at_, at1, part, part1, versions, ()), ()) := by
  refine go_o (k_wire_pipe_long_d k hk h1 (by (try simp only [List.length_append]); omega)) (go_o (k_wire_pipe_long_e k hk h2 (by (try simp only [List.length_append]); omega)) (?_))
  simp only [List.append_assoc, Bool.or_assoc, Bool.not_and, Bool.not_true, Bool.or_false, Bool.true_and, Bool.and_true]
theorem k_wire_pipe_fields_f4 (k : Nat) (hk : 17000000 ≤ k)  (h1 : U64 epoch) (h2 : U64 mark) (hb : b.length + ((wLong epoch).length + ((wLong mark).length)) ≤ 10000000000000) : wire_pipe_fields_f4.run (k + 20) b wrong kind from_ to_ txn base epoch since mark ask attempt node yes no wiped at_ at1 part part1 versions = some ((b ++ (wLong epoch ++ (wLong mark)), ()), (kind, from_, to_, txn, base, epoch, since, mark, ask, attempt, node, yes, no, wiped, at_, at1, part, part1, versions, ()), ()) := by
  refine go_o (k_wire_pipe_longs_c k hk h1 h2 (by (try simp only [List.length_append]); omega)) (?_)
  simp only [List.append_assoc, Bool.or_assoc, Bool.not_and, Bool.not_true, Bool.or_false, Bool.true_and, Bool.and_true]
theorem k_wire_pipe_long_f (k : Nat) (hk : 17000000 ≤ k)  (h1 : U64 ask) (hb : b.length + ((wLong ask).length) ≤ 10000000000000) : wire_pipe_long_f.run (k + 20) b wrong kind from_ to_ txn base epoch since mark ask attempt node yes no wiped at_ at1 part part1 versions = some ((b ++ wLong ask, ()), (kind, from_, to_, txn, base, epoch, since, mark, ask, attempt, node, yes, no, wiped, at_, at1, part, part1, versions, ()), ()) := by
  exact go_o (w_long k h1 (by (try simp only [List.length_append]); omega)) rfl
theorem k_wire_pipe_longs_d (k : Nat) (hk : 17000000 ≤ k)  (h1 : U64 ask) (h2 : U64 epoch) (hb : b.length + ((wLong ask).length + ((wLong epoch).length)) ≤ 10000000000000) : wire_pipe_longs_d.run (k + 20) b wrong kind from_ to_ txn base epoch since mark ask attempt node yes no wiped at_ at1 part part1 versions = some ((b ++ (wLong ask ++ (wLong epoch)), ()), (kind, from_, to_, txn, base, epoch, since, mark, ask, attempt, node, yes, no, wiped, at_, at1, part, part1, versions, ()), ()) := by
  refine go_o (k_wire_pipe_long_f k hk h1 (by (try simp only [List.length_append]); omega)) (go_o (k_wire_pipe_long_d k hk h2 (by (try simp only [List.length_append]); omega)) (?_))
  simp only [List.append_assoc, Bool.or_assoc, Bool.not_and, Bool.not_true, Bool.or_false, Bool.true_and, Bool.and_true]
theorem k_wire_pipe_place_e (k : Nat) (hk : 17000000 ≤ k)  (hb : b.length + ((wPlace at_).length) ≤ 10000000000000) : wire_pipe_place_e.run (k + 20) b wrong kind from_ to_ txn base epoch since mark ask attempt node yes no wiped at_ at1 part part1 versions = some ((b ++ wPlace at_, ()), ((), (), wrong || !(oPlace at_), ()), (kind, from_, to_, txn, base, epoch, since, mark, ask, attempt, node, yes, no, wiped, at_, at1, part, part1, versions, ()), ()) := by
  by_cases h : at_ ≥ (0 : Int)
  · exact go_d h (go_o (k_wire_pipe_must _ _ _ _) (go_o (w_place k (by (try simp only [List.length_append]); omega)) (by simp [oPlace, oByte, h])))
  · exact go_n h (go_o (k_wire_pipe_must _ _ _ _) (go_o (w_place k (by (try simp only [List.length_append]); omega)) (by simp [oPlace, oByte, h])))
theorem k_wire_pipe_place_f (k : Nat) (hk : 17000000 ≤ k)  (hb : b.length + ((wPlace at1).length) ≤ 10000000000000) : wire_pipe_place_f.run (k + 20) b wrong kind from_ to_ txn base epoch since mark ask attempt node yes no wiped at_ at1 part part1 versions = some ((b ++ wPlace at1, ()), ((), (), wrong || !(oPlace at1), ()), (kind, from_, to_, txn, base, epoch, since, mark, ask, attempt, node, yes, no, wiped, at_, at1, part, part1, versions, ()), ()) := by
  by_cases h : at1 ≥ (0 : Int)
  · exact go_d h (go_o (k_wire_pipe_must _ _ _ _) (go_o (w_place k (by (try simp only [List.length_append]); omega)) (by simp [oPlace, oByte, h])))
  · exact go_n h (go_o (k_wire_pipe_must _ _ _ _) (go_o (w_place k (by (try simp only [List.length_append]); omega)) (by simp [oPlace, oByte, h])))
theorem k_wire_pipe_segment_c (k : Nat) (hk : 17000000 ≤ k)  (hb : b.length + ((wPlace at_).length + ((wPlace at1).length)) ≤ 10000000000000) : wire_pipe_segment_c.run (k + 20) b wrong kind from_ to_ txn base epoch since mark ask attempt node yes no wiped at_ at1 part part1 versions = some ((b ++ (wPlace at_ ++ (wPlace at1)), ()), ((), (), wrong || !(oPlace at_ && (oPlace at1)), ()), (kind, from_, to_, txn, base, epoch, since, mark, ask, attempt, node, yes, no, wiped, at_, at1, part, part1, versions, ()), ()) := by
  refine go_o (k_wire_pipe_place_e k hk (by (try simp only [List.length_append]); omega)) (go_o (k_wire_pipe_place_f k hk (by (try simp only [List.length_append]); omega)) (?_))
  simp only [List.append_assoc, Bool.or_assoc, Bool.not_and, Bool.not_true, Bool.or_false, Bool.true_and, Bool.and_true]
theorem k_wire_pipe_fields_f5 (k : Nat) (hk : 17000000 ≤ k)  (h1 : U64 ask) (h2 : U64 epoch) (hb : b.length + ((wLong ask).length + ((wLong epoch).length + ((wPlace at_).length + ((wPlace at1).length)))) ≤ 10000000000000) : wire_pipe_fields_f5.run (k + 20) b wrong kind from_ to_ txn base epoch since mark ask attempt node yes no wiped at_ at1 part part1 versions = some ((b ++ (wLong ask ++ (wLong epoch ++ (wPlace at_ ++ (wPlace at1)))), ()), ((), (), wrong || !(oPlace at_ && (oPlace at1)), ()), (kind, from_, to_, txn, base, epoch, since, mark, ask, attempt, node, yes, no, wiped, at_, at1, part, part1, versions, ()), ()) := by
  refine go_o (k_wire_pipe_longs_d k hk h1 h2 (by (try simp only [List.length_append]); omega)) (go_o (k_wire_pipe_segment_c k hk (by (try simp only [List.length_append]); omega)) (?_))
  simp only [List.append_assoc, Bool.or_assoc, Bool.not_and, Bool.not_true, Bool.or_false, Bool.true_and, Bool.and_true]
theorem k_wire_pipe_truth_b (k : Nat) (hk : 17000000 ≤ k)  (hb : b.length + ((wTruth no).length) ≤ 10000000000000) : wire_pipe_truth_b.run (k + 20) b wrong kind from_ to_ txn base epoch since mark ask attempt node yes no wiped at_ at1 part part1 versions = some ((b ++ wTruth no, ()), ((), (), wrong || !true, ()), (kind, from_, to_, txn, base, epoch, since, mark, ask, attempt, node, yes, no, wiped, at_, at1, part, part1, versions, ()), ()) := by
  have hl : (wTruth no).length = 1 := rfl
  rw [hl] at hb
  cases no
  · exact go_f rfl (go_o (k_wire_pipe_byte_d k hk (by show b.length + 1 ≤ _; omega)) rfl)
  · exact go_t rfl (go_o (k_wire_pipe_byte_d k hk (by show b.length + 1 ≤ _; omega)) rfl)
theorem k_wire_pipe_long_g (k : Nat) (hk : 17000000 ≤ k)  (h1 : U64 id_) (hb : b.length + ((wLong id_).length) ≤ 10000000000000) : wire_pipe_long_g.run (k + 20) b wrong id_ id1 row deleted = some ((b ++ wLong id_, ()), ()) := by
  exact go_o (w_long k h1 (by (try simp only [List.length_append]); omega)) rfl
theorem k_wire_pipe_word_c (k : Nat) (hk : 17000000 ≤ k)  (h1 : U32 id1) (hb : b.length + ((wWord id1).length) ≤ 10000000000000) : wire_pipe_word_c.run (k + 20) b wrong id_ id1 row deleted = some ((b ++ wWord id1, ()), (id_, id1, row, deleted, ()), ()) := by
  exact go_o (w_word k h1 (by (try simp only [List.length_append]); omega)) rfl
theorem k_wire_pipe_name_b (k : Nat) (hk : 17000000 ≤ k)  (h1 : U64 id_) (h2 : U32 id1) (hb : b.length + ((wLong id_).length + ((wWord id1).length)) ≤ 10000000000000) : wire_pipe_name_b.run (k + 20) b wrong id_ id1 row deleted = some ((b ++ (wLong id_ ++ (wWord id1)), ()), (id_, id1, row, deleted, ()), ()) := by
  refine go_o (k_wire_pipe_long_g k hk h1 (by (try simp only [List.length_append]); omega)) (go_o (k_wire_pipe_word_c k hk h2 (by (try simp only [List.length_append]); omega)) (?_))
  simp only [List.append_assoc, Bool.or_assoc, Bool.not_and, Bool.not_true, Bool.or_false, Bool.true_and, Bool.and_true]
theorem k_wire_pipe_row_b (k : Nat) (hk : 17000000 ≤ k)  (h1 : row.length ≤ 1048576) (hb : b.length + ((wRow row).length) ≤ 10000000000000) : wire_pipe_row_b.run (k + 20) b wrong id_ id1 row deleted = some ((b ++ wRow row, ()), ((), (), wrong || !(Rw.rights row), ()), (id_, id1, row, deleted, ()), ()) := by
  have hq := Rw.encode_ok (k + 11) row (by omega) (by omega)
  unfold Rw.encR at hq
  unfold wRow at hb ⊢
  by_cases h : Rw.rights row = true
  · rw [if_pos h] at hq hb ⊢
    rw [h]
    exact go_o hq (go_o (w_text k (by omega)) (go_o (k_wire_pipe_must _ _ _ _) rfl))
  · rw [if_neg h] at hq hb ⊢
    have h' : Rw.rights row = false := by simpa using h
    rw [h']
    exact go_o hq (go_o (w_text k (by omega)) (go_o (k_wire_pipe_must _ _ _ _) rfl))
theorem k_wire_pipe_long_h (k : Nat) (hk : 17000000 ≤ k)  (h1 : U64 deleted) (hb : b.length + ((wLong deleted).length) ≤ 10000000000000) : wire_pipe_long_h.run (k + 20) b wrong id_ id1 row deleted = some ((b ++ wLong deleted, ()), (id_, id1, row, deleted, ()), ()) := by
  exact go_o (w_long k h1 (by (try simp only [List.length_append]); omega)) rfl
theorem k_wire_pipe_version (k : Nat) (hk : 17000000 ≤ k)  (h1 : U64 id_) (h2 : U32 id1) (h3 : row.length ≤ 1048576) (h4 : U64 deleted) (hb : b.length + ((wLong id_).length + ((wWord id1).length + ((wRow row).length + ((wLong deleted).length)))) ≤ 10000000000000) : wire_pipe_version.run (k + 20) b wrong id_ id1 row deleted = some ((b ++ (wLong id_ ++ (wWord id1 ++ (wRow row ++ (wLong deleted)))), ()), ((), (), wrong || !(Rw.rights row), ()), (id_, id1, row, deleted, ()), ()) := by
  refine go_o (k_wire_pipe_name_b k hk h1 h2 (by (try simp only [List.length_append]); omega)) (go_o (k_wire_pipe_row_b k hk h3 (by (try simp only [List.length_append]); omega)) (go_o (k_wire_pipe_long_h k hk h4 (by (try simp only [List.length_append]); omega)) (?_)))
  simp only [List.append_assoc, Bool.or_assoc, Bool.not_and, Bool.not_true, Bool.or_false, Bool.true_and, Bool.and_true]
theorem kx_wire_pipe_version (k : Nat) (hk : 17000000 ≤ k) {b : List UInt8} {wrong : Bool} (x : Ver) (hx : BVer x) (hb : b.length + (wVer x).length ≤ 10000000000000) : wire_pipe_version.run (k + 20) b wrong x.1.1 x.1.2 x.2.1 x.2.2 = some ((b ++ wVer x, ()), ((), (), wrong || !(oVer x), ()), (x.1.1, x.1.2, x.2.1, x.2.2, ()), ()) :=
  (k_wire_pipe_version k hk hx.1.1 hx.1.2.1 hx.2 hx.1.2.2.2 (by unfold wVer at hb; simp only [List.length_append] at hb; omega)).trans (by simp only [wVer, oVer, Bool.and_assoc, Bool.and_true])
theorem k_wire_list_api_Version_0 (k : Nat) (hk : 17000000 ≤ k) (l : List Ver) (hl : l.length ≤ 16777216) : ∀ (suf pre : List Ver) (b : List UInt8) (wrong : Bool) (fuel : Nat), l = pre ++ suf → (∀ x ∈ suf, BVer x) → suf.length < fuel → b.length + (suf.flatMap wVer).length ≤ 10000000000000 →
    wire_list_api_Version_0.go (k + 20) fuel b wrong l (l.length : Int) (pre.length : Int) = some ((b ++ suf.flatMap wVer, ()), ((), (), wrong || !(suf.all oVer), ()), ())
  | _, _, _, _, 0, _, _, h, _ => absurd h (Nat.not_lt_zero _)
  | [], pre, b, wrong, fuel + 1, e, _, _, _ => by
    rw [List.flatMap_nil, List.append_nil, List.all_nil, Bool.not_true, Bool.or_false]
    exact go_n (by rw [e]; simp) rfl
  | x :: suf, pre, b, wrong, fuel + 1, e, hF, hf, hb => by
    have hlt : pre.length < l.length := by rw [e]; simp
    have hgd : l.getD ((pre.length : Int)).toNat (((0 : Int), (0 : Int)), ([] : List T4), (0 : Int)) = x := by rw [e]; exact getD_mid _ _ _ _
    have hx := hF x (List.mem_cons_self ..)
    rw [List.flatMap_cons] at hb ⊢
    simp only [List.length_append] at hb
    have ih := k_wire_list_api_Version_0 k hk l hl suf (pre ++ [x]) (b ++ wVer x) (wrong || !(oVer x)) fuel (by rw [e]; simp) (fun y hy => hF y (List.mem_cons_of_mem _ hy)) (by simp at hf; omega) (by simp only [List.length_append]; omega)
    rw [show ((pre ++ [x]).length : Int) = ((pre.length + 1 : Nat) : Int) by simp] at ih
    refine go_d (by omega) (go_t (inB_nat hlt) ?_)
    rw [hgd]
    refine go_o (kx_wire_pipe_version k hk x hx (by omega)) ?_
    rw [wrap_succ pre.length (by omega)]
    refine ih.trans ?_
    simp only [List.append_assoc, List.all_cons, Bool.or_assoc, Bool.not_and]
theorem k_wire_list_api_Version (k : Nat) (hk : 17000000 ≤ k)  (h1 : ∀ x ∈ versions, BVer x) (h2 : versions.length ≤ 16777216) (hb : b.length + ((wList wVer versions).length) ≤ 10000000000000) : wire_list_api_Version.run (k + 20) b wrong kind from_ to_ txn base epoch since mark ask attempt node yes no wiped at_ at1 part part1 versions = some ((b ++ wList wVer versions, ()), ((), (), wrong || !(versions.all oVer), ()), (kind, from_, to_, txn, base, epoch, since, mark, ask, attempt, node, yes, no, wiped, at_, at1, part, part1, versions, ()), ()) := by
  unfold wList at hb ⊢
  simp only [List.length_append] at hb
  refine go_o (w_len k (n := versions.length) (b := b) h2 (by omega)) (go_o (k_wire_list_api_Version_0 k hk versions h2 versions [] _ wrong (k + 20) rfl h1 (by omega) (by simp only [List.length_append]; omega)) ?_)
  simp only [List.append_assoc]
theorem k_wire_pipe_versions (k : Nat) (hk : 17000000 ≤ k)  (h1 : ∀ x ∈ versions, BVer x) (h2 : versions.length ≤ 16777216) (hb : b.length + ((wList wVer versions).length) ≤ 10000000000000) : wire_pipe_versions.run (k + 20) b wrong kind from_ to_ txn base epoch since mark ask attempt node yes no wiped at_ at1 part part1 versions = some ((b ++ (wList wVer versions), ()), ((), (), wrong || !(versions.all oVer), ()), (kind, from_, to_, txn, base, epoch, since, mark, ask, attempt, node, yes, no, wiped, at_, at1, part, part1, versions, ()), ()) := by
  refine go_o (k_wire_list_api_Version k hk h1 h2 (by (try simp only [List.length_append]); omega)) (?_)
  simp only [List.append_assoc, Bool.or_assoc, Bool.not_and, Bool.not_true, Bool.or_false, Bool.true_and, Bool.and_true]
theorem k_wire_pipe_fields_f6 (k : Nat) (hk : 17000000 ≤ k)  (h1 : U64 ask) (h2 : ∀ x ∈ versions, BVer x) (h3 : versions.length ≤ 16777216) (hb : b.length + ((wLong ask).length + ((wPlace at_).length + ((wPlace at1).length + ((wTruth no).length + ((wList wVer versions).length))))) ≤ 10000000000000) : wire_pipe_fields_f6.run (k + 20) b wrong kind from_ to_ txn base epoch since mark ask attempt node yes no wiped at_ at1 part part1 versions = some ((b ++ (wLong ask ++ (wPlace at_ ++ (wPlace at1 ++ (wTruth no ++ (wList wVer versions))))), ()), ((), (), wrong || !(oPlace at_ && (oPlace at1 && (versions.all oVer))), ()), (kind, from_, to_, txn, base, epoch, since, mark, ask, attempt, node, yes, no, wiped, at_, at1, part, part1, versions, ()), ()) := by
  refine go_o (k_wire_pipe_long_f k hk h1 (by (try simp only [List.length_append]); omega)) (go_o (k_wire_pipe_segment_c k hk (by (try simp only [List.length_append]); omega)) (go_o (k_wire_pipe_truth_b k hk (by (try simp only [List.length_append]); omega)) (go_o (k_wire_pipe_versions k hk h2 h3 (by (try simp only [List.length_append]); omega)) (?_))))
  simp only [List.append_assoc, Bool.or_assoc, Bool.not_and, Bool.not_true, Bool.or_false, Bool.true_and, Bool.and_true]
theorem k_wire_pipe_truth_c (k : Nat) (hk : 17000000 ≤ k)  (hb : b.length + ((wTruth wiped).length) ≤ 10000000000000) : wire_pipe_truth_c.run (k + 20) b wrong kind from_ to_ txn base epoch since mark ask attempt node yes no wiped at_ at1 part part1 versions = some ((b ++ wTruth wiped, ()), ((), (), wrong || !true, ()), (kind, from_, to_, txn, base, epoch, since, mark, ask, attempt, node, yes, no, wiped, at_, at1, part, part1, versions, ()), ()) := by
  have hl : (wTruth wiped).length = 1 := rfl
  rw [hl] at hb
  cases wiped
  · exact go_f rfl (go_o (k_wire_pipe_byte_d k hk (by show b.length + 1 ≤ _; omega)) rfl)
  · exact go_t rfl (go_o (k_wire_pipe_byte_d k hk (by show b.length + 1 ≤ _; omega)) rfl)
theorem k_wire_pipe_fields_f7 (k : Nat) (hk : 17000000 ≤ k)  (h1 : U64 ask) (h2 : U64 epoch) (hb : b.length + ((wLong ask).length + ((wLong epoch).length + ((wTruth wiped).length))) ≤ 10000000000000) : wire_pipe_fields_f7.run (k + 20) b wrong kind from_ to_ txn base epoch since mark ask attempt node yes no wiped at_ at1 part part1 versions = some ((b ++ (wLong ask ++ (wLong epoch ++ (wTruth wiped))), ()), ((), (), wrong || !(true), ()), (kind, from_, to_, txn, base, epoch, since, mark, ask, attempt, node, yes, no, wiped, at_, at1, part, part1, versions, ()), ()) := by
  refine go_o (k_wire_pipe_longs_d k hk h1 h2 (by (try simp only [List.length_append]); omega)) (go_o (k_wire_pipe_truth_c k hk (by (try simp only [List.length_append]); omega)) (?_))
  simp only [List.append_assoc, Bool.or_assoc, Bool.not_and, Bool.not_true, Bool.or_false, Bool.true_and, Bool.and_true]
theorem k_wire_pipe_byte_e (k : Nat) (hk : 17000000 ≤ k)  (hb : b.length + ((wByte node).length) ≤ 10000000000000) : wire_pipe_byte_e.run (k + 20) b wrong kind from_ to_ txn base epoch since mark ask attempt node yes no wiped at_ at1 part part1 versions most = some ((b ++ wByte node, ()), ((), (), wrong || !(oByte node most), ()), (kind, from_, to_, txn, base, epoch, since, mark, ask, attempt, node, yes, no, wiped, at_, at1, part, part1, versions, ()), ()) := by
  have hq := wr_byte (k + 20) b (Hay.u8 (IntKind.u8.wrap node)) (by omega)
  by_cases h : node ≥ (0 : Int)
  · exact go_o hq (go_d h (go_o (k_wire_pipe_must _ _ _ _) (by simp [oByte, wByte, h])))
  · exact go_o hq (go_n h (go_o (k_wire_pipe_must _ _ _ _) (by simp [oByte, wByte, h])))
theorem k_wire_pipe_node_c (k : Nat) (hk : 17000000 ≤ k)  (hb : b.length + ((wByte node).length) ≤ 10000000000000) : wire_pipe_node_c.run (k + 20) b wrong kind from_ to_ txn base epoch since mark ask attempt node yes no wiped at_ at1 part part1 versions = some ((b ++ (wByte node), ()), ((), (), wrong || !(oByte node (8 : Int)), ()), (kind, from_, to_, txn, base, epoch, since, mark, ask, attempt, node, yes, no, wiped, at_, at1, part, part1, versions, ()), ()) := by
  refine go_o (k_wire_pipe_byte_e k hk (by (try simp only [List.length_append]); omega)) (?_)
  simp only [List.append_assoc, Bool.or_assoc, Bool.not_and, Bool.not_true, Bool.or_false, Bool.true_and, Bool.and_true]
theorem k_wire_pipe_long_i (k : Nat) (hk : 17000000 ≤ k)  (h1 : U64 attempt) (hb : b.length + ((wLong attempt).length) ≤ 10000000000000) : wire_pipe_long_i.run (k + 20) b wrong kind from_ to_ txn base epoch since mark ask attempt node yes no wiped at_ at1 part part1 versions = some ((b ++ wLong attempt, ()), (kind, from_, to_, txn, base, epoch, since, mark, ask, attempt, node, yes, no, wiped, at_, at1, part, part1, versions, ()), ()) := by
  exact go_o (w_long k h1 (by (try simp only [List.length_append]); omega)) rfl
theorem k_wire_pipe_long_j (k : Nat) (hk : 17000000 ≤ k)  (h1 : U64 since) (hb : b.length + ((wLong since).length) ≤ 10000000000000) : wire_pipe_long_j.run (k + 20) b wrong kind from_ to_ txn base epoch since mark ask attempt node yes no wiped at_ at1 part part1 versions = some ((b ++ wLong since, ()), (kind, from_, to_, txn, base, epoch, since, mark, ask, attempt, node, yes, no, wiped, at_, at1, part, part1, versions, ()), ()) := by
  exact go_o (w_long k h1 (by (try simp only [List.length_append]); omega)) rfl
theorem k_wire_pipe_longs_e (k : Nat) (hk : 17000000 ≤ k)  (h1 : U64 since) (h2 : U64 epoch) (hb : b.length + ((wLong since).length + ((wLong epoch).length)) ≤ 10000000000000) : wire_pipe_longs_e.run (k + 20) b wrong kind from_ to_ txn base epoch since mark ask attempt node yes no wiped at_ at1 part part1 versions = some ((b ++ (wLong since ++ (wLong epoch)), ()), (kind, from_, to_, txn, base, epoch, since, mark, ask, attempt, node, yes, no, wiped, at_, at1, part, part1, versions, ()), ()) := by
  refine go_o (k_wire_pipe_long_j k hk h1 (by (try simp only [List.length_append]); omega)) (go_o (k_wire_pipe_long_d k hk h2 (by (try simp only [List.length_append]); omega)) (?_))
  simp only [List.append_assoc, Bool.or_assoc, Bool.not_and, Bool.not_true, Bool.or_false, Bool.true_and, Bool.and_true]
theorem k_wire_pipe_fields_f8 (k : Nat) (hk : 17000000 ≤ k)  (h1 : U64 attempt) (h2 : U64 since) (h3 : U64 epoch) (hb : b.length + ((wByte node).length + ((wLong attempt).length + ((wPlace at_).length + ((wPlace at1).length + ((wLong since).length + ((wLong epoch).length)))))) ≤ 10000000000000) : wire_pipe_fields_f8.run (k + 20) b wrong kind from_ to_ txn base epoch since mark ask attempt node yes no wiped at_ at1 part part1 versions = some ((b ++ (wByte node ++ (wLong attempt ++ (wPlace at_ ++ (wPlace at1 ++ (wLong since ++ (wLong epoch)))))), ()), ((), (), wrong || !(oByte node (8 : Int) && (oPlace at_ && (oPlace at1))), ()), (kind, from_, to_, txn, base, epoch, since, mark, ask, attempt, node, yes, no, wiped, at_, at1, part, part1, versions, ()), ()) := by
  refine go_o (k_wire_pipe_node_c k hk (by (try simp only [List.length_append]); omega)) (go_o (k_wire_pipe_long_i k hk h1 (by (try simp only [List.length_append]); omega)) (go_o (k_wire_pipe_segment_c k hk (by (try simp only [List.length_append]); omega)) (go_o (k_wire_pipe_longs_e k hk h2 h3 (by (try simp only [List.length_append]); omega)) (?_))))
  simp only [List.append_assoc, Bool.or_assoc, Bool.not_and, Bool.not_true, Bool.or_false, Bool.true_and, Bool.and_true]
theorem k_wire_pipe_longs_f (k : Nat) (hk : 17000000 ≤ k)  (h1 : U64 since) (h2 : U64 epoch) (h3 : U64 mark) (hb : b.length + ((wLong since).length + ((wLong epoch).length + ((wLong mark).length))) ≤ 10000000000000) : wire_pipe_longs_f.run (k + 20) b wrong kind from_ to_ txn base epoch since mark ask attempt node yes no wiped at_ at1 part part1 versions = some ((b ++ (wLong since ++ (wLong epoch ++ (wLong mark))), ()), (kind, from_, to_, txn, base, epoch, since, mark, ask, attempt, node, yes, no, wiped, at_, at1, part, part1, versions, ()), ()) := by
  refine go_o (k_wire_pipe_long_j k hk h1 (by (try simp only [List.length_append]); omega)) (go_o (k_wire_pipe_long_d k hk h2 (by (try simp only [List.length_append]); omega)) (go_o (k_wire_pipe_long_e k hk h3 (by (try simp only [List.length_append]); omega)) (?_)))
  simp only [List.append_assoc, Bool.or_assoc, Bool.not_and, Bool.not_true, Bool.or_false, Bool.true_and, Bool.and_true]
theorem k_wire_pipe_fields_f9 (k : Nat) (hk : 17000000 ≤ k)  (h1 : U64 attempt) (h2 : U64 since) (h3 : U64 epoch) (h4 : U64 mark) (h5 : ∀ x ∈ versions, BVer x) (h6 : versions.length ≤ 16777216) (hb : b.length + ((wLong attempt).length + ((wPlace at_).length + ((wPlace at1).length + ((wLong since).length + ((wLong epoch).length + ((wLong mark).length + ((wList wVer versions).length))))))) ≤ 10000000000000) : wire_pipe_fields_f9.run (k + 20) b wrong kind from_ to_ txn base epoch since mark ask attempt node yes no wiped at_ at1 part part1 versions = some ((b ++ (wLong attempt ++ (wPlace at_ ++ (wPlace at1 ++ (wLong since ++ (wLong epoch ++ (wLong mark ++ (wList wVer versions))))))), ()), ((), (), wrong || !(oPlace at_ && (oPlace at1 && (versions.all oVer))), ()), (kind, from_, to_, txn, base, epoch, since, mark, ask, attempt, node, yes, no, wiped, at_, at1, part, part1, versions, ()), ()) := by
  refine go_o (k_wire_pipe_long_i k hk h1 (by (try simp only [List.length_append]); omega)) (go_o (k_wire_pipe_segment_c k hk (by (try simp only [List.length_append]); omega)) (go_o (k_wire_pipe_longs_f k hk h2 h3 h4 (by (try simp only [List.length_append]); omega)) (go_o (k_wire_pipe_versions k hk h5 h6 (by (try simp only [List.length_append]); omega)) (?_))))
  simp only [List.append_assoc, Bool.or_assoc, Bool.not_and, Bool.not_true, Bool.or_false, Bool.true_and, Bool.and_true]
theorem k_wire_pipe_longs_g (k : Nat) (hk : 17000000 ≤ k)  (h1 : U64 attempt) (h2 : U64 epoch) (hb : b.length + ((wLong attempt).length + ((wLong epoch).length)) ≤ 10000000000000) : wire_pipe_longs_g.run (k + 20) b wrong kind from_ to_ txn base epoch since mark ask attempt node yes no wiped at_ at1 part part1 versions = some ((b ++ (wLong attempt ++ (wLong epoch)), ()), (kind, from_, to_, txn, base, epoch, since, mark, ask, attempt, node, yes, no, wiped, at_, at1, part, part1, versions, ()), ()) := by
  refine go_o (k_wire_pipe_long_i k hk h1 (by (try simp only [List.length_append]); omega)) (go_o (k_wire_pipe_long_d k hk h2 (by (try simp only [List.length_append]); omega)) (?_))
  simp only [List.append_assoc, Bool.or_assoc, Bool.not_and, Bool.not_true, Bool.or_false, Bool.true_and, Bool.and_true]
theorem k_wire_pipe_fields_f10 (k : Nat) (hk : 17000000 ≤ k)  (h1 : U64 attempt) (h2 : U64 epoch) (hb : b.length + ((wLong attempt).length + ((wLong epoch).length)) ≤ 10000000000000) : wire_pipe_fields_f10.run (k + 20) b wrong kind from_ to_ txn base epoch since mark ask attempt node yes no wiped at_ at1 part part1 versions = some ((b ++ (wLong attempt ++ (wLong epoch)), ()), (kind, from_, to_, txn, base, epoch, since, mark, ask, attempt, node, yes, no, wiped, at_, at1, part, part1, versions, ()), ()) := by
  refine go_o (k_wire_pipe_longs_g k hk h1 h2 (by (try simp only [List.length_append]); omega)) (?_)
  simp only [List.append_assoc, Bool.or_assoc, Bool.not_and, Bool.not_true, Bool.or_false, Bool.true_and, Bool.and_true]
theorem k_wire_pipe_fields_f11 (k : Nat) (hk : 17000000 ≤ k)  (h1 : U64 mark) (hb : b.length + ((wLong mark).length) ≤ 10000000000000) : wire_pipe_fields_f11.run (k + 20) b wrong kind from_ to_ txn base epoch since mark ask attempt node yes no wiped at_ at1 part part1 versions = some ((b ++ (wLong mark), ()), (kind, from_, to_, txn, base, epoch, since, mark, ask, attempt, node, yes, no, wiped, at_, at1, part, part1, versions, ()), ()) := by
  refine go_o (k_wire_pipe_long_e k hk h1 (by (try simp only [List.length_append]); omega)) (?_)
  simp only [List.append_assoc, Bool.or_assoc, Bool.not_and, Bool.not_true, Bool.or_false, Bool.true_and, Bool.and_true]
theorem k_wire_pipe_fields_f12 (k : Nat) (hk : 17000000 ≤ k)  (h1 : U64 ask) (hb : b.length + ((wLong ask).length) ≤ 10000000000000) : wire_pipe_fields_f12.run (k + 20) b wrong kind from_ to_ txn base epoch since mark ask attempt node yes no wiped at_ at1 part part1 versions = some ((b ++ (wLong ask), ()), (kind, from_, to_, txn, base, epoch, since, mark, ask, attempt, node, yes, no, wiped, at_, at1, part, part1, versions, ()), ()) := by
  refine go_o (k_wire_pipe_long_f k hk h1 (by (try simp only [List.length_append]); omega)) (?_)
  simp only [List.append_assoc, Bool.or_assoc, Bool.not_and, Bool.not_true, Bool.or_false, Bool.true_and, Bool.and_true]
end
end Go.Hay.Ytpgamibdlinhjaa
