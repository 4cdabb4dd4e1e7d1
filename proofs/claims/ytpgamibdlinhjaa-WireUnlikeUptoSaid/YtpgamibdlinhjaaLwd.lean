/- What the functions of a pipe that read come to. Conditions: sizes below a bound, numbers that fit. -/
import Derived.Test.YtpgamibdlinhjaaLwc
set_option linter.unusedVariables false
set_option linter.unusedSimpArgs false
namespace Go.Hay.Ytpgamibdlinhjaa
open Go Go.Hay Go.Proofs
theorem r_long (k : Nat) {b : List UInt8} {e : Int} : codec_Reader_Long.run (k + 20) b e = some (((hiX b e 8).1.1, (hiX b e 8).1.2, ()), (((hiX b e 8).2 : Nat) : Int), ()) := go_o (rd_high (k + 11) b e 8 (by omega)) rfl
theorem r_word (k : Nat) {b : List UInt8} {e : Int} : codec_Reader_Word.run (k + 20) b e = some (((hiX b e 4).1.1, (hiX b e 4).1.2, ()), (((hiX b e 4).2 : Nat) : Int), ()) := by
  refine go_o (rd_high (k + 11) b e 4 (by omega)) ?_
  have := hi_lt b e 4
  dsimp only
  rw [show IntKind.u32.wrap (((hiX b e 4).2 : Nat) : Int) = (((hiX b e 4).2 : Nat) : Int) by rw [w_u32]; omega]
theorem r_byte (k : Nat) {b : List UInt8} {e : Int} : codec_Reader_Byte.run (k + 20) b e = some (((hiX b e 1).1.1, (hiX b e 1).1.2, ()), Hay.u8 (IntKind.u8.wrap (((hiX b e 1).2 : Nat) : Int)), ()) := go_o (rd_high (k + 11) b e 1 (by omega)) rfl
theorem rb_wrap (b : List UInt8) (e : Int) : IntKind.i64.wrap ((Hay.u8 (IntKind.u8.wrap (((hiX b e 1).2 : Nat) : Int))).toNat : Int) = (((hiX b e 1).2 : Nat) : Int) := by
  have := hi_lt b e 1
  rw [u8_nat, UInt8.toNat_ofNat', wrap_nat _ (by omega)]
  omega
theorem r_place (k : Nat) {b : List UInt8} {e : Int} : codec_Reader_Var.run (k + 20) b e (2147483647 : Int) = some (((varR b e 2147483647).1.1, (varR b e 2147483647).1.2, ()), (((varR b e 2147483647).2 : Nat) : Int), ()) := rd_var (k + 11) b e 2147483647
theorem r_var (k : Nat) {b : List UInt8} {e : Int} : codec_Reader_Var.run (k + 20) b e (16777216 : Int) = some (((varR b e 16777216).1.1, (varR b e 16777216).1.2, ()), (((varR b e 16777216).2 : Nat) : Int), ()) := rd_var (k + 11) b e 16777216
theorem var_few (b : List UInt8) (e most : Int) (hm : 0 ≤ most) : (((varR b e most).2 : Nat) : Int) ≤ most := by
  unfold varR
  split
  · exact hm
  · split
    · exact hm
    · rename_i n m hq
      exact (varX_ok hq).2
theorem var_most (b : List UInt8) (e : Int) : (varR b e 16777216).2 ≤ 16777216 := by have := var_few b e 16777216 (by decide); omega
theorem place_wrap (b : List UInt8) (e : Int) : IntKind.i64.wrap (((varR b e 2147483647).2 : Nat) : Int) = (((varR b e 2147483647).2 : Nat) : Int) := by
  have := var_few b e 2147483647 (by decide)
  exact wrap_nat _ (by omega)
theorem r_text (k : Nat) {b : List UInt8} {e : Int} (hb : b.length ≤ 1000000000000) : codec_Reader_Text.run (k + 20) b e (16777216 : Int) = some (((textR b e 16777216).1.1, (textR b e 16777216).1.2, ()), (textR b e 16777216).2, ()) := rd_text (k + 11) b e 16777216 (by omega) (by decide)
theorem text_few (b : List UInt8) (e most : Int) : (textR b e most).2.length ≤ b.length := by
  unfold textR
  split
  · exact Nat.zero_le _
  · split
    · exact Nat.zero_le _
    · split
      · exact Nat.zero_le _
      · simp only [List.length_take, List.length_drop]
        omega
section
variable {b : (List UInt8)} {e kind from_ to_ txn base epoch since mark ask attempt node at_ at1 most ver ver1 ver3 id_ id1 n_ deleted : Int} {wrong yes no wiped : Bool} {part : (List T7)} {part1 : (List T8)} {versions : (List T6)} {ver2 row : (List T4)}
theorem k_wire_pipe_must_b (N : Nat) (b : List UInt8) (e : Int) (wrong ok_ : Bool) : wire_pipe_must_b.run N b e wrong ok_ = some ((b, e, ()), ((), (), wrong || !ok_, ()), ()) := by cases wrong <;> rfl
theorem k_wire_pipe_byte_f (k : Nat) (hk : 17000000 ≤ k)  (hb : b.length ≤ 1000000000000) : wire_pipe_byte_f.run (k + 20) b e wrong kind from_ to_ txn base epoch since mark ask attempt node yes no wiped at_ at1 part part1 versions most = some (((rByte (b, e, wrong) most).1.1, (rByte (b, e, wrong) most).1.2.1, ()), ((), (), (rByte (b, e, wrong) most).1.2.2, ()), ((rByte (b, e, wrong) most).2, from_, to_, txn, base, epoch, since, mark, ask, attempt, node, yes, no, wiped, at_, at1, part, part1, versions, ()), ()) := by
  refine go_o (r_byte k) ?_
  have hc := rb_wrap b e
  dsimp only
  rw [hc]
  exact go_d (Int.natCast_nonneg _) (go_o (k_wire_pipe_must_b _ _ _ _ _) (by simp [rByte, oByte]))
theorem k_wire_pipe_byte_g (k : Nat) (hk : 17000000 ≤ k)  (hb : b.length ≤ 1000000000000) : wire_pipe_byte_g.run (k + 20) b e wrong kind from_ to_ txn base epoch since mark ask attempt node yes no wiped at_ at1 part part1 versions most = some (((rByte (b, e, wrong) most).1.1, (rByte (b, e, wrong) most).1.2.1, ()), ((), (), (rByte (b, e, wrong) most).1.2.2, ()), (kind, (rByte (b, e, wrong) most).2, to_, txn, base, epoch, since, mark, ask, attempt, node, yes, no, wiped, at_, at1, part, part1, versions, ()), ()) := by
  refine go_o (r_byte k) ?_
  have hc := rb_wrap b e
  dsimp only
  rw [hc]
  exact go_d (Int.natCast_nonneg _) (go_o (k_wire_pipe_must_b _ _ _ _ _) (by simp [rByte, oByte]))
theorem k_wire_pipe_node_d (k : Nat) (hk : 17000000 ≤ k)  (hb : b.length ≤ 1000000000000) : wire_pipe_node_d.run (k + 20) b e wrong kind from_ to_ txn base epoch since mark ask attempt node yes no wiped at_ at1 part part1 versions = some (((rByte (b, e, wrong) (8 : Int)).1.1, (rByte (b, e, wrong) (8 : Int)).1.2.1, ()), ((), (), (rByte (b, e, wrong) (8 : Int)).1.2.2, ()), (kind, (rByte (b, e, wrong) (8 : Int)).2, to_, txn, base, epoch, since, mark, ask, attempt, node, yes, no, wiped, at_, at1, part, part1, versions, ()), ()) := by
  have q1 : (rByte (b, e, wrong) (8 : Int)).1.1.length ≤ 1000000000000 := Nat.le_trans (hi_le _ _ _) hb
  exact go_o (k_wire_pipe_byte_g k hk hb) (rfl)
theorem k_wire_pipe_byte_h (k : Nat) (hk : 17000000 ≤ k)  (hb : b.length ≤ 1000000000000) : wire_pipe_byte_h.run (k + 20) b e wrong kind from_ to_ txn base epoch since mark ask attempt node yes no wiped at_ at1 part part1 versions most = some (((rByte (b, e, wrong) most).1.1, (rByte (b, e, wrong) most).1.2.1, ()), ((), (), (rByte (b, e, wrong) most).1.2.2, ()), (kind, from_, (rByte (b, e, wrong) most).2, txn, base, epoch, since, mark, ask, attempt, node, yes, no, wiped, at_, at1, part, part1, versions, ()), ()) := by
  refine go_o (r_byte k) ?_
  have hc := rb_wrap b e
  dsimp only
  rw [hc]
  exact go_d (Int.natCast_nonneg _) (go_o (k_wire_pipe_must_b _ _ _ _ _) (by simp [rByte, oByte]))
theorem k_wire_pipe_node_e (k : Nat) (hk : 17000000 ≤ k)  (hb : b.length ≤ 1000000000000) : wire_pipe_node_e.run (k + 20) b e wrong kind from_ to_ txn base epoch since mark ask attempt node yes no wiped at_ at1 part part1 versions = some (((rByte (b, e, wrong) (8 : Int)).1.1, (rByte (b, e, wrong) (8 : Int)).1.2.1, ()), ((), (), (rByte (b, e, wrong) (8 : Int)).1.2.2, ()), (kind, from_, (rByte (b, e, wrong) (8 : Int)).2, txn, base, epoch, since, mark, ask, attempt, node, yes, no, wiped, at_, at1, part, part1, versions, ()), ()) := by
  have q1 : (rByte (b, e, wrong) (8 : Int)).1.1.length ≤ 1000000000000 := Nat.le_trans (hi_le _ _ _) hb
  exact go_o (k_wire_pipe_byte_h k hk hb) (rfl)
theorem k_wire_pipe_long_k (k : Nat) (hk : 17000000 ≤ k)  (hb : b.length ≤ 1000000000000) : wire_pipe_long_k.run (k + 20) b e wrong kind from_ to_ txn base epoch since mark ask attempt node yes no wiped at_ at1 part part1 versions = some (((rLong (b, e, wrong)).1.1, (rLong (b, e, wrong)).1.2.1, ()), (kind, from_, to_, (rLong (b, e, wrong)).2, base, epoch, since, mark, ask, attempt, node, yes, no, wiped, at_, at1, part, part1, versions, ()), ()) := by
  exact go_o (r_long k) rfl
theorem k_wire_pipe_long_l (k : Nat) (hk : 17000000 ≤ k)  (hb : b.length ≤ 1000000000000) : wire_pipe_long_l.run (k + 20) b e wrong kind from_ to_ txn base epoch since mark ask attempt node yes no wiped at_ at1 part part1 versions = some (((rLong (b, e, wrong)).1.1, (rLong (b, e, wrong)).1.2.1, ()), (kind, from_, to_, txn, (rLong (b, e, wrong)).2, epoch, since, mark, ask, attempt, node, yes, no, wiped, at_, at1, part, part1, versions, ()), ()) := by
  exact go_o (r_long k) rfl
theorem k_wire_pipe_longs_h (k : Nat) (hk : 17000000 ≤ k)  (hb : b.length ≤ 1000000000000) : wire_pipe_longs_h.run (k + 20) b e wrong kind from_ to_ txn base epoch since mark ask attempt node yes no wiped at_ at1 part part1 versions = some (((rLong (rLong (b, e, wrong)).1).1.1, (rLong (rLong (b, e, wrong)).1).1.2.1, ()), (kind, from_, to_, (rLong (b, e, wrong)).2, (rLong (rLong (b, e, wrong)).1).2, epoch, since, mark, ask, attempt, node, yes, no, wiped, at_, at1, part, part1, versions, ()), ()) := by
  have q1 : (rLong (b, e, wrong)).1.1.length ≤ 1000000000000 := Nat.le_trans (rLong_cod.le _) hb
  have q2 : (rLong (rLong (b, e, wrong)).1).1.1.length ≤ 1000000000000 := Nat.le_trans (rLong_cod.le _) q1
  exact go_o (k_wire_pipe_long_k k hk hb) (go_o (k_wire_pipe_long_l k hk q1) (rfl))
theorem k_wire_pipe_failed (N : Nat) (b : List UInt8) (e : Int) (wrong : Bool) : wire_pipe_failed.run N b e wrong = some (failed (b, e, wrong), ()) := by cases wrong <;> rfl
theorem k_wire_pipe_place_g (k : Nat) (hk : 17000000 ≤ k)  (hb : b.length ≤ 1000000000000) : wire_pipe_place_g.run (k + 20) b e wrong at_ at1 ver ver1 ver2 ver3 = some (((rPlace (b, e, wrong)).1.1, (rPlace (b, e, wrong)).1.2.1, ()), ((rPlace (b, e, wrong)).2, at1, ver, ver1, ver2, ver3, ()), ()) := by
  exact go_o (r_place k) (by dsimp only; rw [place_wrap]; rfl)
theorem k_wire_pipe_place_h (k : Nat) (hk : 17000000 ≤ k)  (hb : b.length ≤ 1000000000000) : wire_pipe_place_h.run (k + 20) b e wrong at_ at1 ver ver1 ver2 ver3 = some (((rPlace (b, e, wrong)).1.1, (rPlace (b, e, wrong)).1.2.1, ()), (at_, (rPlace (b, e, wrong)).2, ver, ver1, ver2, ver3, ()), ()) := by
  exact go_o (r_place k) (by dsimp only; rw [place_wrap]; rfl)
theorem k_wire_pipe_segment_d (k : Nat) (hk : 17000000 ≤ k)  (hb : b.length ≤ 1000000000000) : wire_pipe_segment_d.run (k + 20) b e wrong at_ at1 ver ver1 ver2 ver3 = some (((rSeg (b, e, wrong)).1.1, (rSeg (b, e, wrong)).1.2.1, ()), ((rSeg (b, e, wrong)).2.1, (rSeg (b, e, wrong)).2.2, ver, ver1, ver2, ver3, ()), ()) := by
  have q1 : (rPlace (b, e, wrong)).1.1.length ≤ 1000000000000 := Nat.le_trans (rPlace_cod.le _) hb
  have q2 : (rPlace (rPlace (b, e, wrong)).1).1.1.length ≤ 1000000000000 := Nat.le_trans (rPlace_cod.le _) q1
  exact go_o (k_wire_pipe_place_g k hk hb) (go_o (k_wire_pipe_place_h k hk q1) (rfl))
theorem k_wire_pipe_word_d (k : Nat) (hk : 17000000 ≤ k)  (hb : b.length ≤ 1000000000000) : wire_pipe_word_d.run (k + 20) b e wrong at_ at1 ver ver1 ver2 ver3 = some (((rWord (b, e, wrong)).1.1, (rWord (b, e, wrong)).1.2.1, ()), (at_, at1, ver, (rWord (b, e, wrong)).2, ver2, ver3, ()), ()) := by
  exact go_o (r_word k) rfl
theorem k_wire_pipe_row_c (k : Nat) (hk : 17000000 ≤ k)  (hb : b.length ≤ 1000000000000) : wire_pipe_row_c.run (k + 20) b e wrong at_ at1 ver ver1 ver2 ver3 = some (((rRow (b, e, wrong)).1.1, (rRow (b, e, wrong)).1.2.1, ()), ((), (), (rRow (b, e, wrong)).1.2.2, ()), (at_, at1, ver, ver1, (rRow (b, e, wrong)).2, ver3, ()), ()) := by
  have hq := Rw.decode_ok (k + 11) (by omega) (textR b e 16777216).2 (by have := text_few b e 16777216; omega)
  unfold Rw.decR at hq
  unfold rRow
  cases hd : Rw.decode (textR b e 16777216).2 with
  | none => rw [hd] at hq; exact go_o (r_text k (by omega)) (go_o hq (go_o (k_wire_pipe_must_b _ _ _ _ _) rfl))
  | some l => rw [hd] at hq; exact go_o (r_text k (by omega)) (go_o hq (go_o (k_wire_pipe_must_b _ _ _ _ _) rfl))
theorem insert_0 (N : Nat) (b : List UInt8) (e : Int) (wrong : Bool) : wire_pipe_insert_b_0.run N b e wrong (0 : Int) (0 : Int) (0 : Int) (0 : Int) ([] : List V) (0 : Int) = some ((b, e, ()), ((), (), wrong, ()), ()) := go_d rfl (go_o (k_wire_pipe_must_b _ _ _ _ _) (by simp))
theorem kx_wire_pipe_insert_b (k : Nat) (hk : 17000000 ≤ k) {b : List UInt8} {e : Int} {wrong : Bool} (hb : b.length ≤ 1000000000000) : wire_pipe_insert_b.run (k + 20) b e wrong (0 : Int) (0 : Int) (0 : Int) (0 : Int) ([] : List V) (0 : Int) = some (((rIns (b, e, wrong)).1.1, (rIns (b, e, wrong)).1.2.1, ()), ((), (), (rIns (b, e, wrong)).1.2.2, ()), ((rIns (b, e, wrong)).2.1.1, (rIns (b, e, wrong)).2.1.2, (rIns (b, e, wrong)).2.2.1.1, (rIns (b, e, wrong)).2.2.1.2, (rIns (b, e, wrong)).2.2.2.1, (rIns (b, e, wrong)).2.2.2.2, ()), ()) := by
  have q1 : (rSeg (b, e, wrong)).1.1.length ≤ 1000000000000 := Nat.le_trans (rSeg_cod.le _) hb
  have q2 : (rWord (rSeg (b, e, wrong)).1).1.1.length ≤ 1000000000000 := Nat.le_trans (rWord_cod.le _) q1
  have q3 : (rRow (rWord (rSeg (b, e, wrong)).1).1).1.1.length ≤ 1000000000000 := Nat.le_trans (rRow_cod.le _) q2
  exact go_o (insert_0 (k + 20) b e wrong) (go_o (k_wire_pipe_segment_d k hk hb) (go_o (k_wire_pipe_word_d k hk q1) (go_o (k_wire_pipe_row_c k hk q2) (rfl))))
theorem k_wire_list_api_Insert_b_0 (k : Nat) (hk : 17000000 ≤ k)  : ∀ (n : Nat) (b : List UInt8) (e : Int) (wrong : Bool) (part : List Ins) (fuel : Nat), b.length ≤ 1000000000000 → part.length + n ≤ 16777216 → n < fuel →
    wire_list_api_Insert_b_0.go (k + 20) fuel b e wrong kind from_ to_ txn base epoch since mark ask attempt node yes no wiped at_ at1 part part1 versions (n : Int) = some (((rL rIns n (b, e, wrong) part).1.1, (rL rIns n (b, e, wrong) part).1.2.1, ()), ((), (), (rL rIns n (b, e, wrong) part).1.2.2, ()), (kind, from_, to_, txn, base, epoch, since, mark, ask, attempt, node, yes, no, wiped, at_, at1, (rL rIns n (b, e, wrong) part).2, part1, versions, ()), ())
  | _, _, _, _, _, 0, _, _, h => absurd h (Nat.not_lt_zero _)
  | 0, b, e, wrong, part, fuel + 1, hb, hl, hf => go_n (by decide) rfl
  | n + 1, b, e, wrong, part, fuel + 1, hb, hl, hf => by
    refine go_d (by omega) (go_o (k_wire_pipe_failed _ _ _ _) ?_)
    rw [rL]
    cases hq : failed (b, e, wrong) with
    | true => exact go_f rfl rfl
    | false =>
      rw [if_neg (by decide)]
      refine go_t rfl (go_o (kx_wire_pipe_insert_b k hk hb) (go_t (room_t (by omega) (by omega)) ?_))
      rw [show IntKind.u64.wrap (((n + 1 : Nat) : Int) - (1 : Int)) = (n : Int) by rw [w_u64]; omega]
      exact k_wire_list_api_Insert_b_0 k hk n _ _ _ (part ++ [(rIns (b, e, wrong)).2]) fuel (Nat.le_trans (rIns_cod.le _) hb) (by rw [List.length_append]; simp; omega) (by omega)
theorem k_wire_list_api_Insert_b (k : Nat) (hk : 17000000 ≤ k)  (hb : b.length ≤ 1000000000000) : wire_list_api_Insert_b.run (k + 20) b e wrong kind from_ to_ txn base epoch since mark ask attempt node yes no wiped at_ at1 part part1 versions = some (((rList rIns (b, e, wrong)).1.1, (rList rIns (b, e, wrong)).1.2.1, ()), ((), (), (rList rIns (b, e, wrong)).1.2.2, ()), (kind, from_, to_, txn, base, epoch, since, mark, ask, attempt, node, yes, no, wiped, at_, at1, (rList rIns (b, e, wrong)).2, part1, versions, ()), ()) := by
  refine go_o (r_var k) (go_o (k_wire_list_api_Insert_b_0 k hk (varR b e 16777216).2 (varR b e 16777216).1.1 (varR b e 16777216).1.2 wrong [] (k + 20) (Nat.le_trans (var_le _ _ _) hb) (by have := var_most b e; simp; omega) (by have := var_most b e; omega)) rfl)
theorem k_wire_pipe_place_i (k : Nat) (hk : 17000000 ≤ k)  (hb : b.length ≤ 1000000000000) : wire_pipe_place_i.run (k + 20) b e wrong at_ at1 id_ id1 = some (((rPlace (b, e, wrong)).1.1, (rPlace (b, e, wrong)).1.2.1, ()), ((rPlace (b, e, wrong)).2, at1, id_, id1, ()), ()) := by
  exact go_o (r_place k) (by dsimp only; rw [place_wrap]; rfl)
theorem k_wire_pipe_place_j (k : Nat) (hk : 17000000 ≤ k)  (hb : b.length ≤ 1000000000000) : wire_pipe_place_j.run (k + 20) b e wrong at_ at1 id_ id1 = some (((rPlace (b, e, wrong)).1.1, (rPlace (b, e, wrong)).1.2.1, ()), (at_, (rPlace (b, e, wrong)).2, id_, id1, ()), ()) := by
  exact go_o (r_place k) (by dsimp only; rw [place_wrap]; rfl)
theorem k_wire_pipe_segment_e (k : Nat) (hk : 17000000 ≤ k)  (hb : b.length ≤ 1000000000000) : wire_pipe_segment_e.run (k + 20) b e wrong at_ at1 id_ id1 = some (((rSeg (b, e, wrong)).1.1, (rSeg (b, e, wrong)).1.2.1, ()), ((rSeg (b, e, wrong)).2.1, (rSeg (b, e, wrong)).2.2, id_, id1, ()), ()) := by
  have q1 : (rPlace (b, e, wrong)).1.1.length ≤ 1000000000000 := Nat.le_trans (rPlace_cod.le _) hb
  have q2 : (rPlace (rPlace (b, e, wrong)).1).1.1.length ≤ 1000000000000 := Nat.le_trans (rPlace_cod.le _) q1
  exact go_o (k_wire_pipe_place_i k hk hb) (go_o (k_wire_pipe_place_j k hk q1) (rfl))
theorem k_wire_pipe_long_m (k : Nat) (hk : 17000000 ≤ k)  (hb : b.length ≤ 1000000000000) : wire_pipe_long_m.run (k + 20) b e wrong at_ at1 id_ id1 = some (((rLong (b, e, wrong)).1.1, (rLong (b, e, wrong)).1.2.1, ()), (at_, at1, (rLong (b, e, wrong)).2, id1, ()), ()) := by
  exact go_o (r_long k) rfl
theorem k_wire_pipe_word_e (k : Nat) (hk : 17000000 ≤ k)  (hb : b.length ≤ 1000000000000) : wire_pipe_word_e.run (k + 20) b e wrong at_ at1 id_ id1 = some (((rWord (b, e, wrong)).1.1, (rWord (b, e, wrong)).1.2.1, ()), (at_, at1, id_, (rWord (b, e, wrong)).2, ()), ()) := by
  exact go_o (r_word k) rfl
theorem k_wire_pipe_name_c (k : Nat) (hk : 17000000 ≤ k)  (hb : b.length ≤ 1000000000000) : wire_pipe_name_c.run (k + 20) b e wrong at_ at1 id_ id1 = some (((rName (b, e, wrong)).1.1, (rName (b, e, wrong)).1.2.1, ()), (at_, at1, (rName (b, e, wrong)).2.1, (rName (b, e, wrong)).2.2, ()), ()) := by
  have q1 : (rLong (b, e, wrong)).1.1.length ≤ 1000000000000 := Nat.le_trans (rLong_cod.le _) hb
  have q2 : (rWord (rLong (b, e, wrong)).1).1.1.length ≤ 1000000000000 := Nat.le_trans (rWord_cod.le _) q1
  exact go_o (k_wire_pipe_long_m k hk hb) (go_o (k_wire_pipe_word_e k hk q1) (rfl))
theorem k_wire_pipe_erase_b (k : Nat) (hk : 17000000 ≤ k)  (hb : b.length ≤ 1000000000000) : wire_pipe_erase_b.run (k + 20) b e wrong at_ at1 id_ id1 = some (((rErs (b, e, wrong)).1.1, (rErs (b, e, wrong)).1.2.1, ()), ((rErs (b, e, wrong)).2.1.1, (rErs (b, e, wrong)).2.1.2, (rErs (b, e, wrong)).2.2.1, (rErs (b, e, wrong)).2.2.2, ()), ()) := by
  have q1 : (rSeg (b, e, wrong)).1.1.length ≤ 1000000000000 := Nat.le_trans (rSeg_cod.le _) hb
  have q2 : (rName (rSeg (b, e, wrong)).1).1.1.length ≤ 1000000000000 := Nat.le_trans (rName_cod.le _) q1
  exact go_o (k_wire_pipe_segment_e k hk hb) (go_o (k_wire_pipe_name_c k hk q1) (rfl))
theorem kx_wire_pipe_erase_b (k : Nat) (hk : 17000000 ≤ k) {b : List UInt8} {e : Int} {wrong : Bool} (hb : b.length ≤ 1000000000000) : wire_pipe_erase_b.run (k + 20) b e wrong (0 : Int) (0 : Int) (0 : Int) (0 : Int) = some (((rErs (b, e, wrong)).1.1, (rErs (b, e, wrong)).1.2.1, ()), ((rErs (b, e, wrong)).2.1.1, (rErs (b, e, wrong)).2.1.2, (rErs (b, e, wrong)).2.2.1, (rErs (b, e, wrong)).2.2.2, ()), ()) := k_wire_pipe_erase_b k hk hb
theorem k_wire_list_api_Erase_b_0 (k : Nat) (hk : 17000000 ≤ k)  : ∀ (n : Nat) (b : List UInt8) (e : Int) (wrong : Bool) (part1 : List Ers) (fuel : Nat), b.length ≤ 1000000000000 → part1.length + n ≤ 16777216 → n < fuel →
    wire_list_api_Erase_b_0.go (k + 20) fuel b e wrong kind from_ to_ txn base epoch since mark ask attempt node yes no wiped at_ at1 part part1 versions (n : Int) = some (((rL rErs n (b, e, wrong) part1).1.1, (rL rErs n (b, e, wrong) part1).1.2.1, ()), (kind, from_, to_, txn, base, epoch, since, mark, ask, attempt, node, yes, no, wiped, at_, at1, part, (rL rErs n (b, e, wrong) part1).2, versions, ()), ())
  | _, _, _, _, _, 0, _, _, h => absurd h (Nat.not_lt_zero _)
  | 0, b, e, wrong, part1, fuel + 1, hb, hl, hf => go_n (by decide) rfl
  | n + 1, b, e, wrong, part1, fuel + 1, hb, hl, hf => by
    refine go_d (by omega) (go_o (k_wire_pipe_failed _ _ _ _) ?_)
    rw [rL]
    cases hq : failed (b, e, wrong) with
    | true => exact go_f rfl rfl
    | false =>
      rw [if_neg (by decide)]
      refine go_t rfl (go_o (kx_wire_pipe_erase_b k hk hb) (go_t (room_t (by omega) (by omega)) ?_))
      rw [show IntKind.u64.wrap (((n + 1 : Nat) : Int) - (1 : Int)) = (n : Int) by rw [w_u64]; omega]
      exact k_wire_list_api_Erase_b_0 k hk n _ _ _ (part1 ++ [(rErs (b, e, wrong)).2]) fuel (Nat.le_trans (rErs_cod.le _) hb) (by rw [List.length_append]; simp; omega) (by omega)
theorem k_wire_list_api_Erase_b (k : Nat) (hk : 17000000 ≤ k)  (hb : b.length ≤ 1000000000000) : wire_list_api_Erase_b.run (k + 20) b e wrong kind from_ to_ txn base epoch since mark ask attempt node yes no wiped at_ at1 part part1 versions = some (((rList rErs (b, e, wrong)).1.1, (rList rErs (b, e, wrong)).1.2.1, ()), (kind, from_, to_, txn, base, epoch, since, mark, ask, attempt, node, yes, no, wiped, at_, at1, part, (rList rErs (b, e, wrong)).2, versions, ()), ()) := by
  refine go_o (r_var k) (go_o (k_wire_list_api_Erase_b_0 k hk (varR b e 16777216).2 (varR b e 16777216).1.1 (varR b e 16777216).1.2 wrong [] (k + 20) (Nat.le_trans (var_le _ _ _) hb) (by have := var_most b e; simp; omega) (by have := var_most b e; omega)) rfl)
theorem k_wire_pipe_part_b (k : Nat) (hk : 17000000 ≤ k)  (hb : b.length ≤ 1000000000000) : wire_pipe_part_b.run (k + 20) b e wrong kind from_ to_ txn base epoch since mark ask attempt node yes no wiped at_ at1 part part1 versions = some (((rList rErs (rList rIns (b, e, wrong)).1).1.1, (rList rErs (rList rIns (b, e, wrong)).1).1.2.1, ()), ((), (), (rList rIns (b, e, wrong)).1.2.2, ()), (kind, from_, to_, txn, base, epoch, since, mark, ask, attempt, node, yes, no, wiped, at_, at1, (rList rIns (b, e, wrong)).2, (rList rErs (rList rIns (b, e, wrong)).1).2, versions, ()), ()) := by
  have q1 : (rList rIns (b, e, wrong)).1.1.length ≤ 1000000000000 := Nat.le_trans ((rIns_cod.list).le _) hb
  have q2 : (rList rErs (rList rIns (b, e, wrong)).1).1.1.length ≤ 1000000000000 := Nat.le_trans ((rErs_cod.list).le _) q1
  exact go_o (k_wire_list_api_Insert_b k hk hb) (go_o (k_wire_list_api_Erase_b k hk q1) (rfl))
theorem k_wire_pipe_fields_f1_b (k : Nat) (hk : 17000000 ≤ k)  (hb : b.length ≤ 1000000000000) : wire_pipe_fields_f1_b.run (k + 20) b e wrong kind from_ to_ txn base epoch since mark ask attempt node yes no wiped at_ at1 part part1 versions = some (((rList rErs (rList rIns (rLong (rLong (b, e, wrong)).1).1).1).1.1, (rList rErs (rList rIns (rLong (rLong (b, e, wrong)).1).1).1).1.2.1, ()), ((), (), (rList rIns (rLong (rLong (b, e, wrong)).1).1).1.2.2, ()), (kind, from_, to_, (rLong (b, e, wrong)).2, (rLong (rLong (b, e, wrong)).1).2, epoch, since, mark, ask, attempt, node, yes, no, wiped, at_, at1, (rList rIns (rLong (rLong (b, e, wrong)).1).1).2, (rList rErs (rList rIns (rLong (rLong (b, e, wrong)).1).1).1).2, versions, ()), ()) := by
  have q1 : (rLong (b, e, wrong)).1.1.length ≤ 1000000000000 := Nat.le_trans (rLong_cod.le _) hb
  have q2 : (rLong (rLong (b, e, wrong)).1).1.1.length ≤ 1000000000000 := Nat.le_trans (rLong_cod.le _) q1
  have q3 : (rList rIns (rLong (rLong (b, e, wrong)).1).1).1.1.length ≤ 1000000000000 := Nat.le_trans ((rIns_cod.list).le _) q2
  have q4 : (rList rErs (rList rIns (rLong (rLong (b, e, wrong)).1).1).1).1.1.length ≤ 1000000000000 := Nat.le_trans ((rErs_cod.list).le _) q3
  exact go_o (k_wire_pipe_longs_h k hk hb) (go_o (k_wire_pipe_part_b k hk q2) (rfl))
theorem k_wire_pipe_byte_i (k : Nat) (hk : 17000000 ≤ k)  (hb : b.length ≤ 1000000000000) : wire_pipe_byte_i.run (k + 20) b e wrong n_ most = some (((rByte (b, e, wrong) most).1.1, (rByte (b, e, wrong) most).1.2.1, ()), ((), (), (rByte (b, e, wrong) most).1.2.2, ()), ((rByte (b, e, wrong) most).2, ()), ()) := by
  refine go_o (r_byte k) ?_
  have hc := rb_wrap b e
  dsimp only
  rw [hc]
  exact go_d (Int.natCast_nonneg _) (go_o (k_wire_pipe_must_b _ _ _ _ _) (by simp [rByte, oByte]))
theorem k_wire_pipe_truth_d (k : Nat) (hk : 17000000 ≤ k)  (hb : b.length ≤ 1000000000000) : wire_pipe_truth_d.run (k + 20) b e wrong kind from_ to_ txn base epoch since mark ask attempt node yes no wiped at_ at1 part part1 versions = some (((rTruth (b, e, wrong)).1.1, (rTruth (b, e, wrong)).1.2.1, ()), ((), (), (rTruth (b, e, wrong)).1.2.2, ()), (kind, from_, to_, txn, base, epoch, since, mark, ask, attempt, node, (rTruth (b, e, wrong)).2, no, wiped, at_, at1, part, part1, versions, ()), ()) := by
  cases yes
  · exact go_f rfl (go_o (k_wire_pipe_byte_i k hk hb) rfl)
  · exact go_t rfl (go_o (k_wire_pipe_byte_i k hk hb) rfl)
theorem k_wire_pipe_fields_f2_b (k : Nat) (hk : 17000000 ≤ k)  (hb : b.length ≤ 1000000000000) : wire_pipe_fields_f2_b.run (k + 20) b e wrong kind from_ to_ txn base epoch since mark ask attempt node yes no wiped at_ at1 part part1 versions = some (((rTruth (rLong (b, e, wrong)).1).1.1, (rTruth (rLong (b, e, wrong)).1).1.2.1, ()), ((), (), (rTruth (rLong (b, e, wrong)).1).1.2.2, ()), (kind, from_, to_, (rLong (b, e, wrong)).2, base, epoch, since, mark, ask, attempt, node, (rTruth (rLong (b, e, wrong)).1).2, no, wiped, at_, at1, part, part1, versions, ()), ()) := by
  have q1 : (rLong (b, e, wrong)).1.1.length ≤ 1000000000000 := Nat.le_trans (rLong_cod.le _) hb
  have q2 : (rTruth (rLong (b, e, wrong)).1).1.1.length ≤ 1000000000000 := Nat.le_trans (rTruth_cod.le _) q1
  exact go_o (k_wire_pipe_long_k k hk hb) (go_o (k_wire_pipe_truth_d k hk q1) (rfl))
theorem k_wire_pipe_long_n (k : Nat) (hk : 17000000 ≤ k)  (hb : b.length ≤ 1000000000000) : wire_pipe_long_n.run (k + 20) b e wrong kind from_ to_ txn base epoch since mark ask attempt node yes no wiped at_ at1 part part1 versions = some (((rLong (b, e, wrong)).1.1, (rLong (b, e, wrong)).1.2.1, ()), (kind, from_, to_, txn, base, (rLong (b, e, wrong)).2, since, mark, ask, attempt, node, yes, no, wiped, at_, at1, part, part1, versions, ()), ()) := by
  exact go_o (r_long k) rfl
theorem k_wire_pipe_longs_i (k : Nat) (hk : 17000000 ≤ k)  (hb : b.length ≤ 1000000000000) : wire_pipe_longs_i.run (k + 20) b e wrong kind from_ to_ txn base epoch since mark ask attempt node yes no wiped at_ at1 part part1 versions = some (((rLong (rLong (b, e, wrong)).1).1.1, (rLong (rLong (b, e, wrong)).1).1.2.1, ()), (kind, from_, to_, (rLong (rLong (b, e, wrong)).1).2, base, (rLong (b, e, wrong)).2, since, mark, ask, attempt, node, yes, no, wiped, at_, at1, part, part1, versions, ()), ()) := by
  have q1 : (rLong (b, e, wrong)).1.1.length ≤ 1000000000000 := Nat.le_trans (rLong_cod.le _) hb
  have q2 : (rLong (rLong (b, e, wrong)).1).1.1.length ≤ 1000000000000 := Nat.le_trans (rLong_cod.le _) q1
  exact go_o (k_wire_pipe_long_n k hk hb) (go_o (k_wire_pipe_long_k k hk q1) (rfl))
theorem k_wire_pipe_fields_f3_b (k : Nat) (hk : 17000000 ≤ k)  (hb : b.length ≤ 1000000000000) : wire_pipe_fields_f3_b.run (k + 20) b e wrong kind from_ to_ txn base epoch since mark ask attempt node yes no wiped at_ at1 part part1 versions = some (((rLong (rLong (b, e, wrong)).1).1.1, (rLong (rLong (b, e, wrong)).1).1.2.1, ()), (kind, from_, to_, (rLong (rLong (b, e, wrong)).1).2, base, (rLong (b, e, wrong)).2, since, mark, ask, attempt, node, yes, no, wiped, at_, at1, part, part1, versions, ()), ()) := by
  have q1 : (rLong (b, e, wrong)).1.1.length ≤ 1000000000000 := Nat.le_trans (rLong_cod.le _) hb
  have q2 : (rLong (rLong (b, e, wrong)).1).1.1.length ≤ 1000000000000 := Nat.le_trans (rLong_cod.le _) q1
  exact go_o (k_wire_pipe_longs_i k hk hb) (rfl)
theorem k_wire_pipe_long_o (k : Nat) (hk : 17000000 ≤ k)  (hb : b.length ≤ 1000000000000) : wire_pipe_long_o.run (k + 20) b e wrong kind from_ to_ txn base epoch since mark ask attempt node yes no wiped at_ at1 part part1 versions = some (((rLong (b, e, wrong)).1.1, (rLong (b, e, wrong)).1.2.1, ()), (kind, from_, to_, txn, base, epoch, since, (rLong (b, e, wrong)).2, ask, attempt, node, yes, no, wiped, at_, at1, part, part1, versions, ()), ()) := by
  exact go_o (r_long k) rfl
theorem k_wire_pipe_longs_j (k : Nat) (hk : 17000000 ≤ k)  (hb : b.length ≤ 1000000000000) : wire_pipe_longs_j.run (k + 20) b e wrong kind from_ to_ txn base epoch since mark ask attempt node yes no wiped at_ at1 part part1 versions = some (((rLong (rLong (b, e, wrong)).1).1.1, (rLong (rLong (b, e, wrong)).1).1.2.1, ()), (kind, from_, to_, txn, base, (rLong (b, e, wrong)).2, since, (rLong (rLong (b, e, wrong)).1).2, ask, attempt, node, yes, no, wiped, at_, at1, part, part1, versions, ()), ()) := by
  have q1 : (rLong (b, e, wrong)).1.1.length ≤ 1000000000000 := Nat.le_trans (rLong_cod.le _) hb
  have q2 : (rLong (rLong (b, e, wrong)).1).1.1.length ≤ 1000000000000 := Nat.le_trans (rLong_cod.le _) q1
  exact go_o (k_wire_pipe_long_n k hk hb) (go_o (k_wire_pipe_long_o k hk q1) (rfl))
theorem k_wire_pipe_fields_f4_b (k : Nat) (hk : 17000000 ≤ k)  (hb : b.length ≤ 1000000000000) : wire_pipe_fields_f4_b.run (k + 20) b e wrong kind from_ to_ txn base epoch since mark ask attempt node yes no wiped at_ at1 part part1 versions = some (((rLong (rLong (b, e, wrong)).1).1.1, (rLong (rLong (b, e, wrong)).1).1.2.1, ()), (kind, from_, to_, txn, base, (rLong (b, e, wrong)).2, since, (rLong (rLong (b, e, wrong)).1).2, ask, attempt, node, yes, no, wiped, at_, at1, part, part1, versions, ()), ()) := by
  have q1 : (rLong (b, e, wrong)).1.1.length ≤ 1000000000000 := Nat.le_trans (rLong_cod.le _) hb
  have q2 : (rLong (rLong (b, e, wrong)).1).1.1.length ≤ 1000000000000 := Nat.le_trans (rLong_cod.le _) q1
  exact go_o (k_wire_pipe_longs_j k hk hb) (rfl)
theorem k_wire_pipe_long_p (k : Nat) (hk : 17000000 ≤ k)  (hb : b.length ≤ 1000000000000) : wire_pipe_long_p.run (k + 20) b e wrong kind from_ to_ txn base epoch since mark ask attempt node yes no wiped at_ at1 part part1 versions = some (((rLong (b, e, wrong)).1.1, (rLong (b, e, wrong)).1.2.1, ()), (kind, from_, to_, txn, base, epoch, since, mark, (rLong (b, e, wrong)).2, attempt, node, yes, no, wiped, at_, at1, part, part1, versions, ()), ()) := by
  exact go_o (r_long k) rfl
theorem k_wire_pipe_longs_k (k : Nat) (hk : 17000000 ≤ k)  (hb : b.length ≤ 1000000000000) : wire_pipe_longs_k.run (k + 20) b e wrong kind from_ to_ txn base epoch since mark ask attempt node yes no wiped at_ at1 part part1 versions = some (((rLong (rLong (b, e, wrong)).1).1.1, (rLong (rLong (b, e, wrong)).1).1.2.1, ()), (kind, from_, to_, txn, base, (rLong (rLong (b, e, wrong)).1).2, since, mark, (rLong (b, e, wrong)).2, attempt, node, yes, no, wiped, at_, at1, part, part1, versions, ()), ()) := by
  have q1 : (rLong (b, e, wrong)).1.1.length ≤ 1000000000000 := Nat.le_trans (rLong_cod.le _) hb
  have q2 : (rLong (rLong (b, e, wrong)).1).1.1.length ≤ 1000000000000 := Nat.le_trans (rLong_cod.le _) q1
  exact go_o (k_wire_pipe_long_p k hk hb) (go_o (k_wire_pipe_long_n k hk q1) (rfl))
theorem k_wire_pipe_place_k (k : Nat) (hk : 17000000 ≤ k)  (hb : b.length ≤ 1000000000000) : wire_pipe_place_k.run (k + 20) b e wrong kind from_ to_ txn base epoch since mark ask attempt node yes no wiped at_ at1 part part1 versions = some (((rPlace (b, e, wrong)).1.1, (rPlace (b, e, wrong)).1.2.1, ()), (kind, from_, to_, txn, base, epoch, since, mark, ask, attempt, node, yes, no, wiped, (rPlace (b, e, wrong)).2, at1, part, part1, versions, ()), ()) := by
  exact go_o (r_place k) (by dsimp only; rw [place_wrap]; rfl)
theorem k_wire_pipe_place_l (k : Nat) (hk : 17000000 ≤ k)  (hb : b.length ≤ 1000000000000) : wire_pipe_place_l.run (k + 20) b e wrong kind from_ to_ txn base epoch since mark ask attempt node yes no wiped at_ at1 part part1 versions = some (((rPlace (b, e, wrong)).1.1, (rPlace (b, e, wrong)).1.2.1, ()), (kind, from_, to_, txn, base, epoch, since, mark, ask, attempt, node, yes, no, wiped, at_, (rPlace (b, e, wrong)).2, part, part1, versions, ()), ()) := by
  exact go_o (r_place k) (by dsimp only; rw [place_wrap]; rfl)
theorem k_wire_pipe_segment_f (k : Nat) (hk : 17000000 ≤ k)  (hb : b.length ≤ 1000000000000) : wire_pipe_segment_f.run (k + 20) b e wrong kind from_ to_ txn base epoch since mark ask attempt node yes no wiped at_ at1 part part1 versions = some (((rSeg (b, e, wrong)).1.1, (rSeg (b, e, wrong)).1.2.1, ()), (kind, from_, to_, txn, base, epoch, since, mark, ask, attempt, node, yes, no, wiped, (rSeg (b, e, wrong)).2.1, (rSeg (b, e, wrong)).2.2, part, part1, versions, ()), ()) := by
  have q1 : (rPlace (b, e, wrong)).1.1.length ≤ 1000000000000 := Nat.le_trans (rPlace_cod.le _) hb
  have q2 : (rPlace (rPlace (b, e, wrong)).1).1.1.length ≤ 1000000000000 := Nat.le_trans (rPlace_cod.le _) q1
  exact go_o (k_wire_pipe_place_k k hk hb) (go_o (k_wire_pipe_place_l k hk q1) (rfl))
theorem k_wire_pipe_fields_f5_b (k : Nat) (hk : 17000000 ≤ k)  (hb : b.length ≤ 1000000000000) : wire_pipe_fields_f5_b.run (k + 20) b e wrong kind from_ to_ txn base epoch since mark ask attempt node yes no wiped at_ at1 part part1 versions = some (((rSeg (rLong (rLong (b, e, wrong)).1).1).1.1, (rSeg (rLong (rLong (b, e, wrong)).1).1).1.2.1, ()), (kind, from_, to_, txn, base, (rLong (rLong (b, e, wrong)).1).2, since, mark, (rLong (b, e, wrong)).2, attempt, node, yes, no, wiped, (rSeg (rLong (rLong (b, e, wrong)).1).1).2.1, (rSeg (rLong (rLong (b, e, wrong)).1).1).2.2, part, part1, versions, ()), ()) := by
  have q1 : (rLong (b, e, wrong)).1.1.length ≤ 1000000000000 := Nat.le_trans (rLong_cod.le _) hb
  have q2 : (rLong (rLong (b, e, wrong)).1).1.1.length ≤ 1000000000000 := Nat.le_trans (rLong_cod.le _) q1
  have q3 : (rSeg (rLong (rLong (b, e, wrong)).1).1).1.1.length ≤ 1000000000000 := Nat.le_trans (rSeg_cod.le _) q2
  exact go_o (k_wire_pipe_longs_k k hk hb) (go_o (k_wire_pipe_segment_f k hk q2) (rfl))
theorem k_wire_pipe_truth_e (k : Nat) (hk : 17000000 ≤ k)  (hb : b.length ≤ 1000000000000) : wire_pipe_truth_e.run (k + 20) b e wrong kind from_ to_ txn base epoch since mark ask attempt node yes no wiped at_ at1 part part1 versions = some (((rTruth (b, e, wrong)).1.1, (rTruth (b, e, wrong)).1.2.1, ()), ((), (), (rTruth (b, e, wrong)).1.2.2, ()), (kind, from_, to_, txn, base, epoch, since, mark, ask, attempt, node, yes, (rTruth (b, e, wrong)).2, wiped, at_, at1, part, part1, versions, ()), ()) := by
  cases no
  · exact go_f rfl (go_o (k_wire_pipe_byte_i k hk hb) rfl)
  · exact go_t rfl (go_o (k_wire_pipe_byte_i k hk hb) rfl)
theorem k_wire_pipe_long_q (k : Nat) (hk : 17000000 ≤ k)  (hb : b.length ≤ 1000000000000) : wire_pipe_long_q.run (k + 20) b e wrong id_ id1 row deleted = some (((rLong (b, e, wrong)).1.1, (rLong (b, e, wrong)).1.2.1, ()), ((rLong (b, e, wrong)).2, id1, row, deleted, ()), ()) := by
  exact go_o (r_long k) rfl
theorem k_wire_pipe_word_f (k : Nat) (hk : 17000000 ≤ k)  (hb : b.length ≤ 1000000000000) : wire_pipe_word_f.run (k + 20) b e wrong id_ id1 row deleted = some (((rWord (b, e, wrong)).1.1, (rWord (b, e, wrong)).1.2.1, ()), (id_, (rWord (b, e, wrong)).2, row, deleted, ()), ()) := by
  exact go_o (r_word k) rfl
theorem k_wire_pipe_name_d (k : Nat) (hk : 17000000 ≤ k)  (hb : b.length ≤ 1000000000000) : wire_pipe_name_d.run (k + 20) b e wrong id_ id1 row deleted = some (((rName (b, e, wrong)).1.1, (rName (b, e, wrong)).1.2.1, ()), ((rName (b, e, wrong)).2.1, (rName (b, e, wrong)).2.2, row, deleted, ()), ()) := by
  have q1 : (rLong (b, e, wrong)).1.1.length ≤ 1000000000000 := Nat.le_trans (rLong_cod.le _) hb
  have q2 : (rWord (rLong (b, e, wrong)).1).1.1.length ≤ 1000000000000 := Nat.le_trans (rWord_cod.le _) q1
  exact go_o (k_wire_pipe_long_q k hk hb) (go_o (k_wire_pipe_word_f k hk q1) (rfl))
theorem k_wire_pipe_row_d (k : Nat) (hk : 17000000 ≤ k)  (hb : b.length ≤ 1000000000000) : wire_pipe_row_d.run (k + 20) b e wrong id_ id1 row deleted = some (((rRow (b, e, wrong)).1.1, (rRow (b, e, wrong)).1.2.1, ()), ((), (), (rRow (b, e, wrong)).1.2.2, ()), (id_, id1, (rRow (b, e, wrong)).2, deleted, ()), ()) := by
  have hq := Rw.decode_ok (k + 11) (by omega) (textR b e 16777216).2 (by have := text_few b e 16777216; omega)
  unfold Rw.decR at hq
  unfold rRow
  cases hd : Rw.decode (textR b e 16777216).2 with
  | none => rw [hd] at hq; exact go_o (r_text k (by omega)) (go_o hq (go_o (k_wire_pipe_must_b _ _ _ _ _) rfl))
  | some l => rw [hd] at hq; exact go_o (r_text k (by omega)) (go_o hq (go_o (k_wire_pipe_must_b _ _ _ _ _) rfl))
theorem k_wire_pipe_long_r (k : Nat) (hk : 17000000 ≤ k)  (hb : b.length ≤ 1000000000000) : wire_pipe_long_r.run (k + 20) b e wrong id_ id1 row deleted = some (((rLong (b, e, wrong)).1.1, (rLong (b, e, wrong)).1.2.1, ()), (id_, id1, row, (rLong (b, e, wrong)).2, ()), ()) := by
  exact go_o (r_long k) rfl
theorem k_wire_pipe_version_b (k : Nat) (hk : 17000000 ≤ k)  (hb : b.length ≤ 1000000000000) : wire_pipe_version_b.run (k + 20) b e wrong id_ id1 row deleted = some (((rVer (b, e, wrong)).1.1, (rVer (b, e, wrong)).1.2.1, ()), ((), (), (rVer (b, e, wrong)).1.2.2, ()), ((rVer (b, e, wrong)).2.1.1, (rVer (b, e, wrong)).2.1.2, (rVer (b, e, wrong)).2.2.1, (rVer (b, e, wrong)).2.2.2, ()), ()) := by
  have q1 : (rName (b, e, wrong)).1.1.length ≤ 1000000000000 := Nat.le_trans (rName_cod.le _) hb
  have q2 : (rRow (rName (b, e, wrong)).1).1.1.length ≤ 1000000000000 := Nat.le_trans (rRow_cod.le _) q1
  have q3 : (rLong (rRow (rName (b, e, wrong)).1).1).1.1.length ≤ 1000000000000 := Nat.le_trans (rLong_cod.le _) q2
  exact go_o (k_wire_pipe_name_d k hk hb) (go_o (k_wire_pipe_row_d k hk q1) (go_o (k_wire_pipe_long_r k hk q2) (rfl)))
theorem kx_wire_pipe_version_b (k : Nat) (hk : 17000000 ≤ k) {b : List UInt8} {e : Int} {wrong : Bool} (hb : b.length ≤ 1000000000000) : wire_pipe_version_b.run (k + 20) b e wrong (0 : Int) (0 : Int) ([] : List V) (0 : Int) = some (((rVer (b, e, wrong)).1.1, (rVer (b, e, wrong)).1.2.1, ()), ((), (), (rVer (b, e, wrong)).1.2.2, ()), ((rVer (b, e, wrong)).2.1.1, (rVer (b, e, wrong)).2.1.2, (rVer (b, e, wrong)).2.2.1, (rVer (b, e, wrong)).2.2.2, ()), ()) := k_wire_pipe_version_b k hk hb
theorem k_wire_list_api_Version_b_0 (k : Nat) (hk : 17000000 ≤ k)  : ∀ (n : Nat) (b : List UInt8) (e : Int) (wrong : Bool) (versions : List Ver) (fuel : Nat), b.length ≤ 1000000000000 → versions.length + n ≤ 16777216 → n < fuel →
    wire_list_api_Version_b_0.go (k + 20) fuel b e wrong kind from_ to_ txn base epoch since mark ask attempt node yes no wiped at_ at1 part part1 versions (n : Int) = some (((rL rVer n (b, e, wrong) versions).1.1, (rL rVer n (b, e, wrong) versions).1.2.1, ()), ((), (), (rL rVer n (b, e, wrong) versions).1.2.2, ()), (kind, from_, to_, txn, base, epoch, since, mark, ask, attempt, node, yes, no, wiped, at_, at1, part, part1, (rL rVer n (b, e, wrong) versions).2, ()), ())
  | _, _, _, _, _, 0, _, _, h => absurd h (Nat.not_lt_zero _)
  | 0, b, e, wrong, versions, fuel + 1, hb, hl, hf => go_n (by decide) rfl
  | n + 1, b, e, wrong, versions, fuel + 1, hb, hl, hf => by
    refine go_d (by omega) (go_o (k_wire_pipe_failed _ _ _ _) ?_)
    rw [rL]
    cases hq : failed (b, e, wrong) with
    | true => exact go_f rfl rfl
    | false =>
      rw [if_neg (by decide)]
      refine go_t rfl (go_o (kx_wire_pipe_version_b k hk hb) (go_t (room_t (by omega) (by omega)) ?_))
      rw [show IntKind.u64.wrap (((n + 1 : Nat) : Int) - (1 : Int)) = (n : Int) by rw [w_u64]; omega]
      exact k_wire_list_api_Version_b_0 k hk n _ _ _ (versions ++ [(rVer (b, e, wrong)).2]) fuel (Nat.le_trans (rVer_cod.le _) hb) (by rw [List.length_append]; simp; omega) (by omega)
theorem k_wire_list_api_Version_b (k : Nat) (hk : 17000000 ≤ k)  (hb : b.length ≤ 1000000000000) : wire_list_api_Version_b.run (k + 20) b e wrong kind from_ to_ txn base epoch since mark ask attempt node yes no wiped at_ at1 part part1 versions = some (((rList rVer (b, e, wrong)).1.1, (rList rVer (b, e, wrong)).1.2.1, ()), ((), (), (rList rVer (b, e, wrong)).1.2.2, ()), (kind, from_, to_, txn, base, epoch, since, mark, ask, attempt, node, yes, no, wiped, at_, at1, part, part1, (rList rVer (b, e, wrong)).2, ()), ()) := by
  refine go_o (r_var k) (go_o (k_wire_list_api_Version_b_0 k hk (varR b e 16777216).2 (varR b e 16777216).1.1 (varR b e 16777216).1.2 wrong [] (k + 20) (Nat.le_trans (var_le _ _ _) hb) (by have := var_most b e; simp; omega) (by have := var_most b e; omega)) rfl)
theorem k_wire_pipe_versions_b (k : Nat) (hk : 17000000 ≤ k)  (hb : b.length ≤ 1000000000000) : wire_pipe_versions_b.run (k + 20) b e wrong kind from_ to_ txn base epoch since mark ask attempt node yes no wiped at_ at1 part part1 versions = some (((rList rVer (b, e, wrong)).1.1, (rList rVer (b, e, wrong)).1.2.1, ()), ((), (), (rList rVer (b, e, wrong)).1.2.2, ()), (kind, from_, to_, txn, base, epoch, since, mark, ask, attempt, node, yes, no, wiped, at_, at1, part, part1, (rList rVer (b, e, wrong)).2, ()), ()) := by
  have q1 : (rList rVer (b, e, wrong)).1.1.length ≤ 1000000000000 := Nat.le_trans ((rVer_cod.list).le _) hb
  exact go_o (k_wire_list_api_Version_b k hk hb) (rfl)
theorem k_wire_pipe_fields_f6_b (k : Nat) (hk : 17000000 ≤ k)  (hb : b.length ≤ 1000000000000) : wire_pipe_fields_f6_b.run (k + 20) b e wrong kind from_ to_ txn base epoch since mark ask attempt node yes no wiped at_ at1 part part1 versions = some (((rList rVer (rTruth (rSeg (rLong (b, e, wrong)).1).1).1).1.1, (rList rVer (rTruth (rSeg (rLong (b, e, wrong)).1).1).1).1.2.1, ()), ((), (), (rList rVer (rTruth (rSeg (rLong (b, e, wrong)).1).1).1).1.2.2, ()), (kind, from_, to_, txn, base, epoch, since, mark, (rLong (b, e, wrong)).2, attempt, node, yes, (rTruth (rSeg (rLong (b, e, wrong)).1).1).2, wiped, (rSeg (rLong (b, e, wrong)).1).2.1, (rSeg (rLong (b, e, wrong)).1).2.2, part, part1, (rList rVer (rTruth (rSeg (rLong (b, e, wrong)).1).1).1).2, ()), ()) := by
  have q1 : (rLong (b, e, wrong)).1.1.length ≤ 1000000000000 := Nat.le_trans (rLong_cod.le _) hb
  have q2 : (rSeg (rLong (b, e, wrong)).1).1.1.length ≤ 1000000000000 := Nat.le_trans (rSeg_cod.le _) q1
  have q3 : (rTruth (rSeg (rLong (b, e, wrong)).1).1).1.1.length ≤ 1000000000000 := Nat.le_trans (rTruth_cod.le _) q2
  have q4 : (rList rVer (rTruth (rSeg (rLong (b, e, wrong)).1).1).1).1.1.length ≤ 1000000000000 := Nat.le_trans ((rVer_cod.list).le _) q3
  exact go_o (k_wire_pipe_long_p k hk hb) (go_o (k_wire_pipe_segment_f k hk q1) (go_o (k_wire_pipe_truth_e k hk q2) (go_o (k_wire_pipe_versions_b k hk q3) (rfl))))
theorem k_wire_pipe_truth_f (k : Nat) (hk : 17000000 ≤ k)  (hb : b.length ≤ 1000000000000) : wire_pipe_truth_f.run (k + 20) b e wrong kind from_ to_ txn base epoch since mark ask attempt node yes no wiped at_ at1 part part1 versions = some (((rTruth (b, e, wrong)).1.1, (rTruth (b, e, wrong)).1.2.1, ()), ((), (), (rTruth (b, e, wrong)).1.2.2, ()), (kind, from_, to_, txn, base, epoch, since, mark, ask, attempt, node, yes, no, (rTruth (b, e, wrong)).2, at_, at1, part, part1, versions, ()), ()) := by
  cases wiped
  · exact go_f rfl (go_o (k_wire_pipe_byte_i k hk hb) rfl)
  · exact go_t rfl (go_o (k_wire_pipe_byte_i k hk hb) rfl)
theorem k_wire_pipe_fields_f7_b (k : Nat) (hk : 17000000 ≤ k)  (hb : b.length ≤ 1000000000000) : wire_pipe_fields_f7_b.run (k + 20) b e wrong kind from_ to_ txn base epoch since mark ask attempt node yes no wiped at_ at1 part part1 versions = some (((rTruth (rLong (rLong (b, e, wrong)).1).1).1.1, (rTruth (rLong (rLong (b, e, wrong)).1).1).1.2.1, ()), ((), (), (rTruth (rLong (rLong (b, e, wrong)).1).1).1.2.2, ()), (kind, from_, to_, txn, base, (rLong (rLong (b, e, wrong)).1).2, since, mark, (rLong (b, e, wrong)).2, attempt, node, yes, no, (rTruth (rLong (rLong (b, e, wrong)).1).1).2, at_, at1, part, part1, versions, ()), ()) := by
  have q1 : (rLong (b, e, wrong)).1.1.length ≤ 1000000000000 := Nat.le_trans (rLong_cod.le _) hb
  have q2 : (rLong (rLong (b, e, wrong)).1).1.1.length ≤ 1000000000000 := Nat.le_trans (rLong_cod.le _) q1
  have q3 : (rTruth (rLong (rLong (b, e, wrong)).1).1).1.1.length ≤ 1000000000000 := Nat.le_trans (rTruth_cod.le _) q2
  exact go_o (k_wire_pipe_longs_k k hk hb) (go_o (k_wire_pipe_truth_f k hk q2) (rfl))
theorem k_wire_pipe_byte_j (k : Nat) (hk : 17000000 ≤ k)  (hb : b.length ≤ 1000000000000) : wire_pipe_byte_j.run (k + 20) b e wrong kind from_ to_ txn base epoch since mark ask attempt node yes no wiped at_ at1 part part1 versions most = some (((rByte (b, e, wrong) most).1.1, (rByte (b, e, wrong) most).1.2.1, ()), ((), (), (rByte (b, e, wrong) most).1.2.2, ()), (kind, from_, to_, txn, base, epoch, since, mark, ask, attempt, (rByte (b, e, wrong) most).2, yes, no, wiped, at_, at1, part, part1, versions, ()), ()) := by
  refine go_o (r_byte k) ?_
  have hc := rb_wrap b e
  dsimp only
  rw [hc]
  exact go_d (Int.natCast_nonneg _) (go_o (k_wire_pipe_must_b _ _ _ _ _) (by simp [rByte, oByte]))
theorem k_wire_pipe_node_f (k : Nat) (hk : 17000000 ≤ k)  (hb : b.length ≤ 1000000000000) : wire_pipe_node_f.run (k + 20) b e wrong kind from_ to_ txn base epoch since mark ask attempt node yes no wiped at_ at1 part part1 versions = some (((rByte (b, e, wrong) (8 : Int)).1.1, (rByte (b, e, wrong) (8 : Int)).1.2.1, ()), ((), (), (rByte (b, e, wrong) (8 : Int)).1.2.2, ()), (kind, from_, to_, txn, base, epoch, since, mark, ask, attempt, (rByte (b, e, wrong) (8 : Int)).2, yes, no, wiped, at_, at1, part, part1, versions, ()), ()) := by
  have q1 : (rByte (b, e, wrong) (8 : Int)).1.1.length ≤ 1000000000000 := Nat.le_trans (hi_le _ _ _) hb
  exact go_o (k_wire_pipe_byte_j k hk hb) (rfl)
theorem k_wire_pipe_long_s (k : Nat) (hk : 17000000 ≤ k)  (hb : b.length ≤ 1000000000000) : wire_pipe_long_s.run (k + 20) b e wrong kind from_ to_ txn base epoch since mark ask attempt node yes no wiped at_ at1 part part1 versions = some (((rLong (b, e, wrong)).1.1, (rLong (b, e, wrong)).1.2.1, ()), (kind, from_, to_, txn, base, epoch, since, mark, ask, (rLong (b, e, wrong)).2, node, yes, no, wiped, at_, at1, part, part1, versions, ()), ()) := by
  exact go_o (r_long k) rfl
theorem k_wire_pipe_long_t (k : Nat) (hk : 17000000 ≤ k)  (hb : b.length ≤ 1000000000000) : wire_pipe_long_t.run (k + 20) b e wrong kind from_ to_ txn base epoch since mark ask attempt node yes no wiped at_ at1 part part1 versions = some (((rLong (b, e, wrong)).1.1, (rLong (b, e, wrong)).1.2.1, ()), (kind, from_, to_, txn, base, epoch, (rLong (b, e, wrong)).2, mark, ask, attempt, node, yes, no, wiped, at_, at1, part, part1, versions, ()), ()) := by
  exact go_o (r_long k) rfl
theorem k_wire_pipe_longs_l (k : Nat) (hk : 17000000 ≤ k)  (hb : b.length ≤ 1000000000000) : wire_pipe_longs_l.run (k + 20) b e wrong kind from_ to_ txn base epoch since mark ask attempt node yes no wiped at_ at1 part part1 versions = some (((rLong (rLong (b, e, wrong)).1).1.1, (rLong (rLong (b, e, wrong)).1).1.2.1, ()), (kind, from_, to_, txn, base, (rLong (rLong (b, e, wrong)).1).2, (rLong (b, e, wrong)).2, mark, ask, attempt, node, yes, no, wiped, at_, at1, part, part1, versions, ()), ()) := by
  have q1 : (rLong (b, e, wrong)).1.1.length ≤ 1000000000000 := Nat.le_trans (rLong_cod.le _) hb
  have q2 : (rLong (rLong (b, e, wrong)).1).1.1.length ≤ 1000000000000 := Nat.le_trans (rLong_cod.le _) q1
  exact go_o (k_wire_pipe_long_t k hk hb) (go_o (k_wire_pipe_long_n k hk q1) (rfl))
theorem k_wire_pipe_fields_f8_b (k : Nat) (hk : 17000000 ≤ k)  (hb : b.length ≤ 1000000000000) : wire_pipe_fields_f8_b.run (k + 20) b e wrong kind from_ to_ txn base epoch since mark ask attempt node yes no wiped at_ at1 part part1 versions = some (((rLong (rLong (rSeg (rLong (rByte (b, e, wrong) (8 : Int)).1).1).1).1).1.1, (rLong (rLong (rSeg (rLong (rByte (b, e, wrong) (8 : Int)).1).1).1).1).1.2.1, ()), ((), (), (rByte (b, e, wrong) (8 : Int)).1.2.2, ()), (kind, from_, to_, txn, base, (rLong (rLong (rSeg (rLong (rByte (b, e, wrong) (8 : Int)).1).1).1).1).2, (rLong (rSeg (rLong (rByte (b, e, wrong) (8 : Int)).1).1).1).2, mark, ask, (rLong (rByte (b, e, wrong) (8 : Int)).1).2, (rByte (b, e, wrong) (8 : Int)).2, yes, no, wiped, (rSeg (rLong (rByte (b, e, wrong) (8 : Int)).1).1).2.1, (rSeg (rLong (rByte (b, e, wrong) (8 : Int)).1).1).2.2, part, part1, versions, ()), ()) := by
  have q1 : (rByte (b, e, wrong) (8 : Int)).1.1.length ≤ 1000000000000 := Nat.le_trans (hi_le _ _ _) hb
  have q2 : (rLong (rByte (b, e, wrong) (8 : Int)).1).1.1.length ≤ 1000000000000 := Nat.le_trans (rLong_cod.le _) q1
  have q3 : (rSeg (rLong (rByte (b, e, wrong) (8 : Int)).1).1).1.1.length ≤ 1000000000000 := Nat.le_trans (rSeg_cod.le _) q2
  have q4 : (rLong (rSeg (rLong (rByte (b, e, wrong) (8 : Int)).1).1).1).1.1.length ≤ 1000000000000 := Nat.le_trans (rLong_cod.le _) q3
  have q5 : (rLong (rLong (rSeg (rLong (rByte (b, e, wrong) (8 : Int)).1).1).1).1).1.1.length ≤ 1000000000000 := Nat.le_trans (rLong_cod.le _) q4
  exact go_o (k_wire_pipe_node_f k hk hb) (go_o (k_wire_pipe_long_s k hk q1) (go_o (k_wire_pipe_segment_f k hk q2) (go_o (k_wire_pipe_longs_l k hk q3) (rfl))))
theorem k_wire_pipe_longs_m (k : Nat) (hk : 17000000 ≤ k)  (hb : b.length ≤ 1000000000000) : wire_pipe_longs_m.run (k + 20) b e wrong kind from_ to_ txn base epoch since mark ask attempt node yes no wiped at_ at1 part part1 versions = some (((rLong (rLong (rLong (b, e, wrong)).1).1).1.1, (rLong (rLong (rLong (b, e, wrong)).1).1).1.2.1, ()), (kind, from_, to_, txn, base, (rLong (rLong (b, e, wrong)).1).2, (rLong (b, e, wrong)).2, (rLong (rLong (rLong (b, e, wrong)).1).1).2, ask, attempt, node, yes, no, wiped, at_, at1, part, part1, versions, ()), ()) := by
  have q1 : (rLong (b, e, wrong)).1.1.length ≤ 1000000000000 := Nat.le_trans (rLong_cod.le _) hb
  have q2 : (rLong (rLong (b, e, wrong)).1).1.1.length ≤ 1000000000000 := Nat.le_trans (rLong_cod.le _) q1
  have q3 : (rLong (rLong (rLong (b, e, wrong)).1).1).1.1.length ≤ 1000000000000 := Nat.le_trans (rLong_cod.le _) q2
  exact go_o (k_wire_pipe_long_t k hk hb) (go_o (k_wire_pipe_long_n k hk q1) (go_o (k_wire_pipe_long_o k hk q2) (rfl)))
theorem k_wire_pipe_fields_f9_b (k : Nat) (hk : 17000000 ≤ k)  (hb : b.length ≤ 1000000000000) : wire_pipe_fields_f9_b.run (k + 20) b e wrong kind from_ to_ txn base epoch since mark ask attempt node yes no wiped at_ at1 part part1 versions = some (((rList rVer (rLong (rLong (rLong (rSeg (rLong (b, e, wrong)).1).1).1).1).1).1.1, (rList rVer (rLong (rLong (rLong (rSeg (rLong (b, e, wrong)).1).1).1).1).1).1.2.1, ()), ((), (), (rList rVer (rLong (rLong (rLong (rSeg (rLong (b, e, wrong)).1).1).1).1).1).1.2.2, ()), (kind, from_, to_, txn, base, (rLong (rLong (rSeg (rLong (b, e, wrong)).1).1).1).2, (rLong (rSeg (rLong (b, e, wrong)).1).1).2, (rLong (rLong (rLong (rSeg (rLong (b, e, wrong)).1).1).1).1).2, ask, (rLong (b, e, wrong)).2, node, yes, no, wiped, (rSeg (rLong (b, e, wrong)).1).2.1, (rSeg (rLong (b, e, wrong)).1).2.2, part, part1, (rList rVer (rLong (rLong (rLong (rSeg (rLong (b, e, wrong)).1).1).1).1).1).2, ()), ()) := by
  have q1 : (rLong (b, e, wrong)).1.1.length ≤ 1000000000000 := Nat.le_trans (rLong_cod.le _) hb
  have q2 : (rSeg (rLong (b, e, wrong)).1).1.1.length ≤ 1000000000000 := Nat.le_trans (rSeg_cod.le _) q1
  have q3 : (rLong (rSeg (rLong (b, e, wrong)).1).1).1.1.length ≤ 1000000000000 := Nat.le_trans (rLong_cod.le _) q2
  have q4 : (rLong (rLong (rSeg (rLong (b, e, wrong)).1).1).1).1.1.length ≤ 1000000000000 := Nat.le_trans (rLong_cod.le _) q3
  have q5 : (rLong (rLong (rLong (rSeg (rLong (b, e, wrong)).1).1).1).1).1.1.length ≤ 1000000000000 := Nat.le_trans (rLong_cod.le _) q4
  have q6 : (rList rVer (rLong (rLong (rLong (rSeg (rLong (b, e, wrong)).1).1).1).1).1).1.1.length ≤ 1000000000000 := Nat.le_trans ((rVer_cod.list).le _) q5
  exact go_o (k_wire_pipe_long_s k hk hb) (go_o (k_wire_pipe_segment_f k hk q1) (go_o (k_wire_pipe_longs_m k hk q2) (go_o (k_wire_pipe_versions_b k hk q5) (rfl))))
theorem k_wire_pipe_longs_n (k : Nat) (hk : 17000000 ≤ k)  (hb : b.length ≤ 1000000000000) : wire_pipe_longs_n.run (k + 20) b e wrong kind from_ to_ txn base epoch since mark ask attempt node yes no wiped at_ at1 part part1 versions = some (((rLong (rLong (b, e, wrong)).1).1.1, (rLong (rLong (b, e, wrong)).1).1.2.1, ()), (kind, from_, to_, txn, base, (rLong (rLong (b, e, wrong)).1).2, since, mark, ask, (rLong (b, e, wrong)).2, node, yes, no, wiped, at_, at1, part, part1, versions, ()), ()) := by
  have q1 : (rLong (b, e, wrong)).1.1.length ≤ 1000000000000 := Nat.le_trans (rLong_cod.le _) hb
  have q2 : (rLong (rLong (b, e, wrong)).1).1.1.length ≤ 1000000000000 := Nat.le_trans (rLong_cod.le _) q1
  exact go_o (k_wire_pipe_long_s k hk hb) (go_o (k_wire_pipe_long_n k hk q1) (rfl))
theorem k_wire_pipe_fields_f10_b (k : Nat) (hk : 17000000 ≤ k)  (hb : b.length ≤ 1000000000000) : wire_pipe_fields_f10_b.run (k + 20) b e wrong kind from_ to_ txn base epoch since mark ask attempt node yes no wiped at_ at1 part part1 versions = some (((rLong (rLong (b, e, wrong)).1).1.1, (rLong (rLong (b, e, wrong)).1).1.2.1, ()), (kind, from_, to_, txn, base, (rLong (rLong (b, e, wrong)).1).2, since, mark, ask, (rLong (b, e, wrong)).2, node, yes, no, wiped, at_, at1, part, part1, versions, ()), ()) := by
  have q1 : (rLong (b, e, wrong)).1.1.length ≤ 1000000000000 := Nat.le_trans (rLong_cod.le _) hb
  have q2 : (rLong (rLong (b, e, wrong)).1).1.1.length ≤ 1000000000000 := Nat.le_trans (rLong_cod.le _) q1
  exact go_o (k_wire_pipe_longs_n k hk hb) (rfl)
theorem k_wire_pipe_fields_f11_b (k : Nat) (hk : 17000000 ≤ k)  (hb : b.length ≤ 1000000000000) : wire_pipe_fields_f11_b.run (k + 20) b e wrong kind from_ to_ txn base epoch since mark ask attempt node yes no wiped at_ at1 part part1 versions = some (((rLong (b, e, wrong)).1.1, (rLong (b, e, wrong)).1.2.1, ()), (kind, from_, to_, txn, base, epoch, since, (rLong (b, e, wrong)).2, ask, attempt, node, yes, no, wiped, at_, at1, part, part1, versions, ()), ()) := by
  have q1 : (rLong (b, e, wrong)).1.1.length ≤ 1000000000000 := Nat.le_trans (rLong_cod.le _) hb
  exact go_o (k_wire_pipe_long_o k hk hb) (rfl)
theorem k_wire_pipe_fields_f12_b (k : Nat) (hk : 17000000 ≤ k)  (hb : b.length ≤ 1000000000000) : wire_pipe_fields_f12_b.run (k + 20) b e wrong kind from_ to_ txn base epoch since mark ask attempt node yes no wiped at_ at1 part part1 versions = some (((rLong (b, e, wrong)).1.1, (rLong (b, e, wrong)).1.2.1, ()), (kind, from_, to_, txn, base, epoch, since, mark, (rLong (b, e, wrong)).2, attempt, node, yes, no, wiped, at_, at1, part, part1, versions, ()), ()) := by
  have q1 : (rLong (b, e, wrong)).1.1.length ≤ 1000000000000 := Nat.le_trans (rLong_cod.le _) hb
  exact go_o (k_wire_pipe_long_p k hk hb) (rfl)
end
end Go.Hay.Ytpgamibdlinhjaa
