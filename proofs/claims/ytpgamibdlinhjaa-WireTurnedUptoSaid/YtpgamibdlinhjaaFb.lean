/- Functions of the program as functions of Lean, and that they are what the program computes. Conditions: none. -/
import Derived.Test.YtpgamibdlinhjaaFa
set_option linter.unusedVariables false
namespace Go.Hay.Ytpgamibdlinhjaa
open Go Go.Hay Go.Proofs
noncomputable section
set_option maxRecDepth 100000
namespace wire_pipe_insert_b_0
def ins : Sh := (.cons (.box 47 s48) (.cons (.rbox 80 (.cons (.val (.int .i64)) (.cons (.val (.int .i64)) (.cons (.val (.int .u64)) (.cons (.val (.int .u32)) (.cons (.rown 109 (.pair (.int .i64) (.pair .bool (.pair (.int .i64) .str)))) (.cons (.val (.int .u64)) .nil))))))) .nil))
def ts : List Tmp := [0, 1]
def asg : List Tmp := [4, 5, 6, 7, 8, 9, 10, 11, 12, 13, 14, 15, 16, 17, 18, 19, 20]
def C (N : Nat) : Ctx := { wire_pipe_insert_b.C N with may := fun t => asg.any (Nat.beq t) }
def code : Code := (sub wire_pipe_insert_b.code [false]).getD .skip
theorem cok (N : Nat) : (C N).Ok Try.prog := okC (wire_pipe_insert_b.cok N) _
def alts : List Alt := [⟨.normal, [], s50⟩]
end wire_pipe_insert_b_0
def wire_pipe_insert_b_0.run (N : Nat) (b : (List UInt8)) (e : Int) (wrong : Bool) (at_ : Int) (at1 : Int) (ver : Int) (ver1 : Int) (ver2 : (List T4)) (ver3 : Int) : Option (T28) :=
  bif decide (ver = (0 : Int)) then
    obind (wire_pipe_must_b.run N b e wrong (decide (ver3 = (0 : Int)))) fun ((b1, e1, _), (_, _, wrong1, _), _) =>
      some ((b1, e1, ()), ((), (), wrong1, ()), ())
  else
    obind (wire_pipe_must_b.run N b e wrong false) fun ((b2, e2, _), (_, _, wrong2, _), _) =>
      some ((b2, e2, ()), ((), (), wrong2, ()), ())
namespace wire_pipe_insert_b_0
def fn (N : Nat) : Sh.den ins → Option (altsDen alts) := fun ((_, (a, b, _), c, _), (d, e, f, g, h, i, _), _) => wire_pipe_insert_b_0.run N a b c d e f g h i
def P (N : Nat) : Ps := ⟨ts, ins, asg, alts, fn N⟩
def lam (N : Nat) : Pcs := pcs []
theorem pok (N : Nat) : (lam N).Ok Try.prog (C N) code := pcsOk_nil
theorem ok (N : Nat) : ((P N).pc (wire_pipe_insert_b.C N)).Ok Try.prog (wire_pipe_insert_b.C N) code := okP (F := P N) (wire_pipe_insert_b.cok N) mix (pok N) fun _ => by kernel_rfl
end wire_pipe_insert_b_0
def wire_pipe_insert_b.run (N : Nat) (b : (List UInt8)) (e : Int) (wrong : Bool) (at_ : Int) (at1 : Int) (ver : Int) (ver1 : Int) (ver2 : (List T4)) (ver3 : Int) : Option T37 :=
  obind (wire_pipe_insert_b_0.run N b e wrong at_ at1 ver ver1 ver2 ver3) fun ((b3, e3, _), (_, _, wrong3, _), _) =>
    obind (wire_pipe_segment_d.run N b3 e3 wrong3 at_ at1 ver ver1 ver2 ver3) fun ((b4, e4, _), (at2, at3, ver4, ver5, ver6, ver7, _), _) =>
      obind (wire_pipe_word_d.run N b4 e4 wrong3 at2 at3 ver4 ver5 ver6 ver7) fun ((b5, e5, _), (at4, at5, ver8, ver9, ver10, ver11, _), _) =>
        obind (wire_pipe_row_c.run N b5 e5 wrong3 at4 at5 ver8 ver9 ver10 ver11) fun ((b6, e6, _), (_, _, wrong4, _), (at6, at7, ver12, ver13, ver14, ver15, _), _) =>
          some ((b6, e6, ()), ((), (), wrong4, ()), (at6, at7, ver12, ver13, ver14, ver15, ()), ())
namespace wire_pipe_insert_b
def fn (N : Nat) : Sh.den ins → Option (Sh.den outs) := fun ((_, (a, b, _), c, _), (d, e, f, g, h, i, _), _) => wire_pipe_insert_b.run N a b c d e f g h i
def S (N : Nat) : Fs := ⟨ins, outs, fn N⟩
def lam (N : Nat) : Pcs := pcs [([false], (wire_pipe_insert_b_0.P N).pc (C N))]
theorem pok (N : Nat) : (lam N).Ok Try.prog (C N) code := pcsOk_cons (c1 := wire_pipe_insert_b_0.code) (by kernel_rfl) (wire_pipe_insert_b_0.ok N) (pcsOk_nil)
theorem ok (N : Nat) : (S N).con.Ok Try.prog 63 := okF (F := S N) [] Try.func63 (by kernel_rfl) (by rfl) mix (cok N) (pok N) fun _ => by kernel_rfl
end wire_pipe_insert_b
namespace wire_list_api_Insert_b
def ins : Sh := (.cons (.box 47 s48) (.cons (.bxo 16 31 s51) s24))
def C (N : Nat) : Ctx := ⟨U, 62, fun _ => true, gam [(72, (codec_Reader_Var.S N).con), (73, (wire_pipe_failed.S N).con), (63, (wire_pipe_insert_b.S N).con)], gamY []⟩
theorem cok (N : Nat) : (C N).Ok Try.prog := ⟨U_ok, GamOk.cons (codec_Reader_Var.ok N) (GamOk.cons (wire_pipe_failed.ok N) (GamOk.cons (wire_pipe_insert_b.ok N) (GamOk.nil))), GamYOk.nil⟩
def code : Code := Try.f62.body.getD .skip
def outs : Sh := s52
end wire_list_api_Insert_b
namespace wire_list_api_Insert_b_0
def ins : Sh := (.cons (.box 47 s48) (.cons (.bxo 16 31 s51) (.cons (.fnb 1 63 (.cons (.ref 0) .nil)) (.cons (.val (.int .u64)) .nil))))
def ts : List Tmp := [0, 1, 2, 8]
def asg : List Tmp := [8, 9, 43, 44, 45, 46, 47, 48, 49, 50, 51, 52, 53, 54, 55, 56, 57, 58, 59, 60, 61]
def C (N : Nat) : Ctx := { wire_list_api_Insert_b.C N with may := fun t => asg.any (Nat.beq t) }
def code : Code := loopBody (sub wire_list_api_Insert_b.code [true, true, true, false])
theorem cok (N : Nat) : (C N).Ok Try.prog := okC (wire_list_api_Insert_b.cok N) _
def alts : List Alt := [⟨(.exit 2), [], s52⟩]
end wire_list_api_Insert_b_0
def wire_list_api_Insert_b_0.go (N : Nat) : Nat → (List UInt8) → Int → Bool → Int → Int → Int → Int → Int → Int → Int → Int → Int → Int → Int → Bool → Bool → Bool → Int → Int → (List T7) → (List T8) → (List T6) → Int → Option (T29)
  | 0, _, _, _, _, _, _, _, _, _, _, _, _, _, _, _, _, _, _, _, _, _, _, _ => none
  | fuel + 1, b, e, wrong, kind, from_, to_, txn, base, epoch, since, mark, ask, attempt, node, yes, no, wiped, at_, at1, part, part1, versions, n_ =>
    bif decide (n_ > (0 : Int)) then
      obind (wire_pipe_failed.run N b e wrong) fun (b1, _) =>
        bif !b1 then
          obind (wire_pipe_insert_b.run N b e wrong (0 : Int) (0 : Int) (0 : Int) (0 : Int) ([] : List T4) (0 : Int)) fun ((b2, e1, _), (_, _, wrong1, _), (at2, at3, ver, ver1, ver2, ver3, _), _) =>
            bif room (part.length + 1) 64 then
              wire_list_api_Insert_b_0.go N fuel b2 e1 wrong1 kind from_ to_ txn base epoch since mark ask attempt node yes no wiped at_ at1 (part ++ ([((at2, at3), (ver, ver1), ver2, ver3)] : List T7)) part1 versions (IntKind.u64.wrap (n_ - (1 : Int)))
            else none
        else some ((b, e, ()), ((), (), wrong, ()), (kind, from_, to_, txn, base, epoch, since, mark, ask, attempt, node, yes, no, wiped, at_, at1, part, part1, versions, ()), ())
    else some ((b, e, ()), ((), (), wrong, ()), (kind, from_, to_, txn, base, epoch, since, mark, ask, attempt, node, yes, no, wiped, at_, at1, part, part1, versions, ()), ())
namespace wire_list_api_Insert_b_0
def g (N n : Nat) : Sh.den ins → Option (altsDen alts) := fun ((_, (a, b, _), c, _), (d, e, f, g, h, i, j, k, l, m, o, p, q, r, s, t, u, v, w, _), (_, _), x, _) => wire_list_api_Insert_b_0.go N n a b c d e f g h i j k l m o p q r s t u v w x
def P (N : Nat) : Ps := ⟨ts, ins, asg, alts, g N N⟩
def lam (N : Nat) : Pcs := pcs []
theorem pok (N : Nat) : (lam N).Ok Try.prog (C N) code := pcsOk_nil
theorem ok (N : Nat) : ((P N).pc (wire_list_api_Insert_b.C N)).Ok Try.prog (wire_list_api_Insert_b.C N) (.loop code) := okL (F := P N) (g N) (wire_list_api_Insert_b.cok N) mix (pok N) (fun _ => rfl) rfl fun _ _ => by kernel_rfl
end wire_list_api_Insert_b_0
def wire_list_api_Insert_b.run (N : Nat) (b : (List UInt8)) (e : Int) (wrong : Bool) (kind : Int) (from_ : Int) (to_ : Int) (txn : Int) (base : Int) (epoch : Int) (since : Int) (mark : Int) (ask : Int) (attempt : Int) (node : Int) (yes : Bool) (no : Bool) (wiped : Bool) (at_ : Int) (at1 : Int) (part : (List T7)) (part1 : (List T8)) (versions : (List T6)) : Option T29 :=
  obind (codec_Reader_Var.run N b e (16777216 : Int)) fun ((b1, e1, _), n_, _) =>
    obind (wire_list_api_Insert_b_0.go N N b1 e1 wrong kind from_ to_ txn base epoch since mark ask attempt node yes no wiped at_ at1 ([] : List T7) part1 versions n_) fun ((b2, e2, _), (_, _, wrong1, _), (kind1, from1, to1, txn1, base1, epoch1, since1, mark1, ask1, attempt1, node1, yes1, no1, wiped1, at2, at3, part2, part3, versions1, _), _) =>
      some ((b2, e2, ()), ((), (), wrong1, ()), (kind1, from1, to1, txn1, base1, epoch1, since1, mark1, ask1, attempt1, node1, yes1, no1, wiped1, at2, at3, part2, part3, versions1, ()), ())
namespace wire_list_api_Insert_b
def fn (N : Nat) : Sh.den ins → Option (Sh.den outs) := fun ((_, (a, b, _), c, _), (d, e, f, g, h, i, j, k, l, m, o, p, q, r, s, t, u, v, w, _), (_, _), _) => wire_list_api_Insert_b.run N a b c d e f g h i j k l m o p q r s t u v w
def S (N : Nat) : Fs := ⟨ins, outs, fn N⟩
def lam (N : Nat) : Pcs := pcs [([true, true, true, false], (wire_list_api_Insert_b_0.P N).pc (C N))]
theorem pok (N : Nat) : (lam N).Ok Try.prog (C N) code := pcsOk_cons (c1 := .loop wire_list_api_Insert_b_0.code) (by kernel_rfl) (wire_list_api_Insert_b_0.ok N) (pcsOk_nil)
theorem ok (N : Nat) : (S N).con.Ok Try.prog 62 := okF (F := S N) [] Try.func62 (by kernel_rfl) (by rfl) mix (cok N) (pok N) fun _ => by kernel_rfl
end wire_list_api_Insert_b
namespace wire_pipe_place_i
def ins : Sh := s62
def C (N : Nat) : Ctx := ⟨U, 38, fun _ => true, gam [(72, (codec_Reader_Var.S N).con)], gamY []⟩
theorem cok (N : Nat) : (C N).Ok Try.prog := ⟨U_ok, GamOk.cons (codec_Reader_Var.ok N) (GamOk.nil), GamYOk.nil⟩
def code : Code := Try.f68.body.getD .skip
def outs : Sh := s63
end wire_pipe_place_i
def wire_pipe_place_i.run (N : Nat) (b : (List UInt8)) (e : Int) (wrong : Bool) (at_ : Int) (at1 : Int) (id_ : Int) (id1 : Int) : Option T38 :=
  obind (codec_Reader_Var.run N b e (2147483647 : Int)) fun ((b1, e1, _), n_, _) =>
    some ((b1, e1, ()), (IntKind.i64.wrap n_, at1, id_, id1, ()), ())
namespace wire_pipe_place_i
def fn (N : Nat) : Sh.den ins → Option (Sh.den outs) := fun ((_, (a, b, _), c, _), (d, e, f, g, _), _) => wire_pipe_place_i.run N a b c d e f g
def S (N : Nat) : Fs := ⟨ins, outs, fn N⟩
def lam (N : Nat) : Pcs := pcs []
theorem pok (N : Nat) : (lam N).Ok Try.prog (C N) code := pcsOk_nil
theorem ok (N : Nat) : (S N).con.Ok Try.prog 68 := okF (F := S N) [] Try.func68 (by kernel_rfl) (by rfl) mix (cok N) (pok N) fun _ => by kernel_rfl
end wire_pipe_place_i
namespace wire_pipe_place_j
def ins : Sh := (.cons (.rbox 47 s48) (.cons (.bxo 1 84 s26) .nil))
def C (N : Nat) : Ctx := ⟨U, 38, fun _ => true, gam [(72, (codec_Reader_Var.S N).con)], gamY []⟩
theorem cok (N : Nat) : (C N).Ok Try.prog := ⟨U_ok, GamOk.cons (codec_Reader_Var.ok N) (GamOk.nil), GamYOk.nil⟩
def code : Code := Try.f68.body.getD .skip
def outs : Sh := s63
end wire_pipe_place_j
def wire_pipe_place_j.run (N : Nat) (b : (List UInt8)) (e : Int) (wrong : Bool) (at_ : Int) (at1 : Int) (id_ : Int) (id1 : Int) : Option T38 :=
  obind (codec_Reader_Var.run N b e (2147483647 : Int)) fun ((b1, e1, _), n_, _) =>
    some ((b1, e1, ()), (at_, IntKind.i64.wrap n_, id_, id1, ()), ())
namespace wire_pipe_place_j
def fn (N : Nat) : Sh.den ins → Option (Sh.den outs) := fun ((_, (a, b, _), c, _), (d, e, f, g, _), _) => wire_pipe_place_j.run N a b c d e f g
def S (N : Nat) : Fs := ⟨ins, outs, fn N⟩
def lam (N : Nat) : Pcs := pcs []
theorem pok (N : Nat) : (lam N).Ok Try.prog (C N) code := pcsOk_nil
theorem ok (N : Nat) : (S N).con.Ok Try.prog 68 := okF (F := S N) [] Try.func68 (by kernel_rfl) (by rfl) mix (cok N) (pok N) fun _ => by kernel_rfl
end wire_pipe_place_j
namespace wire_pipe_segment_e
def ins : Sh := s62
def C (N : Nat) : Ctx := ⟨U, 14, fun _ => true, gam [(68, (((wire_pipe_place_i.S N).con).or (wire_pipe_place_j.S N).con))], gamY []⟩
theorem cok (N : Nat) : (C N).Ok Try.prog := ⟨U_ok, GamOk.cons (Con.or_ok (wire_pipe_place_i.ok N) (wire_pipe_place_j.ok N)) (GamOk.nil), GamYOk.nil⟩
def code : Code := Try.f48.body.getD .skip
def outs : Sh := s63
end wire_pipe_segment_e
def wire_pipe_segment_e.run (N : Nat) (b : (List UInt8)) (e : Int) (wrong : Bool) (at_ : Int) (at1 : Int) (id_ : Int) (id1 : Int) : Option T38 :=
  obind (wire_pipe_place_i.run N b e wrong at_ at1 id_ id1) fun ((b1, e1, _), (at2, at3, id2, id3, _), _) =>
    obind (wire_pipe_place_j.run N b1 e1 wrong at2 at3 id2 id3) fun ((b2, e2, _), (at4, at5, id4, id5, _), _) =>
      some ((b2, e2, ()), (at4, at5, id4, id5, ()), ())
namespace wire_pipe_segment_e
def fn (N : Nat) : Sh.den ins → Option (Sh.den outs) := fun ((_, (a, b, _), c, _), (d, e, f, g, _), _) => wire_pipe_segment_e.run N a b c d e f g
def S (N : Nat) : Fs := ⟨ins, outs, fn N⟩
def lam (N : Nat) : Pcs := pcs []
theorem pok (N : Nat) : (lam N).Ok Try.prog (C N) code := pcsOk_nil
theorem ok (N : Nat) : (S N).con.Ok Try.prog 48 := okF (F := S N) [] Try.func48 (by kernel_rfl) (by rfl) mix (cok N) (pok N) fun _ => by kernel_rfl
end wire_pipe_segment_e
namespace wire_pipe_long_m
def ins : Sh := s64
def C (N : Nat) : Ctx := ⟨U, 24, fun _ => true, gam [(67, (codec_Reader_Long.S N).con)], gamY []⟩
theorem cok (N : Nat) : (C N).Ok Try.prog := ⟨U_ok, GamOk.cons (codec_Reader_Long.ok N) (GamOk.nil), GamYOk.nil⟩
def code : Code := Try.f43.body.getD .skip
def outs : Sh := s63
end wire_pipe_long_m
def wire_pipe_long_m.run (N : Nat) (b : (List UInt8)) (e : Int) (wrong : Bool) (at_ : Int) (at1 : Int) (id_ : Int) (id1 : Int) : Option T38 :=
  obind (codec_Reader_Long.run N b e) fun ((b1, e1, _), n_, _) =>
    some ((b1, e1, ()), (at_, at1, n_, id1, ()), ())
namespace wire_pipe_long_m
def fn (N : Nat) : Sh.den ins → Option (Sh.den outs) := fun ((_, (a, b, _), c, _), (d, e, f, g, _), _) => wire_pipe_long_m.run N a b c d e f g
def S (N : Nat) : Fs := ⟨ins, outs, fn N⟩
def lam (N : Nat) : Pcs := pcs []
theorem pok (N : Nat) : (lam N).Ok Try.prog (C N) code := pcsOk_nil
theorem ok (N : Nat) : (S N).con.Ok Try.prog 43 := okF (F := S N) [] Try.func43 (by kernel_rfl) (by rfl) mix (cok N) (pok N) fun _ => by kernel_rfl
end wire_pipe_long_m
namespace wire_pipe_word_e
def ins : Sh := (.cons (.rbox 47 s48) (.cons (.bxo 3 84 s26) .nil))
def C (N : Nat) : Ctx := ⟨U, 24, fun _ => true, gam [(34, (codec_Reader_Word.S N).con)], gamY []⟩
theorem cok (N : Nat) : (C N).Ok Try.prog := ⟨U_ok, GamOk.cons (codec_Reader_Word.ok N) (GamOk.nil), GamYOk.nil⟩
def code : Code := Try.f74.body.getD .skip
def outs : Sh := s63
end wire_pipe_word_e
def wire_pipe_word_e.run (N : Nat) (b : (List UInt8)) (e : Int) (wrong : Bool) (at_ : Int) (at1 : Int) (id_ : Int) (id1 : Int) : Option T38 :=
  obind (codec_Reader_Word.run N b e) fun ((b1, e1, _), n_, _) =>
    some ((b1, e1, ()), (at_, at1, id_, n_, ()), ())
namespace wire_pipe_word_e
def fn (N : Nat) : Sh.den ins → Option (Sh.den outs) := fun ((_, (a, b, _), c, _), (d, e, f, g, _), _) => wire_pipe_word_e.run N a b c d e f g
def S (N : Nat) : Fs := ⟨ins, outs, fn N⟩
def lam (N : Nat) : Pcs := pcs []
theorem pok (N : Nat) : (lam N).Ok Try.prog (C N) code := pcsOk_nil
theorem ok (N : Nat) : (S N).con.Ok Try.prog 74 := okF (F := S N) [] Try.func74 (by kernel_rfl) (by rfl) mix (cok N) (pok N) fun _ => by kernel_rfl
end wire_pipe_word_e
namespace wire_pipe_name_c
def ins : Sh := s64
def C (N : Nat) : Ctx := ⟨U, 14, fun _ => true, gam [(43, (wire_pipe_long_m.S N).con), (74, (wire_pipe_word_e.S N).con)], gamY []⟩
theorem cok (N : Nat) : (C N).Ok Try.prog := ⟨U_ok, GamOk.cons (wire_pipe_long_m.ok N) (GamOk.cons (wire_pipe_word_e.ok N) (GamOk.nil)), GamYOk.nil⟩
def code : Code := Try.f76.body.getD .skip
def outs : Sh := s63
end wire_pipe_name_c
def wire_pipe_name_c.run (N : Nat) (b : (List UInt8)) (e : Int) (wrong : Bool) (at_ : Int) (at1 : Int) (id_ : Int) (id1 : Int) : Option T38 :=
  obind (wire_pipe_long_m.run N b e wrong at_ at1 id_ id1) fun ((b1, e1, _), (at2, at3, id2, id3, _), _) =>
    obind (wire_pipe_word_e.run N b1 e1 wrong at2 at3 id2 id3) fun ((b2, e2, _), (at4, at5, id4, id5, _), _) =>
      some ((b2, e2, ()), (at4, at5, id4, id5, ()), ())
namespace wire_pipe_name_c
def fn (N : Nat) : Sh.den ins → Option (Sh.den outs) := fun ((_, (a, b, _), c, _), (d, e, f, g, _), _) => wire_pipe_name_c.run N a b c d e f g
def S (N : Nat) : Fs := ⟨ins, outs, fn N⟩
def lam (N : Nat) : Pcs := pcs []
theorem pok (N : Nat) : (lam N).Ok Try.prog (C N) code := pcsOk_nil
theorem ok (N : Nat) : (S N).con.Ok Try.prog 76 := okF (F := S N) [] Try.func76 (by kernel_rfl) (by rfl) mix (cok N) (pok N) fun _ => by kernel_rfl
end wire_pipe_name_c
namespace wire_pipe_erase_b
def ins : Sh := s62
def C (N : Nat) : Ctx := ⟨U, 14, fun _ => true, gam [(48, (wire_pipe_segment_e.S N).con), (76, (wire_pipe_name_c.S N).con)], gamY []⟩
theorem cok (N : Nat) : (C N).Ok Try.prog := ⟨U_ok, GamOk.cons (wire_pipe_segment_e.ok N) (GamOk.cons (wire_pipe_name_c.ok N) (GamOk.nil)), GamYOk.nil⟩
def code : Code := Try.f65.body.getD .skip
def outs : Sh := s63
end wire_pipe_erase_b
def wire_pipe_erase_b.run (N : Nat) (b : (List UInt8)) (e : Int) (wrong : Bool) (at_ : Int) (at1 : Int) (id_ : Int) (id1 : Int) : Option T38 :=
  obind (wire_pipe_segment_e.run N b e wrong at_ at1 id_ id1) fun ((b1, e1, _), (at2, at3, id2, id3, _), _) =>
    obind (wire_pipe_name_c.run N b1 e1 wrong at2 at3 id2 id3) fun ((b2, e2, _), (at4, at5, id4, id5, _), _) =>
      some ((b2, e2, ()), (at4, at5, id4, id5, ()), ())
namespace wire_pipe_erase_b
def fn (N : Nat) : Sh.den ins → Option (Sh.den outs) := fun ((_, (a, b, _), c, _), (d, e, f, g, _), _) => wire_pipe_erase_b.run N a b c d e f g
def S (N : Nat) : Fs := ⟨ins, outs, fn N⟩
def lam (N : Nat) : Pcs := pcs []
theorem pok (N : Nat) : (lam N).Ok Try.prog (C N) code := pcsOk_nil
theorem ok (N : Nat) : (S N).con.Ok Try.prog 65 := okF (F := S N) [] Try.func65 (by kernel_rfl) (by rfl) mix (cok N) (pok N) fun _ => by kernel_rfl
end wire_pipe_erase_b
namespace wire_list_api_Erase_b
def ins : Sh := (.cons (.rbox 47 s48) (.cons (.bxo 17 31 s51) s31))
def C (N : Nat) : Ctx := ⟨U, 62, fun _ => true, gam [(72, (codec_Reader_Var.S N).con), (73, (wire_pipe_failed.S N).con), (65, (wire_pipe_erase_b.S N).con)], gamY []⟩
theorem cok (N : Nat) : (C N).Ok Try.prog := ⟨U_ok, GamOk.cons (codec_Reader_Var.ok N) (GamOk.cons (wire_pipe_failed.ok N) (GamOk.cons (wire_pipe_erase_b.ok N) (GamOk.nil))), GamYOk.nil⟩
def code : Code := Try.f64.body.getD .skip
def outs : Sh := s53
end wire_list_api_Erase_b
namespace wire_list_api_Erase_b_0
def ins : Sh := (.cons (.rbox 47 s48) (.cons (.bxo 17 31 s51) (.cons (.fnb 1 65 (.cons (.ref 0) .nil)) (.cons (.val (.int .u64)) .nil))))
def ts : List Tmp := [0, 1, 2, 8]
def asg : List Tmp := [8, 9, 43, 44, 45, 46, 47, 48, 49, 50, 51, 52, 53, 54, 55, 56, 57, 58, 59, 60, 61]
def C (N : Nat) : Ctx := { wire_list_api_Erase_b.C N with may := fun t => asg.any (Nat.beq t) }
def code : Code := loopBody (sub wire_list_api_Erase_b.code [true, true, true, false])
theorem cok (N : Nat) : (C N).Ok Try.prog := okC (wire_list_api_Erase_b.cok N) _
def alts : List Alt := [⟨(.exit 2), [], s53⟩]
end wire_list_api_Erase_b_0
def wire_list_api_Erase_b_0.go (N : Nat) : Nat → (List UInt8) → Int → Bool → Int → Int → Int → Int → Int → Int → Int → Int → Int → Int → Int → Bool → Bool → Bool → Int → Int → (List T7) → (List T8) → (List T6) → Int → Option (T30)
  | 0, _, _, _, _, _, _, _, _, _, _, _, _, _, _, _, _, _, _, _, _, _, _, _ => none
  | fuel + 1, b, e, wrong, kind, from_, to_, txn, base, epoch, since, mark, ask, attempt, node, yes, no, wiped, at_, at1, part, part1, versions, n_ =>
    bif decide (n_ > (0 : Int)) then
      obind (wire_pipe_failed.run N b e wrong) fun (b1, _) =>
        bif !b1 then
          obind (wire_pipe_erase_b.run N b e wrong (0 : Int) (0 : Int) (0 : Int) (0 : Int)) fun ((b2, e1, _), (at2, at3, id_, id1, _), _) =>
            bif room (part1.length + 1) 32 then
              wire_list_api_Erase_b_0.go N fuel b2 e1 wrong kind from_ to_ txn base epoch since mark ask attempt node yes no wiped at_ at1 part (part1 ++ ([((at2, at3), id_, id1)] : List T8)) versions (IntKind.u64.wrap (n_ - (1 : Int)))
            else none
        else some ((b, e, ()), (kind, from_, to_, txn, base, epoch, since, mark, ask, attempt, node, yes, no, wiped, at_, at1, part, part1, versions, ()), ())
    else some ((b, e, ()), (kind, from_, to_, txn, base, epoch, since, mark, ask, attempt, node, yes, no, wiped, at_, at1, part, part1, versions, ()), ())
namespace wire_list_api_Erase_b_0
def g (N n : Nat) : Sh.den ins → Option (altsDen alts) := fun ((_, (a, b, _), c, _), (d, e, f, g, h, i, j, k, l, m, o, p, q, r, s, t, u, v, w, _), (_, _), x, _) => wire_list_api_Erase_b_0.go N n a b c d e f g h i j k l m o p q r s t u v w x
def P (N : Nat) : Ps := ⟨ts, ins, asg, alts, g N N⟩
def lam (N : Nat) : Pcs := pcs []
theorem pok (N : Nat) : (lam N).Ok Try.prog (C N) code := pcsOk_nil
theorem ok (N : Nat) : ((P N).pc (wire_list_api_Erase_b.C N)).Ok Try.prog (wire_list_api_Erase_b.C N) (.loop code) := okL (F := P N) (g N) (wire_list_api_Erase_b.cok N) mix (pok N) (fun _ => rfl) rfl fun _ _ => by kernel_rfl
end wire_list_api_Erase_b_0
def wire_list_api_Erase_b.run (N : Nat) (b : (List UInt8)) (e : Int) (wrong : Bool) (kind : Int) (from_ : Int) (to_ : Int) (txn : Int) (base : Int) (epoch : Int) (since : Int) (mark : Int) (ask : Int) (attempt : Int) (node : Int) (yes : Bool) (no : Bool) (wiped : Bool) (at_ : Int) (at1 : Int) (part : (List T7)) (part1 : (List T8)) (versions : (List T6)) : Option T30 :=
  obind (codec_Reader_Var.run N b e (16777216 : Int)) fun ((b1, e1, _), n_, _) =>
    obind (wire_list_api_Erase_b_0.go N N b1 e1 wrong kind from_ to_ txn base epoch since mark ask attempt node yes no wiped at_ at1 part ([] : List T8) versions n_) fun ((b2, e2, _), (kind1, from1, to1, txn1, base1, epoch1, since1, mark1, ask1, attempt1, node1, yes1, no1, wiped1, at2, at3, part2, part3, versions1, _), _) =>
      some ((b2, e2, ()), (kind1, from1, to1, txn1, base1, epoch1, since1, mark1, ask1, attempt1, node1, yes1, no1, wiped1, at2, at3, part2, part3, versions1, ()), ())
namespace wire_list_api_Erase_b
def fn (N : Nat) : Sh.den ins → Option (Sh.den outs) := fun ((_, (a, b, _), c, _), (d, e, f, g, h, i, j, k, l, m, o, p, q, r, s, t, u, v, w, _), (_, _), _) => wire_list_api_Erase_b.run N a b c d e f g h i j k l m o p q r s t u v w
def S (N : Nat) : Fs := ⟨ins, outs, fn N⟩
def lam (N : Nat) : Pcs := pcs [([true, true, true, false], (wire_list_api_Erase_b_0.P N).pc (C N))]
theorem pok (N : Nat) : (lam N).Ok Try.prog (C N) code := pcsOk_cons (c1 := .loop wire_list_api_Erase_b_0.code) (by kernel_rfl) (wire_list_api_Erase_b_0.ok N) (pcsOk_nil)
theorem ok (N : Nat) : (S N).con.Ok Try.prog 64 := okF (F := S N) [] Try.func64 (by kernel_rfl) (by rfl) mix (cok N) (pok N) fun _ => by kernel_rfl
end wire_list_api_Erase_b
namespace wire_pipe_part_b
def ins : Sh := (.cons (.box 47 s48) (.cons (.bxo 16 31 s51) .nil))
def C (N : Nat) : Ctx := ⟨U, 18, fun _ => true, gam [(62, (wire_list_api_Insert_b.S N).con), (64, (wire_list_api_Erase_b.S N).con)], gamY []⟩
theorem cok (N : Nat) : (C N).Ok Try.prog := ⟨U_ok, GamOk.cons (wire_list_api_Insert_b.ok N) (GamOk.cons (wire_list_api_Erase_b.ok N) (GamOk.nil)), GamYOk.nil⟩
def code : Code := Try.f41.body.getD .skip
def outs : Sh := s52
end wire_pipe_part_b
def wire_pipe_part_b.run (N : Nat) (b : (List UInt8)) (e : Int) (wrong : Bool) (kind : Int) (from_ : Int) (to_ : Int) (txn : Int) (base : Int) (epoch : Int) (since : Int) (mark : Int) (ask : Int) (attempt : Int) (node : Int) (yes : Bool) (no : Bool) (wiped : Bool) (at_ : Int) (at1 : Int) (part : (List T7)) (part1 : (List T8)) (versions : (List T6)) : Option T29 :=
  obind (wire_list_api_Insert_b.run N b e wrong kind from_ to_ txn base epoch since mark ask attempt node yes no wiped at_ at1 part part1 versions) fun ((b1, e1, _), (_, _, wrong1, _), (kind1, from1, to1, txn1, base1, epoch1, since1, mark1, ask1, attempt1, node1, yes1, no1, wiped1, at2, at3, part2, part3, versions1, _), _) =>
    obind (wire_list_api_Erase_b.run N b1 e1 wrong1 kind1 from1 to1 txn1 base1 epoch1 since1 mark1 ask1 attempt1 node1 yes1 no1 wiped1 at2 at3 part2 part3 versions1) fun ((b2, e2, _), (kind2, from2, to2, txn2, base2, epoch2, since2, mark2, ask2, attempt2, node2, yes2, no2, wiped2, at4, at5, part4, part5, versions2, _), _) =>
      some ((b2, e2, ()), ((), (), wrong1, ()), (kind2, from2, to2, txn2, base2, epoch2, since2, mark2, ask2, attempt2, node2, yes2, no2, wiped2, at4, at5, part4, part5, versions2, ()), ())
namespace wire_pipe_part_b
def fn (N : Nat) : Sh.den ins → Option (Sh.den outs) := fun ((_, (a, b, _), c, _), (d, e, f, g, h, i, j, k, l, m, o, p, q, r, s, t, u, v, w, _), _) => wire_pipe_part_b.run N a b c d e f g h i j k l m o p q r s t u v w
def S (N : Nat) : Fs := ⟨ins, outs, fn N⟩
def lam (N : Nat) : Pcs := pcs []
theorem pok (N : Nat) : (lam N).Ok Try.prog (C N) code := pcsOk_nil
theorem ok (N : Nat) : (S N).con.Ok Try.prog 41 := okF (F := S N) [] Try.func41 (by kernel_rfl) (by rfl) mix (cok N) (pok N) fun _ => by kernel_rfl
end wire_pipe_part_b
namespace wire_pipe_fields_f1_b
def ins : Sh := s66
def C (N : Nat) : Ctx := ⟨U, 16, fun _ => true, gam [(40, (wire_pipe_longs_h.S N).con), (41, (wire_pipe_part_b.S N).con)], gamY []⟩
theorem cok (N : Nat) : (C N).Ok Try.prog := ⟨U_ok, GamOk.cons (wire_pipe_longs_h.ok N) (GamOk.cons (wire_pipe_part_b.ok N) (GamOk.nil)), GamYOk.nil⟩
def code : Code := Try.f39.body.getD .skip
def outs : Sh := s67
end wire_pipe_fields_f1_b
def wire_pipe_fields_f1_b.run (N : Nat) (b : (List UInt8)) (e : Int) (wrong : Bool) (kind : Int) (from_ : Int) (to_ : Int) (txn : Int) (base : Int) (epoch : Int) (since : Int) (mark : Int) (ask : Int) (attempt : Int) (node : Int) (yes : Bool) (no : Bool) (wiped : Bool) (at_ : Int) (at1 : Int) (part : (List T7)) (part1 : (List T8)) (versions : (List T6)) : Option T29 :=
  obind (wire_pipe_longs_h.run N b e wrong kind from_ to_ txn base epoch since mark ask attempt node yes no wiped at_ at1 part part1 versions) fun ((b1, e1, _), (kind1, from1, to1, txn1, base1, epoch1, since1, mark1, ask1, attempt1, node1, yes1, no1, wiped1, at2, at3, part2, part3, versions1, _), _) =>
    obind (wire_pipe_part_b.run N b1 e1 wrong kind1 from1 to1 txn1 base1 epoch1 since1 mark1 ask1 attempt1 node1 yes1 no1 wiped1 at2 at3 part2 part3 versions1) fun ((b2, e2, _), (_, _, wrong1, _), (kind2, from2, to2, txn2, base2, epoch2, since2, mark2, ask2, attempt2, node2, yes2, no2, wiped2, at4, at5, part4, part5, versions2, _), _) =>
      some ((b2, e2, ()), ((), (), wrong1, ()), (kind2, from2, to2, txn2, base2, epoch2, since2, mark2, ask2, attempt2, node2, yes2, no2, wiped2, at4, at5, part4, part5, versions2, ()), ())
namespace wire_pipe_fields_f1_b
def fn (N : Nat) : Sh.den ins → Option (Sh.den outs) := fun (((_, (a, b, _), c, _), _), ((d, e, f, g, h, i, j, k, l, m, o, p, q, r, s, t, u, v, w, _), _), _) => wire_pipe_fields_f1_b.run N a b c d e f g h i j k l m o p q r s t u v w
def S (N : Nat) : Fs := ⟨ins, outs, fn N⟩
def lam (N : Nat) : Pcs := pcs []
theorem pok (N : Nat) : (lam N).Ok Try.prog (C N) code := pcsOk_nil
theorem ok (N : Nat) : (S N).con.Ok Try.prog 39 := okF (F := S N) [] Try.func39 (by kernel_rfl) (by rfl) mix (cok N) (pok N) fun _ => by kernel_rfl
end wire_pipe_fields_f1_b
namespace wire_pipe_byte_i
def ins : Sh := (.cons (.box 47 s48) (.cons (.box 3 (.cons (.val (.int .i64)) .nil)) (.cons (.val (.int .i64)) .nil)))
def C (N : Nat) : Ctx := ⟨U, 41, fun _ => true, gam [(38, (codec_Reader_Byte.S N).con), (23, (wire_pipe_must_b.S N).con)], gamY []⟩
theorem cok (N : Nat) : (C N).Ok Try.prog := ⟨U_ok, GamOk.cons (codec_Reader_Byte.ok N) (GamOk.cons (wire_pipe_must_b.ok N) (GamOk.nil)), GamYOk.nil⟩
def code : Code := Try.f21.body.getD .skip
def outs : Sh := (.cons (.upd 1 68 s44) (.cons (.upd 0 47 s49) (.cons (.upd 2 3 (.cons (.val (.int .i64)) .nil)) .nil)))
end wire_pipe_byte_i
def wire_pipe_byte_i.run (N : Nat) (b : (List UInt8)) (e : Int) (wrong : Bool) (n_ : Int) (most : Int) : Option T39 :=
  obind (codec_Reader_Byte.run N b e) fun ((b1, e1, _), n1, _) =>
    bif decide ((IntKind.i64.wrap (n1.toNat : Int)) ≥ (0 : Int)) then
      obind (wire_pipe_must_b.run N b1 e1 wrong (decide ((IntKind.i64.wrap (n1.toNat : Int)) ≤ most))) fun ((b2, e2, _), (_, _, wrong1, _), _) =>
        some ((b2, e2, ()), ((), (), wrong1, ()), (IntKind.i64.wrap (n1.toNat : Int), ()), ())
    else
      obind (wire_pipe_must_b.run N b1 e1 wrong false) fun ((b3, e3, _), (_, _, wrong2, _), _) =>
        some ((b3, e3, ()), ((), (), wrong2, ()), (IntKind.i64.wrap (n1.toNat : Int), ()), ())
namespace wire_pipe_byte_i
def fn (N : Nat) : Sh.den ins → Option (Sh.den outs) := fun ((_, (a, b, _), c, _), (d, _), e, _) => wire_pipe_byte_i.run N a b c d e
def S (N : Nat) : Fs := ⟨ins, outs, fn N⟩
def lam (N : Nat) : Pcs := pcs []
theorem pok (N : Nat) : (lam N).Ok Try.prog (C N) code := pcsOk_nil
theorem ok (N : Nat) : (S N).con.Ok Try.prog 21 := okF (F := S N) [] Try.func21 (by kernel_rfl) (by rfl) mix (cok N) (pok N) fun _ => by kernel_rfl
end wire_pipe_byte_i
namespace wire_pipe_truth_d
def ins : Sh := (.cons (.box 47 s48) (.cons (.bxo 11 31 s51) .nil))
def C (N : Nat) : Ctx := ⟨U, 14, fun _ => true, gam [(21, (wire_pipe_byte_i.S N).con)], gamY []⟩
theorem cok (N : Nat) : (C N).Ok Try.prog := ⟨U_ok, GamOk.cons (wire_pipe_byte_i.ok N) (GamOk.nil), GamYOk.nil⟩
def code : Code := Try.f44.body.getD .skip
def outs : Sh := s52
end wire_pipe_truth_d
def wire_pipe_truth_d.run (N : Nat) (b : (List UInt8)) (e : Int) (wrong : Bool) (kind : Int) (from_ : Int) (to_ : Int) (txn : Int) (base : Int) (epoch : Int) (since : Int) (mark : Int) (ask : Int) (attempt : Int) (node : Int) (yes : Bool) (no : Bool) (wiped : Bool) (at_ : Int) (at1 : Int) (part : (List T7)) (part1 : (List T8)) (versions : (List T6)) : Option T29 :=
  bif yes then
    obind (wire_pipe_byte_i.run N b e wrong (1 : Int) (1 : Int)) fun ((b1, e1, _), (_, _, wrong1, _), (v, _), _) =>
      some ((b1, e1, ()), ((), (), wrong1, ()), (kind, from_, to_, txn, base, epoch, since, mark, ask, attempt, node, decide (v = (1 : Int)), no, wiped, at_, at1, part, part1, versions, ()), ())
  else
    obind (wire_pipe_byte_i.run N b e wrong (0 : Int) (1 : Int)) fun ((b2, e2, _), (_, _, wrong2, _), (v1, _), _) =>
      some ((b2, e2, ()), ((), (), wrong2, ()), (kind, from_, to_, txn, base, epoch, since, mark, ask, attempt, node, decide (v1 = (1 : Int)), no, wiped, at_, at1, part, part1, versions, ()), ())
namespace wire_pipe_truth_d
def fn (N : Nat) : Sh.den ins → Option (Sh.den outs) := fun ((_, (a, b, _), c, _), (d, e, f, g, h, i, j, k, l, m, o, p, q, r, s, t, u, v, w, _), _) => wire_pipe_truth_d.run N a b c d e f g h i j k l m o p q r s t u v w
def S (N : Nat) : Fs := ⟨ins, outs, fn N⟩
def lam (N : Nat) : Pcs := pcs []
theorem pok (N : Nat) : (lam N).Ok Try.prog (C N) code := pcsOk_nil
theorem ok (N : Nat) : (S N).con.Ok Try.prog 44 := okF (F := S N) [] Try.func44 (by kernel_rfl) (by rfl) mix (cok N) (pok N) fun _ => by kernel_rfl
end wire_pipe_truth_d
namespace wire_pipe_fields_f2_b
def ins : Sh := s66
def C (N : Nat) : Ctx := ⟨U, 12, fun _ => true, gam [(43, (wire_pipe_long_k.S N).con), (44, (wire_pipe_truth_d.S N).con)], gamY []⟩
theorem cok (N : Nat) : (C N).Ok Try.prog := ⟨U_ok, GamOk.cons (wire_pipe_long_k.ok N) (GamOk.cons (wire_pipe_truth_d.ok N) (GamOk.nil)), GamYOk.nil⟩
def code : Code := Try.f42.body.getD .skip
def outs : Sh := s67
end wire_pipe_fields_f2_b
def wire_pipe_fields_f2_b.run (N : Nat) (b : (List UInt8)) (e : Int) (wrong : Bool) (kind : Int) (from_ : Int) (to_ : Int) (txn : Int) (base : Int) (epoch : Int) (since : Int) (mark : Int) (ask : Int) (attempt : Int) (node : Int) (yes : Bool) (no : Bool) (wiped : Bool) (at_ : Int) (at1 : Int) (part : (List T7)) (part1 : (List T8)) (versions : (List T6)) : Option T29 :=
  obind (wire_pipe_long_k.run N b e wrong kind from_ to_ txn base epoch since mark ask attempt node yes no wiped at_ at1 part part1 versions) fun ((b1, e1, _), (kind1, from1, to1, txn1, base1, epoch1, since1, mark1, ask1, attempt1, node1, yes1, no1, wiped1, at2, at3, part2, part3, versions1, _), _) =>
    obind (wire_pipe_truth_d.run N b1 e1 wrong kind1 from1 to1 txn1 base1 epoch1 since1 mark1 ask1 attempt1 node1 yes1 no1 wiped1 at2 at3 part2 part3 versions1) fun ((b2, e2, _), (_, _, wrong1, _), (kind2, from2, to2, txn2, base2, epoch2, since2, mark2, ask2, attempt2, node2, yes2, no2, wiped2, at4, at5, part4, part5, versions2, _), _) =>
      some ((b2, e2, ()), ((), (), wrong1, ()), (kind2, from2, to2, txn2, base2, epoch2, since2, mark2, ask2, attempt2, node2, yes2, no2, wiped2, at4, at5, part4, part5, versions2, ()), ())
namespace wire_pipe_fields_f2_b
def fn (N : Nat) : Sh.den ins → Option (Sh.den outs) := fun (((_, (a, b, _), c, _), _), ((d, e, f, g, h, i, j, k, l, m, o, p, q, r, s, t, u, v, w, _), _), _) => wire_pipe_fields_f2_b.run N a b c d e f g h i j k l m o p q r s t u v w
def S (N : Nat) : Fs := ⟨ins, outs, fn N⟩
def lam (N : Nat) : Pcs := pcs []
theorem pok (N : Nat) : (lam N).Ok Try.prog (C N) code := pcsOk_nil
theorem ok (N : Nat) : (S N).con.Ok Try.prog 42 := okF (F := S N) [] Try.func42 (by kernel_rfl) (by rfl) mix (cok N) (pok N) fun _ => by kernel_rfl
end wire_pipe_fields_f2_b
namespace wire_pipe_long_n
def ins : Sh := (.cons (.rbox 47 s48) (.cons (.bxo 5 31 s51) .nil))
def C (N : Nat) : Ctx := ⟨U, 24, fun _ => true, gam [(67, (codec_Reader_Long.S N).con)], gamY []⟩
theorem cok (N : Nat) : (C N).Ok Try.prog := ⟨U_ok, GamOk.cons (codec_Reader_Long.ok N) (GamOk.nil), GamYOk.nil⟩
def code : Code := Try.f43.body.getD .skip
def outs : Sh := s53
end wire_pipe_long_n
def wire_pipe_long_n.run (N : Nat) (b : (List UInt8)) (e : Int) (wrong : Bool) (kind : Int) (from_ : Int) (to_ : Int) (txn : Int) (base : Int) (epoch : Int) (since : Int) (mark : Int) (ask : Int) (attempt : Int) (node : Int) (yes : Bool) (no : Bool) (wiped : Bool) (at_ : Int) (at1 : Int) (part : (List T7)) (part1 : (List T8)) (versions : (List T6)) : Option T30 :=
  obind (codec_Reader_Long.run N b e) fun ((b1, e1, _), n_, _) =>
    some ((b1, e1, ()), (kind, from_, to_, txn, base, n_, since, mark, ask, attempt, node, yes, no, wiped, at_, at1, part, part1, versions, ()), ())
namespace wire_pipe_long_n
def fn (N : Nat) : Sh.den ins → Option (Sh.den outs) := fun ((_, (a, b, _), c, _), (d, e, f, g, h, i, j, k, l, m, o, p, q, r, s, t, u, v, w, _), _) => wire_pipe_long_n.run N a b c d e f g h i j k l m o p q r s t u v w
def S (N : Nat) : Fs := ⟨ins, outs, fn N⟩
def lam (N : Nat) : Pcs := pcs []
theorem pok (N : Nat) : (lam N).Ok Try.prog (C N) code := pcsOk_nil
theorem ok (N : Nat) : (S N).con.Ok Try.prog 43 := okF (F := S N) [] Try.func43 (by kernel_rfl) (by rfl) mix (cok N) (pok N) fun _ => by kernel_rfl
end wire_pipe_long_n
namespace wire_pipe_longs_i
def ins : Sh := (.cons (.rbox 47 s48) (.cons (.els 1 2 (.cons (.bxo 5 31 s51) (.cons (.refo 2 3) .nil))) .nil))
def C (N : Nat) : Ctx := ⟨U, 16, fun _ => true, gam [(43, (((wire_pipe_long_k.S N).con).or (wire_pipe_long_n.S N).con))], gamY []⟩
theorem cok (N : Nat) : (C N).Ok Try.prog := ⟨U_ok, GamOk.cons (Con.or_ok (wire_pipe_long_k.ok N) (wire_pipe_long_n.ok N)) (GamOk.nil), GamYOk.nil⟩
def code : Code := Try.f40.body.getD .skip
def outs : Sh := s53
end wire_pipe_longs_i
def wire_pipe_longs_i.run (N : Nat) (b : (List UInt8)) (e : Int) (wrong : Bool) (kind : Int) (from_ : Int) (to_ : Int) (txn : Int) (base : Int) (epoch : Int) (since : Int) (mark : Int) (ask : Int) (attempt : Int) (node : Int) (yes : Bool) (no : Bool) (wiped : Bool) (at_ : Int) (at1 : Int) (part : (List T7)) (part1 : (List T8)) (versions : (List T6)) : Option T30 :=
  obind (wire_pipe_long_n.run N b e wrong kind from_ to_ txn base epoch since mark ask attempt node yes no wiped at_ at1 part part1 versions) fun ((b1, e1, _), (kind1, from1, to1, txn1, base1, epoch1, since1, mark1, ask1, attempt1, node1, yes1, no1, wiped1, at2, at3, part2, part3, versions1, _), _) =>
    obind (wire_pipe_long_k.run N b1 e1 wrong kind1 from1 to1 txn1 base1 epoch1 since1 mark1 ask1 attempt1 node1 yes1 no1 wiped1 at2 at3 part2 part3 versions1) fun ((b2, e2, _), (kind2, from2, to2, txn2, base2, epoch2, since2, mark2, ask2, attempt2, node2, yes2, no2, wiped2, at4, at5, part4, part5, versions2, _), _) =>
      some ((b2, e2, ()), (kind2, from2, to2, txn2, base2, epoch2, since2, mark2, ask2, attempt2, node2, yes2, no2, wiped2, at4, at5, part4, part5, versions2, ()), ())
namespace wire_pipe_longs_i
def fn (N : Nat) : Sh.den ins → Option (Sh.den outs) := fun ((_, (a, b, _), c, _), ((d, e, f, g, h, i, j, k, l, m, o, p, q, r, s, t, u, v, w, _), _, _), _) => wire_pipe_longs_i.run N a b c d e f g h i j k l m o p q r s t u v w
def S (N : Nat) : Fs := ⟨ins, outs, fn N⟩
def lam (N : Nat) : Pcs := pcs [([true, false], (Pc.unroll (C N) (loopBody (sub code [true, false])) (pcs []) 3))]
theorem pok (N : Nat) : (lam N).Ok Try.prog (C N) code := pcsOk_cons (c1 := .loop (loopBody (sub code [true, false]))) (by kernel_rfl) (unroll_ok (cok N) mix pcsOk_nil 3) (pcsOk_nil)
theorem ok (N : Nat) : (S N).con.Ok Try.prog 40 := okF (F := S N) [] Try.func40 (by kernel_rfl) (by rfl) mix (cok N) (pok N) fun _ => by kernel_rfl
end wire_pipe_longs_i
namespace wire_pipe_fields_f3_b
def ins : Sh := s68
def C (N : Nat) : Ctx := ⟨U, 11, fun _ => true, gam [(40, (wire_pipe_longs_i.S N).con)], gamY []⟩
theorem cok (N : Nat) : (C N).Ok Try.prog := ⟨U_ok, GamOk.cons (wire_pipe_longs_i.ok N) (GamOk.nil), GamYOk.nil⟩
def code : Code := Try.f45.body.getD .skip
def outs : Sh := s69
end wire_pipe_fields_f3_b
def wire_pipe_fields_f3_b.run (N : Nat) (b : (List UInt8)) (e : Int) (wrong : Bool) (kind : Int) (from_ : Int) (to_ : Int) (txn : Int) (base : Int) (epoch : Int) (since : Int) (mark : Int) (ask : Int) (attempt : Int) (node : Int) (yes : Bool) (no : Bool) (wiped : Bool) (at_ : Int) (at1 : Int) (part : (List T7)) (part1 : (List T8)) (versions : (List T6)) : Option T30 :=
  obind (wire_pipe_longs_i.run N b e wrong kind from_ to_ txn base epoch since mark ask attempt node yes no wiped at_ at1 part part1 versions) fun ((b1, e1, _), (kind1, from1, to1, txn1, base1, epoch1, since1, mark1, ask1, attempt1, node1, yes1, no1, wiped1, at2, at3, part2, part3, versions1, _), _) =>
    some ((b1, e1, ()), (kind1, from1, to1, txn1, base1, epoch1, since1, mark1, ask1, attempt1, node1, yes1, no1, wiped1, at2, at3, part2, part3, versions1, ()), ())
namespace wire_pipe_fields_f3_b
def fn (N : Nat) : Sh.den ins → Option (Sh.den outs) := fun (((_, (a, b, _), c, _), _), ((d, e, f, g, h, i, j, k, l, m, o, p, q, r, s, t, u, v, w, _), _), _) => wire_pipe_fields_f3_b.run N a b c d e f g h i j k l m o p q r s t u v w
def S (N : Nat) : Fs := ⟨ins, outs, fn N⟩
def lam (N : Nat) : Pcs := pcs []
theorem pok (N : Nat) : (lam N).Ok Try.prog (C N) code := pcsOk_nil
theorem ok (N : Nat) : (S N).con.Ok Try.prog 45 := okF (F := S N) [] Try.func45 (by kernel_rfl) (by rfl) mix (cok N) (pok N) fun _ => by kernel_rfl
end wire_pipe_fields_f3_b
namespace wire_pipe_long_o
def ins : Sh := (.cons (.rbox 47 s48) (.cons (.bxo 7 31 s51) .nil))
def C (N : Nat) : Ctx := ⟨U, 24, fun _ => true, gam [(67, (codec_Reader_Long.S N).con)], gamY []⟩
theorem cok (N : Nat) : (C N).Ok Try.prog := ⟨U_ok, GamOk.cons (codec_Reader_Long.ok N) (GamOk.nil), GamYOk.nil⟩
def code : Code := Try.f43.body.getD .skip
def outs : Sh := s53
end wire_pipe_long_o
def wire_pipe_long_o.run (N : Nat) (b : (List UInt8)) (e : Int) (wrong : Bool) (kind : Int) (from_ : Int) (to_ : Int) (txn : Int) (base : Int) (epoch : Int) (since : Int) (mark : Int) (ask : Int) (attempt : Int) (node : Int) (yes : Bool) (no : Bool) (wiped : Bool) (at_ : Int) (at1 : Int) (part : (List T7)) (part1 : (List T8)) (versions : (List T6)) : Option T30 :=
  obind (codec_Reader_Long.run N b e) fun ((b1, e1, _), n_, _) =>
    some ((b1, e1, ()), (kind, from_, to_, txn, base, epoch, since, n_, ask, attempt, node, yes, no, wiped, at_, at1, part, part1, versions, ()), ())
namespace wire_pipe_long_o
def fn (N : Nat) : Sh.den ins → Option (Sh.den outs) := fun ((_, (a, b, _), c, _), (d, e, f, g, h, i, j, k, l, m, o, p, q, r, s, t, u, v, w, _), _) => wire_pipe_long_o.run N a b c d e f g h i j k l m o p q r s t u v w
def S (N : Nat) : Fs := ⟨ins, outs, fn N⟩
def lam (N : Nat) : Pcs := pcs []
theorem pok (N : Nat) : (lam N).Ok Try.prog (C N) code := pcsOk_nil
theorem ok (N : Nat) : (S N).con.Ok Try.prog 43 := okF (F := S N) [] Try.func43 (by kernel_rfl) (by rfl) mix (cok N) (pok N) fun _ => by kernel_rfl
end wire_pipe_long_o
namespace wire_pipe_longs_j
def ins : Sh := (.cons (.rbox 47 s48) (.cons (.els 1 2 (.cons (.bxo 5 31 s51) (.cons (.refo 2 7) .nil))) .nil))
def C (N : Nat) : Ctx := ⟨U, 16, fun _ => true, gam [(43, (((wire_pipe_long_n.S N).con).or (wire_pipe_long_o.S N).con))], gamY []⟩
theorem cok (N : Nat) : (C N).Ok Try.prog := ⟨U_ok, GamOk.cons (Con.or_ok (wire_pipe_long_n.ok N) (wire_pipe_long_o.ok N)) (GamOk.nil), GamYOk.nil⟩
def code : Code := Try.f40.body.getD .skip
def outs : Sh := s53
end wire_pipe_longs_j
def wire_pipe_longs_j.run (N : Nat) (b : (List UInt8)) (e : Int) (wrong : Bool) (kind : Int) (from_ : Int) (to_ : Int) (txn : Int) (base : Int) (epoch : Int) (since : Int) (mark : Int) (ask : Int) (attempt : Int) (node : Int) (yes : Bool) (no : Bool) (wiped : Bool) (at_ : Int) (at1 : Int) (part : (List T7)) (part1 : (List T8)) (versions : (List T6)) : Option T30 :=
  obind (wire_pipe_long_n.run N b e wrong kind from_ to_ txn base epoch since mark ask attempt node yes no wiped at_ at1 part part1 versions) fun ((b1, e1, _), (kind1, from1, to1, txn1, base1, epoch1, since1, mark1, ask1, attempt1, node1, yes1, no1, wiped1, at2, at3, part2, part3, versions1, _), _) =>
    obind (wire_pipe_long_o.run N b1 e1 wrong kind1 from1 to1 txn1 base1 epoch1 since1 mark1 ask1 attempt1 node1 yes1 no1 wiped1 at2 at3 part2 part3 versions1) fun ((b2, e2, _), (kind2, from2, to2, txn2, base2, epoch2, since2, mark2, ask2, attempt2, node2, yes2, no2, wiped2, at4, at5, part4, part5, versions2, _), _) =>
      some ((b2, e2, ()), (kind2, from2, to2, txn2, base2, epoch2, since2, mark2, ask2, attempt2, node2, yes2, no2, wiped2, at4, at5, part4, part5, versions2, ()), ())
namespace wire_pipe_longs_j
def fn (N : Nat) : Sh.den ins → Option (Sh.den outs) := fun ((_, (a, b, _), c, _), ((d, e, f, g, h, i, j, k, l, m, o, p, q, r, s, t, u, v, w, _), _, _), _) => wire_pipe_longs_j.run N a b c d e f g h i j k l m o p q r s t u v w
def S (N : Nat) : Fs := ⟨ins, outs, fn N⟩
def lam (N : Nat) : Pcs := pcs [([true, false], (Pc.unroll (C N) (loopBody (sub code [true, false])) (pcs []) 3))]
theorem pok (N : Nat) : (lam N).Ok Try.prog (C N) code := pcsOk_cons (c1 := .loop (loopBody (sub code [true, false]))) (by kernel_rfl) (unroll_ok (cok N) mix pcsOk_nil 3) (pcsOk_nil)
theorem ok (N : Nat) : (S N).con.Ok Try.prog 40 := okF (F := S N) [] Try.func40 (by kernel_rfl) (by rfl) mix (cok N) (pok N) fun _ => by kernel_rfl
end wire_pipe_longs_j
namespace wire_pipe_fields_f4_b
def ins : Sh := s68
def C (N : Nat) : Ctx := ⟨U, 11, fun _ => true, gam [(40, (wire_pipe_longs_j.S N).con)], gamY []⟩
theorem cok (N : Nat) : (C N).Ok Try.prog := ⟨U_ok, GamOk.cons (wire_pipe_longs_j.ok N) (GamOk.nil), GamYOk.nil⟩
def code : Code := Try.f46.body.getD .skip
def outs : Sh := s69
end wire_pipe_fields_f4_b
def wire_pipe_fields_f4_b.run (N : Nat) (b : (List UInt8)) (e : Int) (wrong : Bool) (kind : Int) (from_ : Int) (to_ : Int) (txn : Int) (base : Int) (epoch : Int) (since : Int) (mark : Int) (ask : Int) (attempt : Int) (node : Int) (yes : Bool) (no : Bool) (wiped : Bool) (at_ : Int) (at1 : Int) (part : (List T7)) (part1 : (List T8)) (versions : (List T6)) : Option T30 :=
  obind (wire_pipe_longs_j.run N b e wrong kind from_ to_ txn base epoch since mark ask attempt node yes no wiped at_ at1 part part1 versions) fun ((b1, e1, _), (kind1, from1, to1, txn1, base1, epoch1, since1, mark1, ask1, attempt1, node1, yes1, no1, wiped1, at2, at3, part2, part3, versions1, _), _) =>
    some ((b1, e1, ()), (kind1, from1, to1, txn1, base1, epoch1, since1, mark1, ask1, attempt1, node1, yes1, no1, wiped1, at2, at3, part2, part3, versions1, ()), ())
namespace wire_pipe_fields_f4_b
def fn (N : Nat) : Sh.den ins → Option (Sh.den outs) := fun (((_, (a, b, _), c, _), _), ((d, e, f, g, h, i, j, k, l, m, o, p, q, r, s, t, u, v, w, _), _), _) => wire_pipe_fields_f4_b.run N a b c d e f g h i j k l m o p q r s t u v w
def S (N : Nat) : Fs := ⟨ins, outs, fn N⟩
def lam (N : Nat) : Pcs := pcs []
theorem pok (N : Nat) : (lam N).Ok Try.prog (C N) code := pcsOk_nil
theorem ok (N : Nat) : (S N).con.Ok Try.prog 46 := okF (F := S N) [] Try.func46 (by kernel_rfl) (by rfl) mix (cok N) (pok N) fun _ => by kernel_rfl
end wire_pipe_fields_f4_b
namespace wire_pipe_long_p
def ins : Sh := (.cons (.rbox 47 s48) (.cons (.bxo 8 31 s51) .nil))
def C (N : Nat) : Ctx := ⟨U, 24, fun _ => true, gam [(67, (codec_Reader_Long.S N).con)], gamY []⟩
theorem cok (N : Nat) : (C N).Ok Try.prog := ⟨U_ok, GamOk.cons (codec_Reader_Long.ok N) (GamOk.nil), GamYOk.nil⟩
def code : Code := Try.f43.body.getD .skip
def outs : Sh := s53
end wire_pipe_long_p
def wire_pipe_long_p.run (N : Nat) (b : (List UInt8)) (e : Int) (wrong : Bool) (kind : Int) (from_ : Int) (to_ : Int) (txn : Int) (base : Int) (epoch : Int) (since : Int) (mark : Int) (ask : Int) (attempt : Int) (node : Int) (yes : Bool) (no : Bool) (wiped : Bool) (at_ : Int) (at1 : Int) (part : (List T7)) (part1 : (List T8)) (versions : (List T6)) : Option T30 :=
  obind (codec_Reader_Long.run N b e) fun ((b1, e1, _), n_, _) =>
    some ((b1, e1, ()), (kind, from_, to_, txn, base, epoch, since, mark, n_, attempt, node, yes, no, wiped, at_, at1, part, part1, versions, ()), ())
namespace wire_pipe_long_p
def fn (N : Nat) : Sh.den ins → Option (Sh.den outs) := fun ((_, (a, b, _), c, _), (d, e, f, g, h, i, j, k, l, m, o, p, q, r, s, t, u, v, w, _), _) => wire_pipe_long_p.run N a b c d e f g h i j k l m o p q r s t u v w
def S (N : Nat) : Fs := ⟨ins, outs, fn N⟩
def lam (N : Nat) : Pcs := pcs []
theorem pok (N : Nat) : (lam N).Ok Try.prog (C N) code := pcsOk_nil
theorem ok (N : Nat) : (S N).con.Ok Try.prog 43 := okF (F := S N) [] Try.func43 (by kernel_rfl) (by rfl) mix (cok N) (pok N) fun _ => by kernel_rfl
end wire_pipe_long_p
namespace wire_pipe_longs_k
def ins : Sh := (.cons (.rbox 47 s48) (.cons (.els 1 2 (.cons (.bxo 8 31 s51) (.cons (.refo 2 5) .nil))) .nil))
def C (N : Nat) : Ctx := ⟨U, 16, fun _ => true, gam [(43, (((wire_pipe_long_n.S N).con).or (wire_pipe_long_p.S N).con))], gamY []⟩
theorem cok (N : Nat) : (C N).Ok Try.prog := ⟨U_ok, GamOk.cons (Con.or_ok (wire_pipe_long_n.ok N) (wire_pipe_long_p.ok N)) (GamOk.nil), GamYOk.nil⟩
def code : Code := Try.f40.body.getD .skip
def outs : Sh := s53
end wire_pipe_longs_k
def wire_pipe_longs_k.run (N : Nat) (b : (List UInt8)) (e : Int) (wrong : Bool) (kind : Int) (from_ : Int) (to_ : Int) (txn : Int) (base : Int) (epoch : Int) (since : Int) (mark : Int) (ask : Int) (attempt : Int) (node : Int) (yes : Bool) (no : Bool) (wiped : Bool) (at_ : Int) (at1 : Int) (part : (List T7)) (part1 : (List T8)) (versions : (List T6)) : Option T30 :=
  obind (wire_pipe_long_p.run N b e wrong kind from_ to_ txn base epoch since mark ask attempt node yes no wiped at_ at1 part part1 versions) fun ((b1, e1, _), (kind1, from1, to1, txn1, base1, epoch1, since1, mark1, ask1, attempt1, node1, yes1, no1, wiped1, at2, at3, part2, part3, versions1, _), _) =>
    obind (wire_pipe_long_n.run N b1 e1 wrong kind1 from1 to1 txn1 base1 epoch1 since1 mark1 ask1 attempt1 node1 yes1 no1 wiped1 at2 at3 part2 part3 versions1) fun ((b2, e2, _), (kind2, from2, to2, txn2, base2, epoch2, since2, mark2, ask2, attempt2, node2, yes2, no2, wiped2, at4, at5, part4, part5, versions2, _), _) =>
      some ((b2, e2, ()), (kind2, from2, to2, txn2, base2, epoch2, since2, mark2, ask2, attempt2, node2, yes2, no2, wiped2, at4, at5, part4, part5, versions2, ()), ())
namespace wire_pipe_longs_k
def fn (N : Nat) : Sh.den ins → Option (Sh.den outs) := fun ((_, (a, b, _), c, _), ((d, e, f, g, h, i, j, k, l, m, o, p, q, r, s, t, u, v, w, _), _, _), _) => wire_pipe_longs_k.run N a b c d e f g h i j k l m o p q r s t u v w
def S (N : Nat) : Fs := ⟨ins, outs, fn N⟩
def lam (N : Nat) : Pcs := pcs [([true, false], (Pc.unroll (C N) (loopBody (sub code [true, false])) (pcs []) 3))]
theorem pok (N : Nat) : (lam N).Ok Try.prog (C N) code := pcsOk_cons (c1 := .loop (loopBody (sub code [true, false]))) (by kernel_rfl) (unroll_ok (cok N) mix pcsOk_nil 3) (pcsOk_nil)
theorem ok (N : Nat) : (S N).con.Ok Try.prog 40 := okF (F := S N) [] Try.func40 (by kernel_rfl) (by rfl) mix (cok N) (pok N) fun _ => by kernel_rfl
end wire_pipe_longs_k
namespace wire_pipe_place_k
def ins : Sh := s70
def C (N : Nat) : Ctx := ⟨U, 38, fun _ => true, gam [(72, (codec_Reader_Var.S N).con)], gamY []⟩
theorem cok (N : Nat) : (C N).Ok Try.prog := ⟨U_ok, GamOk.cons (codec_Reader_Var.ok N) (GamOk.nil), GamYOk.nil⟩
def code : Code := Try.f68.body.getD .skip
def outs : Sh := s53
end wire_pipe_place_k
def wire_pipe_place_k.run (N : Nat) (b : (List UInt8)) (e : Int) (wrong : Bool) (kind : Int) (from_ : Int) (to_ : Int) (txn : Int) (base : Int) (epoch : Int) (since : Int) (mark : Int) (ask : Int) (attempt : Int) (node : Int) (yes : Bool) (no : Bool) (wiped : Bool) (at_ : Int) (at1 : Int) (part : (List T7)) (part1 : (List T8)) (versions : (List T6)) : Option T30 :=
  obind (codec_Reader_Var.run N b e (2147483647 : Int)) fun ((b1, e1, _), n_, _) =>
    some ((b1, e1, ()), (kind, from_, to_, txn, base, epoch, since, mark, ask, attempt, node, yes, no, wiped, IntKind.i64.wrap n_, at1, part, part1, versions, ()), ())
namespace wire_pipe_place_k
def fn (N : Nat) : Sh.den ins → Option (Sh.den outs) := fun ((_, (a, b, _), c, _), (d, e, f, g, h, i, j, k, l, m, o, p, q, r, s, t, u, v, w, _), _) => wire_pipe_place_k.run N a b c d e f g h i j k l m o p q r s t u v w
def S (N : Nat) : Fs := ⟨ins, outs, fn N⟩
def lam (N : Nat) : Pcs := pcs []
theorem pok (N : Nat) : (lam N).Ok Try.prog (C N) code := pcsOk_nil
theorem ok (N : Nat) : (S N).con.Ok Try.prog 68 := okF (F := S N) [] Try.func68 (by kernel_rfl) (by rfl) mix (cok N) (pok N) fun _ => by kernel_rfl
end wire_pipe_place_k
namespace wire_pipe_place_l
def ins : Sh := (.cons (.rbox 47 s48) (.cons (.bxo 15 31 s51) .nil))
def C (N : Nat) : Ctx := ⟨U, 38, fun _ => true, gam [(72, (codec_Reader_Var.S N).con)], gamY []⟩
theorem cok (N : Nat) : (C N).Ok Try.prog := ⟨U_ok, GamOk.cons (codec_Reader_Var.ok N) (GamOk.nil), GamYOk.nil⟩
def code : Code := Try.f68.body.getD .skip
def outs : Sh := s53
end wire_pipe_place_l
def wire_pipe_place_l.run (N : Nat) (b : (List UInt8)) (e : Int) (wrong : Bool) (kind : Int) (from_ : Int) (to_ : Int) (txn : Int) (base : Int) (epoch : Int) (since : Int) (mark : Int) (ask : Int) (attempt : Int) (node : Int) (yes : Bool) (no : Bool) (wiped : Bool) (at_ : Int) (at1 : Int) (part : (List T7)) (part1 : (List T8)) (versions : (List T6)) : Option T30 :=
  obind (codec_Reader_Var.run N b e (2147483647 : Int)) fun ((b1, e1, _), n_, _) =>
    some ((b1, e1, ()), (kind, from_, to_, txn, base, epoch, since, mark, ask, attempt, node, yes, no, wiped, at_, IntKind.i64.wrap n_, part, part1, versions, ()), ())
namespace wire_pipe_place_l
def fn (N : Nat) : Sh.den ins → Option (Sh.den outs) := fun ((_, (a, b, _), c, _), (d, e, f, g, h, i, j, k, l, m, o, p, q, r, s, t, u, v, w, _), _) => wire_pipe_place_l.run N a b c d e f g h i j k l m o p q r s t u v w
def S (N : Nat) : Fs := ⟨ins, outs, fn N⟩
def lam (N : Nat) : Pcs := pcs []
theorem pok (N : Nat) : (lam N).Ok Try.prog (C N) code := pcsOk_nil
theorem ok (N : Nat) : (S N).con.Ok Try.prog 68 := okF (F := S N) [] Try.func68 (by kernel_rfl) (by rfl) mix (cok N) (pok N) fun _ => by kernel_rfl
end wire_pipe_place_l
namespace wire_pipe_segment_f
def ins : Sh := s70
def C (N : Nat) : Ctx := ⟨U, 14, fun _ => true, gam [(68, (((wire_pipe_place_k.S N).con).or (wire_pipe_place_l.S N).con))], gamY []⟩
theorem cok (N : Nat) : (C N).Ok Try.prog := ⟨U_ok, GamOk.cons (Con.or_ok (wire_pipe_place_k.ok N) (wire_pipe_place_l.ok N)) (GamOk.nil), GamYOk.nil⟩
def code : Code := Try.f48.body.getD .skip
def outs : Sh := s53
end wire_pipe_segment_f
def wire_pipe_segment_f.run (N : Nat) (b : (List UInt8)) (e : Int) (wrong : Bool) (kind : Int) (from_ : Int) (to_ : Int) (txn : Int) (base : Int) (epoch : Int) (since : Int) (mark : Int) (ask : Int) (attempt : Int) (node : Int) (yes : Bool) (no : Bool) (wiped : Bool) (at_ : Int) (at1 : Int) (part : (List T7)) (part1 : (List T8)) (versions : (List T6)) : Option T30 :=
  obind (wire_pipe_place_k.run N b e wrong kind from_ to_ txn base epoch since mark ask attempt node yes no wiped at_ at1 part part1 versions) fun ((b1, e1, _), (kind1, from1, to1, txn1, base1, epoch1, since1, mark1, ask1, attempt1, node1, yes1, no1, wiped1, at2, at3, part2, part3, versions1, _), _) =>
    obind (wire_pipe_place_l.run N b1 e1 wrong kind1 from1 to1 txn1 base1 epoch1 since1 mark1 ask1 attempt1 node1 yes1 no1 wiped1 at2 at3 part2 part3 versions1) fun ((b2, e2, _), (kind2, from2, to2, txn2, base2, epoch2, since2, mark2, ask2, attempt2, node2, yes2, no2, wiped2, at4, at5, part4, part5, versions2, _), _) =>
      some ((b2, e2, ()), (kind2, from2, to2, txn2, base2, epoch2, since2, mark2, ask2, attempt2, node2, yes2, no2, wiped2, at4, at5, part4, part5, versions2, ()), ())
namespace wire_pipe_segment_f
def fn (N : Nat) : Sh.den ins → Option (Sh.den outs) := fun ((_, (a, b, _), c, _), (d, e, f, g, h, i, j, k, l, m, o, p, q, r, s, t, u, v, w, _), _) => wire_pipe_segment_f.run N a b c d e f g h i j k l m o p q r s t u v w
def S (N : Nat) : Fs := ⟨ins, outs, fn N⟩
def lam (N : Nat) : Pcs := pcs []
theorem pok (N : Nat) : (lam N).Ok Try.prog (C N) code := pcsOk_nil
theorem ok (N : Nat) : (S N).con.Ok Try.prog 48 := okF (F := S N) [] Try.func48 (by kernel_rfl) (by rfl) mix (cok N) (pok N) fun _ => by kernel_rfl
end wire_pipe_segment_f
namespace wire_pipe_fields_f5_b
def ins : Sh := s68
def C (N : Nat) : Ctx := ⟨U, 16, fun _ => true, gam [(40, (wire_pipe_longs_k.S N).con), (48, (wire_pipe_segment_f.S N).con)], gamY []⟩
theorem cok (N : Nat) : (C N).Ok Try.prog := ⟨U_ok, GamOk.cons (wire_pipe_longs_k.ok N) (GamOk.cons (wire_pipe_segment_f.ok N) (GamOk.nil)), GamYOk.nil⟩
def code : Code := Try.f47.body.getD .skip
def outs : Sh := s69
end wire_pipe_fields_f5_b
def wire_pipe_fields_f5_b.run (N : Nat) (b : (List UInt8)) (e : Int) (wrong : Bool) (kind : Int) (from_ : Int) (to_ : Int) (txn : Int) (base : Int) (epoch : Int) (since : Int) (mark : Int) (ask : Int) (attempt : Int) (node : Int) (yes : Bool) (no : Bool) (wiped : Bool) (at_ : Int) (at1 : Int) (part : (List T7)) (part1 : (List T8)) (versions : (List T6)) : Option T30 :=
  obind (wire_pipe_longs_k.run N b e wrong kind from_ to_ txn base epoch since mark ask attempt node yes no wiped at_ at1 part part1 versions) fun ((b1, e1, _), (kind1, from1, to1, txn1, base1, epoch1, since1, mark1, ask1, attempt1, node1, yes1, no1, wiped1, at2, at3, part2, part3, versions1, _), _) =>
    obind (wire_pipe_segment_f.run N b1 e1 wrong kind1 from1 to1 txn1 base1 epoch1 since1 mark1 ask1 attempt1 node1 yes1 no1 wiped1 at2 at3 part2 part3 versions1) fun ((b2, e2, _), (kind2, from2, to2, txn2, base2, epoch2, since2, mark2, ask2, attempt2, node2, yes2, no2, wiped2, at4, at5, part4, part5, versions2, _), _) =>
      some ((b2, e2, ()), (kind2, from2, to2, txn2, base2, epoch2, since2, mark2, ask2, attempt2, node2, yes2, no2, wiped2, at4, at5, part4, part5, versions2, ()), ())
namespace wire_pipe_fields_f5_b
def fn (N : Nat) : Sh.den ins → Option (Sh.den outs) := fun (((_, (a, b, _), c, _), _), ((d, e, f, g, h, i, j, k, l, m, o, p, q, r, s, t, u, v, w, _), _), _) => wire_pipe_fields_f5_b.run N a b c d e f g h i j k l m o p q r s t u v w
def S (N : Nat) : Fs := ⟨ins, outs, fn N⟩
def lam (N : Nat) : Pcs := pcs []
theorem pok (N : Nat) : (lam N).Ok Try.prog (C N) code := pcsOk_nil
theorem ok (N : Nat) : (S N).con.Ok Try.prog 47 := okF (F := S N) [] Try.func47 (by kernel_rfl) (by rfl) mix (cok N) (pok N) fun _ => by kernel_rfl
end wire_pipe_fields_f5_b
namespace wire_pipe_truth_e
def ins : Sh := (.cons (.box 47 s48) (.cons (.bxo 12 31 s51) .nil))
def C (N : Nat) : Ctx := ⟨U, 14, fun _ => true, gam [(21, (wire_pipe_byte_i.S N).con)], gamY []⟩
theorem cok (N : Nat) : (C N).Ok Try.prog := ⟨U_ok, GamOk.cons (wire_pipe_byte_i.ok N) (GamOk.nil), GamYOk.nil⟩
def code : Code := Try.f44.body.getD .skip
def outs : Sh := s52
end wire_pipe_truth_e
def wire_pipe_truth_e.run (N : Nat) (b : (List UInt8)) (e : Int) (wrong : Bool) (kind : Int) (from_ : Int) (to_ : Int) (txn : Int) (base : Int) (epoch : Int) (since : Int) (mark : Int) (ask : Int) (attempt : Int) (node : Int) (yes : Bool) (no : Bool) (wiped : Bool) (at_ : Int) (at1 : Int) (part : (List T7)) (part1 : (List T8)) (versions : (List T6)) : Option T29 :=
  bif no then
    obind (wire_pipe_byte_i.run N b e wrong (1 : Int) (1 : Int)) fun ((b1, e1, _), (_, _, wrong1, _), (v, _), _) =>
      some ((b1, e1, ()), ((), (), wrong1, ()), (kind, from_, to_, txn, base, epoch, since, mark, ask, attempt, node, yes, decide (v = (1 : Int)), wiped, at_, at1, part, part1, versions, ()), ())
  else
    obind (wire_pipe_byte_i.run N b e wrong (0 : Int) (1 : Int)) fun ((b2, e2, _), (_, _, wrong2, _), (v1, _), _) =>
      some ((b2, e2, ()), ((), (), wrong2, ()), (kind, from_, to_, txn, base, epoch, since, mark, ask, attempt, node, yes, decide (v1 = (1 : Int)), wiped, at_, at1, part, part1, versions, ()), ())
namespace wire_pipe_truth_e
def fn (N : Nat) : Sh.den ins → Option (Sh.den outs) := fun ((_, (a, b, _), c, _), (d, e, f, g, h, i, j, k, l, m, o, p, q, r, s, t, u, v, w, _), _) => wire_pipe_truth_e.run N a b c d e f g h i j k l m o p q r s t u v w
def S (N : Nat) : Fs := ⟨ins, outs, fn N⟩
def lam (N : Nat) : Pcs := pcs []
theorem pok (N : Nat) : (lam N).Ok Try.prog (C N) code := pcsOk_nil
theorem ok (N : Nat) : (S N).con.Ok Try.prog 44 := okF (F := S N) [] Try.func44 (by kernel_rfl) (by rfl) mix (cok N) (pok N) fun _ => by kernel_rfl
end wire_pipe_truth_e
namespace wire_pipe_long_q
def ins : Sh := s71
def C (N : Nat) : Ctx := ⟨U, 24, fun _ => true, gam [(67, (codec_Reader_Long.S N).con)], gamY []⟩
theorem cok (N : Nat) : (C N).Ok Try.prog := ⟨U_ok, GamOk.cons (codec_Reader_Long.ok N) (GamOk.nil), GamYOk.nil⟩
def code : Code := Try.f43.body.getD .skip
def outs : Sh := s72
end wire_pipe_long_q
def wire_pipe_long_q.run (N : Nat) (b : (List UInt8)) (e : Int) (wrong : Bool) (id_ : Int) (id1 : Int) (row : (List T4)) (deleted : Int) : Option T40 :=
  obind (codec_Reader_Long.run N b e) fun ((b1, e1, _), n_, _) =>
    some ((b1, e1, ()), (n_, id1, row, deleted, ()), ())
namespace wire_pipe_long_q
def fn (N : Nat) : Sh.den ins → Option (Sh.den outs) := fun ((_, (a, b, _), c, _), (d, e, f, g, _), _) => wire_pipe_long_q.run N a b c d e f g
def S (N : Nat) : Fs := ⟨ins, outs, fn N⟩
def lam (N : Nat) : Pcs := pcs []
theorem pok (N : Nat) : (lam N).Ok Try.prog (C N) code := pcsOk_nil
theorem ok (N : Nat) : (S N).con.Ok Try.prog 43 := okF (F := S N) [] Try.func43 (by kernel_rfl) (by rfl) mix (cok N) (pok N) fun _ => by kernel_rfl
end wire_pipe_long_q
namespace wire_pipe_word_f
def ins : Sh := (.cons (.rbox 47 s48) (.cons (.bxo 1 78 s55) .nil))
def C (N : Nat) : Ctx := ⟨U, 24, fun _ => true, gam [(34, (codec_Reader_Word.S N).con)], gamY []⟩
theorem cok (N : Nat) : (C N).Ok Try.prog := ⟨U_ok, GamOk.cons (codec_Reader_Word.ok N) (GamOk.nil), GamYOk.nil⟩
def code : Code := Try.f74.body.getD .skip
def outs : Sh := s72
end wire_pipe_word_f
def wire_pipe_word_f.run (N : Nat) (b : (List UInt8)) (e : Int) (wrong : Bool) (id_ : Int) (id1 : Int) (row : (List T4)) (deleted : Int) : Option T40 :=
  obind (codec_Reader_Word.run N b e) fun ((b1, e1, _), n_, _) =>
    some ((b1, e1, ()), (id_, n_, row, deleted, ()), ())
namespace wire_pipe_word_f
def fn (N : Nat) : Sh.den ins → Option (Sh.den outs) := fun ((_, (a, b, _), c, _), (d, e, f, g, _), _) => wire_pipe_word_f.run N a b c d e f g
def S (N : Nat) : Fs := ⟨ins, outs, fn N⟩
def lam (N : Nat) : Pcs := pcs []
theorem pok (N : Nat) : (lam N).Ok Try.prog (C N) code := pcsOk_nil
theorem ok (N : Nat) : (S N).con.Ok Try.prog 74 := okF (F := S N) [] Try.func74 (by kernel_rfl) (by rfl) mix (cok N) (pok N) fun _ => by kernel_rfl
end wire_pipe_word_f
namespace wire_pipe_name_d
def ins : Sh := s71
def C (N : Nat) : Ctx := ⟨U, 14, fun _ => true, gam [(43, (wire_pipe_long_q.S N).con), (74, (wire_pipe_word_f.S N).con)], gamY []⟩
theorem cok (N : Nat) : (C N).Ok Try.prog := ⟨U_ok, GamOk.cons (wire_pipe_long_q.ok N) (GamOk.cons (wire_pipe_word_f.ok N) (GamOk.nil)), GamYOk.nil⟩
def code : Code := Try.f76.body.getD .skip
def outs : Sh := s72
end wire_pipe_name_d
def wire_pipe_name_d.run (N : Nat) (b : (List UInt8)) (e : Int) (wrong : Bool) (id_ : Int) (id1 : Int) (row : (List T4)) (deleted : Int) : Option T40 :=
  obind (wire_pipe_long_q.run N b e wrong id_ id1 row deleted) fun ((b1, e1, _), (id2, id3, row1, deleted1, _), _) =>
    obind (wire_pipe_word_f.run N b1 e1 wrong id2 id3 row1 deleted1) fun ((b2, e2, _), (id4, id5, row2, deleted2, _), _) =>
      some ((b2, e2, ()), (id4, id5, row2, deleted2, ()), ())
namespace wire_pipe_name_d
def fn (N : Nat) : Sh.den ins → Option (Sh.den outs) := fun ((_, (a, b, _), c, _), (d, e, f, g, _), _) => wire_pipe_name_d.run N a b c d e f g
def S (N : Nat) : Fs := ⟨ins, outs, fn N⟩
def lam (N : Nat) : Pcs := pcs []
theorem pok (N : Nat) : (lam N).Ok Try.prog (C N) code := pcsOk_nil
theorem ok (N : Nat) : (S N).con.Ok Try.prog 76 := okF (F := S N) [] Try.func76 (by kernel_rfl) (by rfl) mix (cok N) (pok N) fun _ => by kernel_rfl
end wire_pipe_name_d
namespace wire_pipe_row_d
def ins : Sh := (.cons (.box 47 s48) (.cons (.bxo 2 78 s55) .nil))
def C (N : Nat) : Ctx := ⟨U, 39, fun _ => true, gam [(81, (codec_Reader_Text.S N).con), (80, (rows_Decode.S N).con), (23, (wire_pipe_must_b.S N).con)], gamY []⟩
theorem cok (N : Nat) : (C N).Ok Try.prog := ⟨U_ok, GamOk.cons (codec_Reader_Text.ok N) (GamOk.cons (rows_Decode.ok N) (GamOk.cons (wire_pipe_must_b.ok N) (GamOk.nil))), GamYOk.nil⟩
def code : Code := Try.f75.body.getD .skip
def outs : Sh := s73
end wire_pipe_row_d
def wire_pipe_row_d.run (N : Nat) (b : (List UInt8)) (e : Int) (wrong : Bool) (id_ : Int) (id1 : Int) (row : (List T4)) (deleted : Int) : Option T41 :=
  obind (codec_Reader_Text.run N b e (16777216 : Int)) fun ((b1, e1, _), l, _) =>
    obind (rows_Decode.run N l) fun (l1, n_, _) =>
      obind (wire_pipe_must_b.run N b1 e1 wrong (decide (n_ = (0 : Int)))) fun ((b2, e2, _), (_, _, wrong1, _), _) =>
        some ((b2, e2, ()), ((), (), wrong1, ()), (id_, id1, l1, deleted, ()), ())
namespace wire_pipe_row_d
def fn (N : Nat) : Sh.den ins → Option (Sh.den outs) := fun ((_, (a, b, _), c, _), (d, e, f, g, _), _) => wire_pipe_row_d.run N a b c d e f g
def S (N : Nat) : Fs := ⟨ins, outs, fn N⟩
def lam (N : Nat) : Pcs := pcs []
theorem pok (N : Nat) : (lam N).Ok Try.prog (C N) code := pcsOk_nil
theorem ok (N : Nat) : (S N).con.Ok Try.prog 75 := okF (F := S N) [] Try.func75 (by kernel_rfl) (by rfl) mix (cok N) (pok N) fun _ => by kernel_rfl
end wire_pipe_row_d
namespace wire_pipe_long_r
def ins : Sh := (.cons (.rbox 47 s48) (.cons (.bxo 3 78 s55) .nil))
def C (N : Nat) : Ctx := ⟨U, 24, fun _ => true, gam [(67, (codec_Reader_Long.S N).con)], gamY []⟩
theorem cok (N : Nat) : (C N).Ok Try.prog := ⟨U_ok, GamOk.cons (codec_Reader_Long.ok N) (GamOk.nil), GamYOk.nil⟩
def code : Code := Try.f43.body.getD .skip
def outs : Sh := s72
end wire_pipe_long_r
def wire_pipe_long_r.run (N : Nat) (b : (List UInt8)) (e : Int) (wrong : Bool) (id_ : Int) (id1 : Int) (row : (List T4)) (deleted : Int) : Option T40 :=
  obind (codec_Reader_Long.run N b e) fun ((b1, e1, _), n_, _) =>
    some ((b1, e1, ()), (id_, id1, row, n_, ()), ())
namespace wire_pipe_long_r
def fn (N : Nat) : Sh.den ins → Option (Sh.den outs) := fun ((_, (a, b, _), c, _), (d, e, f, g, _), _) => wire_pipe_long_r.run N a b c d e f g
def S (N : Nat) : Fs := ⟨ins, outs, fn N⟩
def lam (N : Nat) : Pcs := pcs []
theorem pok (N : Nat) : (lam N).Ok Try.prog (C N) code := pcsOk_nil
theorem ok (N : Nat) : (S N).con.Ok Try.prog 43 := okF (F := S N) [] Try.func43 (by kernel_rfl) (by rfl) mix (cok N) (pok N) fun _ => by kernel_rfl
end wire_pipe_long_r
namespace wire_pipe_version_b
def ins : Sh := (.cons (.box 47 s48) (.cons (.box 78 s55) .nil))
def C (N : Nat) : Ctx := ⟨U, 19, fun _ => true, gam [(76, (wire_pipe_name_d.S N).con), (75, (wire_pipe_row_d.S N).con), (43, (wire_pipe_long_r.S N).con)], gamY []⟩
theorem cok (N : Nat) : (C N).Ok Try.prog := ⟨U_ok, GamOk.cons (wire_pipe_name_d.ok N) (GamOk.cons (wire_pipe_row_d.ok N) (GamOk.cons (wire_pipe_long_r.ok N) (GamOk.nil))), GamYOk.nil⟩
def code : Code := Try.f70.body.getD .skip
def outs : Sh := s73
end wire_pipe_version_b
def wire_pipe_version_b.run (N : Nat) (b : (List UInt8)) (e : Int) (wrong : Bool) (id_ : Int) (id1 : Int) (row : (List T4)) (deleted : Int) : Option T41 :=
  obind (wire_pipe_name_d.run N b e wrong id_ id1 row deleted) fun ((b1, e1, _), (id2, id3, row1, deleted1, _), _) =>
    obind (wire_pipe_row_d.run N b1 e1 wrong id2 id3 row1 deleted1) fun ((b2, e2, _), (_, _, wrong1, _), (id4, id5, row2, deleted2, _), _) =>
      obind (wire_pipe_long_r.run N b2 e2 wrong1 id4 id5 row2 deleted2) fun ((b3, e3, _), (id6, id7, row3, deleted3, _), _) =>
        some ((b3, e3, ()), ((), (), wrong1, ()), (id6, id7, row3, deleted3, ()), ())
namespace wire_pipe_version_b
def fn (N : Nat) : Sh.den ins → Option (Sh.den outs) := fun ((_, (a, b, _), c, _), (d, e, f, g, _), _) => wire_pipe_version_b.run N a b c d e f g
def S (N : Nat) : Fs := ⟨ins, outs, fn N⟩
def lam (N : Nat) : Pcs := pcs []
theorem pok (N : Nat) : (lam N).Ok Try.prog (C N) code := pcsOk_nil
theorem ok (N : Nat) : (S N).con.Ok Try.prog 70 := okF (F := S N) [] Try.func70 (by kernel_rfl) (by rfl) mix (cok N) (pok N) fun _ => by kernel_rfl
end wire_pipe_version_b
namespace wire_list_api_Version_b
def ins : Sh := (.cons (.box 47 s48) (.cons (.bxo 18 31 s51) s41))
def C (N : Nat) : Ctx := ⟨U, 62, fun _ => true, gam [(72, (codec_Reader_Var.S N).con), (73, (wire_pipe_failed.S N).con), (70, (wire_pipe_version_b.S N).con)], gamY []⟩
theorem cok (N : Nat) : (C N).Ok Try.prog := ⟨U_ok, GamOk.cons (codec_Reader_Var.ok N) (GamOk.cons (wire_pipe_failed.ok N) (GamOk.cons (wire_pipe_version_b.ok N) (GamOk.nil))), GamYOk.nil⟩
def code : Code := Try.f69.body.getD .skip
def outs : Sh := s52
end wire_list_api_Version_b
namespace wire_list_api_Version_b_0
def ins : Sh := (.cons (.box 47 s48) (.cons (.bxo 18 31 s51) (.cons (.fnb 1 70 (.cons (.ref 0) .nil)) (.cons (.val (.int .u64)) .nil))))
def ts : List Tmp := [0, 1, 2, 8]
def asg : List Tmp := [8, 9, 43, 44, 45, 46, 47, 48, 49, 50, 51, 52, 53, 54, 55, 56, 57, 58, 59, 60, 61]
def C (N : Nat) : Ctx := { wire_list_api_Version_b.C N with may := fun t => asg.any (Nat.beq t) }
def code : Code := loopBody (sub wire_list_api_Version_b.code [true, true, true, false])
theorem cok (N : Nat) : (C N).Ok Try.prog := okC (wire_list_api_Version_b.cok N) _
def alts : List Alt := [⟨(.exit 2), [], s52⟩]
end wire_list_api_Version_b_0
def wire_list_api_Version_b_0.go (N : Nat) : Nat → (List UInt8) → Int → Bool → Int → Int → Int → Int → Int → Int → Int → Int → Int → Int → Int → Bool → Bool → Bool → Int → Int → (List T7) → (List T8) → (List T6) → Int → Option (T29)
  | 0, _, _, _, _, _, _, _, _, _, _, _, _, _, _, _, _, _, _, _, _, _, _, _ => none
  | fuel + 1, b, e, wrong, kind, from_, to_, txn, base, epoch, since, mark, ask, attempt, node, yes, no, wiped, at_, at1, part, part1, versions, n_ =>
    bif decide (n_ > (0 : Int)) then
      obind (wire_pipe_failed.run N b e wrong) fun (b1, _) =>
        bif !b1 then
          obind (wire_pipe_version_b.run N b e wrong (0 : Int) (0 : Int) ([] : List T4) (0 : Int)) fun ((b2, e1, _), (_, _, wrong1, _), (id_, id1, row, deleted, _), _) =>
            bif room (versions.length + 1) 48 then
              wire_list_api_Version_b_0.go N fuel b2 e1 wrong1 kind from_ to_ txn base epoch since mark ask attempt node yes no wiped at_ at1 part part1 (versions ++ ([((id_, id1), row, deleted)] : List T6)) (IntKind.u64.wrap (n_ - (1 : Int)))
            else none
        else some ((b, e, ()), ((), (), wrong, ()), (kind, from_, to_, txn, base, epoch, since, mark, ask, attempt, node, yes, no, wiped, at_, at1, part, part1, versions, ()), ())
    else some ((b, e, ()), ((), (), wrong, ()), (kind, from_, to_, txn, base, epoch, since, mark, ask, attempt, node, yes, no, wiped, at_, at1, part, part1, versions, ()), ())
namespace wire_list_api_Version_b_0
def g (N n : Nat) : Sh.den ins → Option (altsDen alts) := fun ((_, (a, b, _), c, _), (d, e, f, g, h, i, j, k, l, m, o, p, q, r, s, t, u, v, w, _), (_, _), x, _) => wire_list_api_Version_b_0.go N n a b c d e f g h i j k l m o p q r s t u v w x
def P (N : Nat) : Ps := ⟨ts, ins, asg, alts, g N N⟩
def lam (N : Nat) : Pcs := pcs []
theorem pok (N : Nat) : (lam N).Ok Try.prog (C N) code := pcsOk_nil
theorem ok (N : Nat) : ((P N).pc (wire_list_api_Version_b.C N)).Ok Try.prog (wire_list_api_Version_b.C N) (.loop code) := okL (F := P N) (g N) (wire_list_api_Version_b.cok N) mix (pok N) (fun _ => rfl) rfl fun _ _ => by kernel_rfl
end wire_list_api_Version_b_0
def wire_list_api_Version_b.run (N : Nat) (b : (List UInt8)) (e : Int) (wrong : Bool) (kind : Int) (from_ : Int) (to_ : Int) (txn : Int) (base : Int) (epoch : Int) (since : Int) (mark : Int) (ask : Int) (attempt : Int) (node : Int) (yes : Bool) (no : Bool) (wiped : Bool) (at_ : Int) (at1 : Int) (part : (List T7)) (part1 : (List T8)) (versions : (List T6)) : Option T29 :=
  obind (codec_Reader_Var.run N b e (16777216 : Int)) fun ((b1, e1, _), n_, _) =>
    obind (wire_list_api_Version_b_0.go N N b1 e1 wrong kind from_ to_ txn base epoch since mark ask attempt node yes no wiped at_ at1 part part1 ([] : List T6) n_) fun ((b2, e2, _), (_, _, wrong1, _), (kind1, from1, to1, txn1, base1, epoch1, since1, mark1, ask1, attempt1, node1, yes1, no1, wiped1, at2, at3, part2, part3, versions1, _), _) =>
      some ((b2, e2, ()), ((), (), wrong1, ()), (kind1, from1, to1, txn1, base1, epoch1, since1, mark1, ask1, attempt1, node1, yes1, no1, wiped1, at2, at3, part2, part3, versions1, ()), ())
namespace wire_list_api_Version_b
def fn (N : Nat) : Sh.den ins → Option (Sh.den outs) := fun ((_, (a, b, _), c, _), (d, e, f, g, h, i, j, k, l, m, o, p, q, r, s, t, u, v, w, _), (_, _), _) => wire_list_api_Version_b.run N a b c d e f g h i j k l m o p q r s t u v w
def S (N : Nat) : Fs := ⟨ins, outs, fn N⟩
def lam (N : Nat) : Pcs := pcs [([true, true, true, false], (wire_list_api_Version_b_0.P N).pc (C N))]
theorem pok (N : Nat) : (lam N).Ok Try.prog (C N) code := pcsOk_cons (c1 := .loop wire_list_api_Version_b_0.code) (by kernel_rfl) (wire_list_api_Version_b_0.ok N) (pcsOk_nil)
theorem ok (N : Nat) : (S N).con.Ok Try.prog 69 := okF (F := S N) [] Try.func69 (by kernel_rfl) (by rfl) mix (cok N) (pok N) fun _ => by kernel_rfl
end wire_list_api_Version_b
namespace wire_pipe_versions_b
def ins : Sh := (.cons (.box 47 s48) (.cons (.bxo 18 31 s51) .nil))
def C (N : Nat) : Ctx := ⟨U, 9, fun _ => true, gam [(69, (wire_list_api_Version_b.S N).con)], gamY []⟩
theorem cok (N : Nat) : (C N).Ok Try.prog := ⟨U_ok, GamOk.cons (wire_list_api_Version_b.ok N) (GamOk.nil), GamYOk.nil⟩
def code : Code := Try.f50.body.getD .skip
def outs : Sh := s52
end wire_pipe_versions_b
def wire_pipe_versions_b.run (N : Nat) (b : (List UInt8)) (e : Int) (wrong : Bool) (kind : Int) (from_ : Int) (to_ : Int) (txn : Int) (base : Int) (epoch : Int) (since : Int) (mark : Int) (ask : Int) (attempt : Int) (node : Int) (yes : Bool) (no : Bool) (wiped : Bool) (at_ : Int) (at1 : Int) (part : (List T7)) (part1 : (List T8)) (versions : (List T6)) : Option T29 :=
  obind (wire_list_api_Version_b.run N b e wrong kind from_ to_ txn base epoch since mark ask attempt node yes no wiped at_ at1 part part1 versions) fun ((b1, e1, _), (_, _, wrong1, _), (kind1, from1, to1, txn1, base1, epoch1, since1, mark1, ask1, attempt1, node1, yes1, no1, wiped1, at2, at3, part2, part3, versions1, _), _) =>
    some ((b1, e1, ()), ((), (), wrong1, ()), (kind1, from1, to1, txn1, base1, epoch1, since1, mark1, ask1, attempt1, node1, yes1, no1, wiped1, at2, at3, part2, part3, versions1, ()), ())
namespace wire_pipe_versions_b
def fn (N : Nat) : Sh.den ins → Option (Sh.den outs) := fun ((_, (a, b, _), c, _), (d, e, f, g, h, i, j, k, l, m, o, p, q, r, s, t, u, v, w, _), _) => wire_pipe_versions_b.run N a b c d e f g h i j k l m o p q r s t u v w
def S (N : Nat) : Fs := ⟨ins, outs, fn N⟩
def lam (N : Nat) : Pcs := pcs []
theorem pok (N : Nat) : (lam N).Ok Try.prog (C N) code := pcsOk_nil
theorem ok (N : Nat) : (S N).con.Ok Try.prog 50 := okF (F := S N) [] Try.func50 (by kernel_rfl) (by rfl) mix (cok N) (pok N) fun _ => by kernel_rfl
end wire_pipe_versions_b
namespace wire_pipe_fields_f6_b
def ins : Sh := s66
def C (N : Nat) : Ctx := ⟨U, 22, fun _ => true, gam [(43, (wire_pipe_long_p.S N).con), (48, (wire_pipe_segment_f.S N).con), (44, (wire_pipe_truth_e.S N).con), (50, (wire_pipe_versions_b.S N).con)], gamY []⟩
theorem cok (N : Nat) : (C N).Ok Try.prog := ⟨U_ok, GamOk.cons (wire_pipe_long_p.ok N) (GamOk.cons (wire_pipe_segment_f.ok N) (GamOk.cons (wire_pipe_truth_e.ok N) (GamOk.cons (wire_pipe_versions_b.ok N) (GamOk.nil)))), GamYOk.nil⟩
def code : Code := Try.f49.body.getD .skip
def outs : Sh := s67
end wire_pipe_fields_f6_b
def wire_pipe_fields_f6_b.run (N : Nat) (b : (List UInt8)) (e : Int) (wrong : Bool) (kind : Int) (from_ : Int) (to_ : Int) (txn : Int) (base : Int) (epoch : Int) (since : Int) (mark : Int) (ask : Int) (attempt : Int) (node : Int) (yes : Bool) (no : Bool) (wiped : Bool) (at_ : Int) (at1 : Int) (part : (List T7)) (part1 : (List T8)) (versions : (List T6)) : Option T29 :=
  obind (wire_pipe_long_p.run N b e wrong kind from_ to_ txn base epoch since mark ask attempt node yes no wiped at_ at1 part part1 versions) fun ((b1, e1, _), (kind1, from1, to1, txn1, base1, epoch1, since1, mark1, ask1, attempt1, node1, yes1, no1, wiped1, at2, at3, part2, part3, versions1, _), _) =>
    obind (wire_pipe_segment_f.run N b1 e1 wrong kind1 from1 to1 txn1 base1 epoch1 since1 mark1 ask1 attempt1 node1 yes1 no1 wiped1 at2 at3 part2 part3 versions1) fun ((b2, e2, _), (kind2, from2, to2, txn2, base2, epoch2, since2, mark2, ask2, attempt2, node2, yes2, no2, wiped2, at4, at5, part4, part5, versions2, _), _) =>
      obind (wire_pipe_truth_e.run N b2 e2 wrong kind2 from2 to2 txn2 base2 epoch2 since2 mark2 ask2 attempt2 node2 yes2 no2 wiped2 at4 at5 part4 part5 versions2) fun ((b3, e3, _), (_, _, wrong1, _), (kind3, from3, to3, txn3, base3, epoch3, since3, mark3, ask3, attempt3, node3, yes3, no3, wiped3, at6, at7, part6, part7, versions3, _), _) =>
        obind (wire_pipe_versions_b.run N b3 e3 wrong1 kind3 from3 to3 txn3 base3 epoch3 since3 mark3 ask3 attempt3 node3 yes3 no3 wiped3 at6 at7 part6 part7 versions3) fun ((b4, e4, _), (_, _, wrong2, _), (kind4, from4, to4, txn4, base4, epoch4, since4, mark4, ask4, attempt4, node4, yes4, no4, wiped4, at8, at9, part8, part9, versions4, _), _) =>
          some ((b4, e4, ()), ((), (), wrong2, ()), (kind4, from4, to4, txn4, base4, epoch4, since4, mark4, ask4, attempt4, node4, yes4, no4, wiped4, at8, at9, part8, part9, versions4, ()), ())
namespace wire_pipe_fields_f6_b
def fn (N : Nat) : Sh.den ins → Option (Sh.den outs) := fun (((_, (a, b, _), c, _), _), ((d, e, f, g, h, i, j, k, l, m, o, p, q, r, s, t, u, v, w, _), _), _) => wire_pipe_fields_f6_b.run N a b c d e f g h i j k l m o p q r s t u v w
def S (N : Nat) : Fs := ⟨ins, outs, fn N⟩
def lam (N : Nat) : Pcs := pcs []
theorem pok (N : Nat) : (lam N).Ok Try.prog (C N) code := pcsOk_nil
theorem ok (N : Nat) : (S N).con.Ok Try.prog 49 := okF (F := S N) [] Try.func49 (by kernel_rfl) (by rfl) mix (cok N) (pok N) fun _ => by kernel_rfl
end wire_pipe_fields_f6_b
namespace wire_pipe_truth_f
def ins : Sh := (.cons (.box 47 s48) (.cons (.bxo 13 31 s51) .nil))
def C (N : Nat) : Ctx := ⟨U, 14, fun _ => true, gam [(21, (wire_pipe_byte_i.S N).con)], gamY []⟩
theorem cok (N : Nat) : (C N).Ok Try.prog := ⟨U_ok, GamOk.cons (wire_pipe_byte_i.ok N) (GamOk.nil), GamYOk.nil⟩
def code : Code := Try.f44.body.getD .skip
def outs : Sh := s52
end wire_pipe_truth_f
def wire_pipe_truth_f.run (N : Nat) (b : (List UInt8)) (e : Int) (wrong : Bool) (kind : Int) (from_ : Int) (to_ : Int) (txn : Int) (base : Int) (epoch : Int) (since : Int) (mark : Int) (ask : Int) (attempt : Int) (node : Int) (yes : Bool) (no : Bool) (wiped : Bool) (at_ : Int) (at1 : Int) (part : (List T7)) (part1 : (List T8)) (versions : (List T6)) : Option T29 :=
  bif wiped then
    obind (wire_pipe_byte_i.run N b e wrong (1 : Int) (1 : Int)) fun ((b1, e1, _), (_, _, wrong1, _), (v, _), _) =>
      some ((b1, e1, ()), ((), (), wrong1, ()), (kind, from_, to_, txn, base, epoch, since, mark, ask, attempt, node, yes, no, decide (v = (1 : Int)), at_, at1, part, part1, versions, ()), ())
  else
    obind (wire_pipe_byte_i.run N b e wrong (0 : Int) (1 : Int)) fun ((b2, e2, _), (_, _, wrong2, _), (v1, _), _) =>
      some ((b2, e2, ()), ((), (), wrong2, ()), (kind, from_, to_, txn, base, epoch, since, mark, ask, attempt, node, yes, no, decide (v1 = (1 : Int)), at_, at1, part, part1, versions, ()), ())
namespace wire_pipe_truth_f
def fn (N : Nat) : Sh.den ins → Option (Sh.den outs) := fun ((_, (a, b, _), c, _), (d, e, f, g, h, i, j, k, l, m, o, p, q, r, s, t, u, v, w, _), _) => wire_pipe_truth_f.run N a b c d e f g h i j k l m o p q r s t u v w
def S (N : Nat) : Fs := ⟨ins, outs, fn N⟩
def lam (N : Nat) : Pcs := pcs []
theorem pok (N : Nat) : (lam N).Ok Try.prog (C N) code := pcsOk_nil
theorem ok (N : Nat) : (S N).con.Ok Try.prog 44 := okF (F := S N) [] Try.func44 (by kernel_rfl) (by rfl) mix (cok N) (pok N) fun _ => by kernel_rfl
end wire_pipe_truth_f
namespace wire_pipe_fields_f7_b
def ins : Sh := s66
def C (N : Nat) : Ctx := ⟨U, 16, fun _ => true, gam [(40, (wire_pipe_longs_k.S N).con), (44, (wire_pipe_truth_f.S N).con)], gamY []⟩
theorem cok (N : Nat) : (C N).Ok Try.prog := ⟨U_ok, GamOk.cons (wire_pipe_longs_k.ok N) (GamOk.cons (wire_pipe_truth_f.ok N) (GamOk.nil)), GamYOk.nil⟩
def code : Code := Try.f51.body.getD .skip
def outs : Sh := s67
end wire_pipe_fields_f7_b
def wire_pipe_fields_f7_b.run (N : Nat) (b : (List UInt8)) (e : Int) (wrong : Bool) (kind : Int) (from_ : Int) (to_ : Int) (txn : Int) (base : Int) (epoch : Int) (since : Int) (mark : Int) (ask : Int) (attempt : Int) (node : Int) (yes : Bool) (no : Bool) (wiped : Bool) (at_ : Int) (at1 : Int) (part : (List T7)) (part1 : (List T8)) (versions : (List T6)) : Option T29 :=
  obind (wire_pipe_longs_k.run N b e wrong kind from_ to_ txn base epoch since mark ask attempt node yes no wiped at_ at1 part part1 versions) fun ((b1, e1, _), (kind1, from1, to1, txn1, base1, epoch1, since1, mark1, ask1, attempt1, node1, yes1, no1, wiped1, at2, at3, part2, part3, versions1, _), _) =>
    obind (wire_pipe_truth_f.run N b1 e1 wrong kind1 from1 to1 txn1 base1 epoch1 since1 mark1 ask1 attempt1 node1 yes1 no1 wiped1 at2 at3 part2 part3 versions1) fun ((b2, e2, _), (_, _, wrong1, _), (kind2, from2, to2, txn2, base2, epoch2, since2, mark2, ask2, attempt2, node2, yes2, no2, wiped2, at4, at5, part4, part5, versions2, _), _) =>
      some ((b2, e2, ()), ((), (), wrong1, ()), (kind2, from2, to2, txn2, base2, epoch2, since2, mark2, ask2, attempt2, node2, yes2, no2, wiped2, at4, at5, part4, part5, versions2, ()), ())
namespace wire_pipe_fields_f7_b
def fn (N : Nat) : Sh.den ins → Option (Sh.den outs) := fun (((_, (a, b, _), c, _), _), ((d, e, f, g, h, i, j, k, l, m, o, p, q, r, s, t, u, v, w, _), _), _) => wire_pipe_fields_f7_b.run N a b c d e f g h i j k l m o p q r s t u v w
def S (N : Nat) : Fs := ⟨ins, outs, fn N⟩
def lam (N : Nat) : Pcs := pcs []
theorem pok (N : Nat) : (lam N).Ok Try.prog (C N) code := pcsOk_nil
theorem ok (N : Nat) : (S N).con.Ok Try.prog 51 := okF (F := S N) [] Try.func51 (by kernel_rfl) (by rfl) mix (cok N) (pok N) fun _ => by kernel_rfl
end wire_pipe_fields_f7_b
namespace wire_pipe_byte_j
def ins : Sh := (.cons (.box 47 s48) (.cons (.bxo 10 31 s51) (.cons (.val (.int .i64)) .nil)))
def C (N : Nat) : Ctx := ⟨U, 41, fun _ => true, gam [(38, (codec_Reader_Byte.S N).con), (23, (wire_pipe_must_b.S N).con)], gamY []⟩
theorem cok (N : Nat) : (C N).Ok Try.prog := ⟨U_ok, GamOk.cons (codec_Reader_Byte.ok N) (GamOk.cons (wire_pipe_must_b.ok N) (GamOk.nil)), GamYOk.nil⟩
def code : Code := Try.f21.body.getD .skip
def outs : Sh := s52
end wire_pipe_byte_j
def wire_pipe_byte_j.run (N : Nat) (b : (List UInt8)) (e : Int) (wrong : Bool) (kind : Int) (from_ : Int) (to_ : Int) (txn : Int) (base : Int) (epoch : Int) (since : Int) (mark : Int) (ask : Int) (attempt : Int) (node : Int) (yes : Bool) (no : Bool) (wiped : Bool) (at_ : Int) (at1 : Int) (part : (List T7)) (part1 : (List T8)) (versions : (List T6)) (most : Int) : Option T29 :=
  obind (codec_Reader_Byte.run N b e) fun ((b1, e1, _), n_, _) =>
    bif decide ((IntKind.i64.wrap (n_.toNat : Int)) ≥ (0 : Int)) then
      obind (wire_pipe_must_b.run N b1 e1 wrong (decide ((IntKind.i64.wrap (n_.toNat : Int)) ≤ most))) fun ((b2, e2, _), (_, _, wrong1, _), _) =>
        some ((b2, e2, ()), ((), (), wrong1, ()), (kind, from_, to_, txn, base, epoch, since, mark, ask, attempt, IntKind.i64.wrap (n_.toNat : Int), yes, no, wiped, at_, at1, part, part1, versions, ()), ())
    else
      obind (wire_pipe_must_b.run N b1 e1 wrong false) fun ((b3, e3, _), (_, _, wrong2, _), _) =>
        some ((b3, e3, ()), ((), (), wrong2, ()), (kind, from_, to_, txn, base, epoch, since, mark, ask, attempt, IntKind.i64.wrap (n_.toNat : Int), yes, no, wiped, at_, at1, part, part1, versions, ()), ())
namespace wire_pipe_byte_j
def fn (N : Nat) : Sh.den ins → Option (Sh.den outs) := fun ((_, (a, b, _), c, _), (d, e, f, g, h, i, j, k, l, m, o, p, q, r, s, t, u, v, w, _), x, _) => wire_pipe_byte_j.run N a b c d e f g h i j k l m o p q r s t u v w x
def S (N : Nat) : Fs := ⟨ins, outs, fn N⟩
def lam (N : Nat) : Pcs := pcs []
theorem pok (N : Nat) : (lam N).Ok Try.prog (C N) code := pcsOk_nil
theorem ok (N : Nat) : (S N).con.Ok Try.prog 21 := okF (F := S N) [] Try.func21 (by kernel_rfl) (by rfl) mix (cok N) (pok N) fun _ => by kernel_rfl
end wire_pipe_byte_j
namespace wire_pipe_node_f
def ins : Sh := (.cons (.box 47 s48) (.cons (.bxo 10 31 s51) .nil))
def C (N : Nat) : Ctx := ⟨U, 7, fun _ => true, gam [(21, (wire_pipe_byte_j.S N).con)], gamY []⟩
theorem cok (N : Nat) : (C N).Ok Try.prog := ⟨U_ok, GamOk.cons (wire_pipe_byte_j.ok N) (GamOk.nil), GamYOk.nil⟩
def code : Code := Try.f22.body.getD .skip
def outs : Sh := s52
end wire_pipe_node_f
def wire_pipe_node_f.run (N : Nat) (b : (List UInt8)) (e : Int) (wrong : Bool) (kind : Int) (from_ : Int) (to_ : Int) (txn : Int) (base : Int) (epoch : Int) (since : Int) (mark : Int) (ask : Int) (attempt : Int) (node : Int) (yes : Bool) (no : Bool) (wiped : Bool) (at_ : Int) (at1 : Int) (part : (List T7)) (part1 : (List T8)) (versions : (List T6)) : Option T29 :=
  obind (wire_pipe_byte_j.run N b e wrong kind from_ to_ txn base epoch since mark ask attempt node yes no wiped at_ at1 part part1 versions (8 : Int)) fun ((b1, e1, _), (_, _, wrong1, _), (kind1, from1, to1, txn1, base1, epoch1, since1, mark1, ask1, attempt1, node1, yes1, no1, wiped1, at2, at3, part2, part3, versions1, _), _) =>
    some ((b1, e1, ()), ((), (), wrong1, ()), (kind1, from1, to1, txn1, base1, epoch1, since1, mark1, ask1, attempt1, node1, yes1, no1, wiped1, at2, at3, part2, part3, versions1, ()), ())
namespace wire_pipe_node_f
def fn (N : Nat) : Sh.den ins → Option (Sh.den outs) := fun ((_, (a, b, _), c, _), (d, e, f, g, h, i, j, k, l, m, o, p, q, r, s, t, u, v, w, _), _) => wire_pipe_node_f.run N a b c d e f g h i j k l m o p q r s t u v w
def S (N : Nat) : Fs := ⟨ins, outs, fn N⟩
def lam (N : Nat) : Pcs := pcs []
theorem pok (N : Nat) : (lam N).Ok Try.prog (C N) code := pcsOk_nil
theorem ok (N : Nat) : (S N).con.Ok Try.prog 22 := okF (F := S N) [] Try.func22 (by kernel_rfl) (by rfl) mix (cok N) (pok N) fun _ => by kernel_rfl
end wire_pipe_node_f
namespace wire_pipe_long_s
def ins : Sh := (.cons (.rbox 47 s48) (.cons (.bxo 9 31 s51) .nil))
def C (N : Nat) : Ctx := ⟨U, 24, fun _ => true, gam [(67, (codec_Reader_Long.S N).con)], gamY []⟩
theorem cok (N : Nat) : (C N).Ok Try.prog := ⟨U_ok, GamOk.cons (codec_Reader_Long.ok N) (GamOk.nil), GamYOk.nil⟩
def code : Code := Try.f43.body.getD .skip
def outs : Sh := s53
end wire_pipe_long_s
def wire_pipe_long_s.run (N : Nat) (b : (List UInt8)) (e : Int) (wrong : Bool) (kind : Int) (from_ : Int) (to_ : Int) (txn : Int) (base : Int) (epoch : Int) (since : Int) (mark : Int) (ask : Int) (attempt : Int) (node : Int) (yes : Bool) (no : Bool) (wiped : Bool) (at_ : Int) (at1 : Int) (part : (List T7)) (part1 : (List T8)) (versions : (List T6)) : Option T30 :=
  obind (codec_Reader_Long.run N b e) fun ((b1, e1, _), n_, _) =>
    some ((b1, e1, ()), (kind, from_, to_, txn, base, epoch, since, mark, ask, n_, node, yes, no, wiped, at_, at1, part, part1, versions, ()), ())
namespace wire_pipe_long_s
def fn (N : Nat) : Sh.den ins → Option (Sh.den outs) := fun ((_, (a, b, _), c, _), (d, e, f, g, h, i, j, k, l, m, o, p, q, r, s, t, u, v, w, _), _) => wire_pipe_long_s.run N a b c d e f g h i j k l m o p q r s t u v w
def S (N : Nat) : Fs := ⟨ins, outs, fn N⟩
def lam (N : Nat) : Pcs := pcs []
theorem pok (N : Nat) : (lam N).Ok Try.prog (C N) code := pcsOk_nil
theorem ok (N : Nat) : (S N).con.Ok Try.prog 43 := okF (F := S N) [] Try.func43 (by kernel_rfl) (by rfl) mix (cok N) (pok N) fun _ => by kernel_rfl
end wire_pipe_long_s
namespace wire_pipe_long_t
def ins : Sh := (.cons (.rbox 47 s48) (.cons (.bxo 6 31 s51) .nil))
def C (N : Nat) : Ctx := ⟨U, 24, fun _ => true, gam [(67, (codec_Reader_Long.S N).con)], gamY []⟩
theorem cok (N : Nat) : (C N).Ok Try.prog := ⟨U_ok, GamOk.cons (codec_Reader_Long.ok N) (GamOk.nil), GamYOk.nil⟩
def code : Code := Try.f43.body.getD .skip
def outs : Sh := s53
end wire_pipe_long_t
def wire_pipe_long_t.run (N : Nat) (b : (List UInt8)) (e : Int) (wrong : Bool) (kind : Int) (from_ : Int) (to_ : Int) (txn : Int) (base : Int) (epoch : Int) (since : Int) (mark : Int) (ask : Int) (attempt : Int) (node : Int) (yes : Bool) (no : Bool) (wiped : Bool) (at_ : Int) (at1 : Int) (part : (List T7)) (part1 : (List T8)) (versions : (List T6)) : Option T30 :=
  obind (codec_Reader_Long.run N b e) fun ((b1, e1, _), n_, _) =>
    some ((b1, e1, ()), (kind, from_, to_, txn, base, epoch, n_, mark, ask, attempt, node, yes, no, wiped, at_, at1, part, part1, versions, ()), ())
namespace wire_pipe_long_t
def fn (N : Nat) : Sh.den ins → Option (Sh.den outs) := fun ((_, (a, b, _), c, _), (d, e, f, g, h, i, j, k, l, m, o, p, q, r, s, t, u, v, w, _), _) => wire_pipe_long_t.run N a b c d e f g h i j k l m o p q r s t u v w
def S (N : Nat) : Fs := ⟨ins, outs, fn N⟩
def lam (N : Nat) : Pcs := pcs []
theorem pok (N : Nat) : (lam N).Ok Try.prog (C N) code := pcsOk_nil
theorem ok (N : Nat) : (S N).con.Ok Try.prog 43 := okF (F := S N) [] Try.func43 (by kernel_rfl) (by rfl) mix (cok N) (pok N) fun _ => by kernel_rfl
end wire_pipe_long_t
namespace wire_pipe_longs_l
def ins : Sh := (.cons (.rbox 47 s48) (.cons (.els 1 2 (.cons (.bxo 6 31 s51) (.cons (.refo 2 5) .nil))) .nil))
def C (N : Nat) : Ctx := ⟨U, 16, fun _ => true, gam [(43, (((wire_pipe_long_n.S N).con).or (wire_pipe_long_t.S N).con))], gamY []⟩
theorem cok (N : Nat) : (C N).Ok Try.prog := ⟨U_ok, GamOk.cons (Con.or_ok (wire_pipe_long_n.ok N) (wire_pipe_long_t.ok N)) (GamOk.nil), GamYOk.nil⟩
def code : Code := Try.f40.body.getD .skip
def outs : Sh := s53
end wire_pipe_longs_l
def wire_pipe_longs_l.run (N : Nat) (b : (List UInt8)) (e : Int) (wrong : Bool) (kind : Int) (from_ : Int) (to_ : Int) (txn : Int) (base : Int) (epoch : Int) (since : Int) (mark : Int) (ask : Int) (attempt : Int) (node : Int) (yes : Bool) (no : Bool) (wiped : Bool) (at_ : Int) (at1 : Int) (part : (List T7)) (part1 : (List T8)) (versions : (List T6)) : Option T30 :=
  obind (wire_pipe_long_t.run N b e wrong kind from_ to_ txn base epoch since mark ask attempt node yes no wiped at_ at1 part part1 versions) fun ((b1, e1, _), (kind1, from1, to1, txn1, base1, epoch1, since1, mark1, ask1, attempt1, node1, yes1, no1, wiped1, at2, at3, part2, part3, versions1, _), _) =>
    obind (wire_pipe_long_n.run N b1 e1 wrong kind1 from1 to1 txn1 base1 epoch1 since1 mark1 ask1 attempt1 node1 yes1 no1 wiped1 at2 at3 part2 part3 versions1) fun ((b2, e2, _), (kind2, from2, to2, txn2, base2, epoch2, since2, mark2, ask2, attempt2, node2, yes2, no2, wiped2, at4, at5, part4, part5, versions2, _), _) =>
      some ((b2, e2, ()), (kind2, from2, to2, txn2, base2, epoch2, since2, mark2, ask2, attempt2, node2, yes2, no2, wiped2, at4, at5, part4, part5, versions2, ()), ())
namespace wire_pipe_longs_l
def fn (N : Nat) : Sh.den ins → Option (Sh.den outs) := fun ((_, (a, b, _), c, _), ((d, e, f, g, h, i, j, k, l, m, o, p, q, r, s, t, u, v, w, _), _, _), _) => wire_pipe_longs_l.run N a b c d e f g h i j k l m o p q r s t u v w
def S (N : Nat) : Fs := ⟨ins, outs, fn N⟩
def lam (N : Nat) : Pcs := pcs [([true, false], (Pc.unroll (C N) (loopBody (sub code [true, false])) (pcs []) 3))]
theorem pok (N : Nat) : (lam N).Ok Try.prog (C N) code := pcsOk_cons (c1 := .loop (loopBody (sub code [true, false]))) (by kernel_rfl) (unroll_ok (cok N) mix pcsOk_nil 3) (pcsOk_nil)
theorem ok (N : Nat) : (S N).con.Ok Try.prog 40 := okF (F := S N) [] Try.func40 (by kernel_rfl) (by rfl) mix (cok N) (pok N) fun _ => by kernel_rfl
end wire_pipe_longs_l
namespace wire_pipe_fields_f8_b
def ins : Sh := s66
def C (N : Nat) : Ctx := ⟨U, 26, fun _ => true, gam [(22, (wire_pipe_node_f.S N).con), (43, (wire_pipe_long_s.S N).con), (48, (wire_pipe_segment_f.S N).con), (40, (wire_pipe_longs_l.S N).con)], gamY []⟩
theorem cok (N : Nat) : (C N).Ok Try.prog := ⟨U_ok, GamOk.cons (wire_pipe_node_f.ok N) (GamOk.cons (wire_pipe_long_s.ok N) (GamOk.cons (wire_pipe_segment_f.ok N) (GamOk.cons (wire_pipe_longs_l.ok N) (GamOk.nil)))), GamYOk.nil⟩
def code : Code := Try.f52.body.getD .skip
def outs : Sh := s67
end wire_pipe_fields_f8_b
def wire_pipe_fields_f8_b.run (N : Nat) (b : (List UInt8)) (e : Int) (wrong : Bool) (kind : Int) (from_ : Int) (to_ : Int) (txn : Int) (base : Int) (epoch : Int) (since : Int) (mark : Int) (ask : Int) (attempt : Int) (node : Int) (yes : Bool) (no : Bool) (wiped : Bool) (at_ : Int) (at1 : Int) (part : (List T7)) (part1 : (List T8)) (versions : (List T6)) : Option T29 :=
  obind (wire_pipe_node_f.run N b e wrong kind from_ to_ txn base epoch since mark ask attempt node yes no wiped at_ at1 part part1 versions) fun ((b1, e1, _), (_, _, wrong1, _), (kind1, from1, to1, txn1, base1, epoch1, since1, mark1, ask1, attempt1, node1, yes1, no1, wiped1, at2, at3, part2, part3, versions1, _), _) =>
    obind (wire_pipe_long_s.run N b1 e1 wrong1 kind1 from1 to1 txn1 base1 epoch1 since1 mark1 ask1 attempt1 node1 yes1 no1 wiped1 at2 at3 part2 part3 versions1) fun ((b2, e2, _), (kind2, from2, to2, txn2, base2, epoch2, since2, mark2, ask2, attempt2, node2, yes2, no2, wiped2, at4, at5, part4, part5, versions2, _), _) =>
      obind (wire_pipe_segment_f.run N b2 e2 wrong1 kind2 from2 to2 txn2 base2 epoch2 since2 mark2 ask2 attempt2 node2 yes2 no2 wiped2 at4 at5 part4 part5 versions2) fun ((b3, e3, _), (kind3, from3, to3, txn3, base3, epoch3, since3, mark3, ask3, attempt3, node3, yes3, no3, wiped3, at6, at7, part6, part7, versions3, _), _) =>
        obind (wire_pipe_longs_l.run N b3 e3 wrong1 kind3 from3 to3 txn3 base3 epoch3 since3 mark3 ask3 attempt3 node3 yes3 no3 wiped3 at6 at7 part6 part7 versions3) fun ((b4, e4, _), (kind4, from4, to4, txn4, base4, epoch4, since4, mark4, ask4, attempt4, node4, yes4, no4, wiped4, at8, at9, part8, part9, versions4, _), _) =>
          some ((b4, e4, ()), ((), (), wrong1, ()), (kind4, from4, to4, txn4, base4, epoch4, since4, mark4, ask4, attempt4, node4, yes4, no4, wiped4, at8, at9, part8, part9, versions4, ()), ())
namespace wire_pipe_fields_f8_b
def fn (N : Nat) : Sh.den ins → Option (Sh.den outs) := fun (((_, (a, b, _), c, _), _), ((d, e, f, g, h, i, j, k, l, m, o, p, q, r, s, t, u, v, w, _), _), _) => wire_pipe_fields_f8_b.run N a b c d e f g h i j k l m o p q r s t u v w
def S (N : Nat) : Fs := ⟨ins, outs, fn N⟩
def lam (N : Nat) : Pcs := pcs []
theorem pok (N : Nat) : (lam N).Ok Try.prog (C N) code := pcsOk_nil
theorem ok (N : Nat) : (S N).con.Ok Try.prog 52 := okF (F := S N) [] Try.func52 (by kernel_rfl) (by rfl) mix (cok N) (pok N) fun _ => by kernel_rfl
end wire_pipe_fields_f8_b
namespace wire_pipe_longs_m
def ins : Sh := (.cons (.rbox 47 s48) (.cons (.els 1 3 (.cons (.bxo 6 31 s51) (.cons (.refo 2 5) (.cons (.refo 2 7) .nil)))) .nil))
def C (N : Nat) : Ctx := ⟨U, 16, fun _ => true, gam [(43, (((((wire_pipe_long_n.S N).con).or (wire_pipe_long_o.S N).con)).or (wire_pipe_long_t.S N).con))], gamY []⟩
theorem cok (N : Nat) : (C N).Ok Try.prog := ⟨U_ok, GamOk.cons (Con.or_ok (Con.or_ok (wire_pipe_long_n.ok N) (wire_pipe_long_o.ok N)) (wire_pipe_long_t.ok N)) (GamOk.nil), GamYOk.nil⟩
def code : Code := Try.f40.body.getD .skip
def outs : Sh := s53
end wire_pipe_longs_m
def wire_pipe_longs_m.run (N : Nat) (b : (List UInt8)) (e : Int) (wrong : Bool) (kind : Int) (from_ : Int) (to_ : Int) (txn : Int) (base : Int) (epoch : Int) (since : Int) (mark : Int) (ask : Int) (attempt : Int) (node : Int) (yes : Bool) (no : Bool) (wiped : Bool) (at_ : Int) (at1 : Int) (part : (List T7)) (part1 : (List T8)) (versions : (List T6)) : Option T30 :=
  obind (wire_pipe_long_t.run N b e wrong kind from_ to_ txn base epoch since mark ask attempt node yes no wiped at_ at1 part part1 versions) fun ((b1, e1, _), (kind1, from1, to1, txn1, base1, epoch1, since1, mark1, ask1, attempt1, node1, yes1, no1, wiped1, at2, at3, part2, part3, versions1, _), _) =>
    obind (wire_pipe_long_n.run N b1 e1 wrong kind1 from1 to1 txn1 base1 epoch1 since1 mark1 ask1 attempt1 node1 yes1 no1 wiped1 at2 at3 part2 part3 versions1) fun ((b2, e2, _), (kind2, from2, to2, txn2, base2, epoch2, since2, mark2, ask2, attempt2, node2, yes2, no2, wiped2, at4, at5, part4, part5, versions2, _), _) =>
      obind (wire_pipe_long_o.run N b2 e2 wrong kind2 from2 to2 txn2 base2 epoch2 since2 mark2 ask2 attempt2 node2 yes2 no2 wiped2 at4 at5 part4 part5 versions2) fun ((b3, e3, _), (kind3, from3, to3, txn3, base3, epoch3, since3, mark3, ask3, attempt3, node3, yes3, no3, wiped3, at6, at7, part6, part7, versions3, _), _) =>
        some ((b3, e3, ()), (kind3, from3, to3, txn3, base3, epoch3, since3, mark3, ask3, attempt3, node3, yes3, no3, wiped3, at6, at7, part6, part7, versions3, ()), ())
namespace wire_pipe_longs_m
def fn (N : Nat) : Sh.den ins → Option (Sh.den outs) := fun ((_, (a, b, _), c, _), ((d, e, f, g, h, i, j, k, l, m, o, p, q, r, s, t, u, v, w, _), _, _, _), _) => wire_pipe_longs_m.run N a b c d e f g h i j k l m o p q r s t u v w
def S (N : Nat) : Fs := ⟨ins, outs, fn N⟩
def lam (N : Nat) : Pcs := pcs [([true, false], (Pc.unroll (C N) (loopBody (sub code [true, false])) (pcs []) 4))]
theorem pok (N : Nat) : (lam N).Ok Try.prog (C N) code := pcsOk_cons (c1 := .loop (loopBody (sub code [true, false]))) (by kernel_rfl) (unroll_ok (cok N) mix pcsOk_nil 4) (pcsOk_nil)
theorem ok (N : Nat) : (S N).con.Ok Try.prog 40 := okF (F := S N) [] Try.func40 (by kernel_rfl) (by rfl) mix (cok N) (pok N) fun _ => by kernel_rfl
end wire_pipe_longs_m
namespace wire_pipe_fields_f9_b
def ins : Sh := s66
def C (N : Nat) : Ctx := ⟨U, 29, fun _ => true, gam [(43, (wire_pipe_long_s.S N).con), (48, (wire_pipe_segment_f.S N).con), (40, (wire_pipe_longs_m.S N).con), (50, (wire_pipe_versions_b.S N).con)], gamY []⟩
theorem cok (N : Nat) : (C N).Ok Try.prog := ⟨U_ok, GamOk.cons (wire_pipe_long_s.ok N) (GamOk.cons (wire_pipe_segment_f.ok N) (GamOk.cons (wire_pipe_longs_m.ok N) (GamOk.cons (wire_pipe_versions_b.ok N) (GamOk.nil)))), GamYOk.nil⟩
def code : Code := Try.f53.body.getD .skip
def outs : Sh := s67
end wire_pipe_fields_f9_b
def wire_pipe_fields_f9_b.run (N : Nat) (b : (List UInt8)) (e : Int) (wrong : Bool) (kind : Int) (from_ : Int) (to_ : Int) (txn : Int) (base : Int) (epoch : Int) (since : Int) (mark : Int) (ask : Int) (attempt : Int) (node : Int) (yes : Bool) (no : Bool) (wiped : Bool) (at_ : Int) (at1 : Int) (part : (List T7)) (part1 : (List T8)) (versions : (List T6)) : Option T29 :=
  obind (wire_pipe_long_s.run N b e wrong kind from_ to_ txn base epoch since mark ask attempt node yes no wiped at_ at1 part part1 versions) fun ((b1, e1, _), (kind1, from1, to1, txn1, base1, epoch1, since1, mark1, ask1, attempt1, node1, yes1, no1, wiped1, at2, at3, part2, part3, versions1, _), _) =>
    obind (wire_pipe_segment_f.run N b1 e1 wrong kind1 from1 to1 txn1 base1 epoch1 since1 mark1 ask1 attempt1 node1 yes1 no1 wiped1 at2 at3 part2 part3 versions1) fun ((b2, e2, _), (kind2, from2, to2, txn2, base2, epoch2, since2, mark2, ask2, attempt2, node2, yes2, no2, wiped2, at4, at5, part4, part5, versions2, _), _) =>
      obind (wire_pipe_longs_m.run N b2 e2 wrong kind2 from2 to2 txn2 base2 epoch2 since2 mark2 ask2 attempt2 node2 yes2 no2 wiped2 at4 at5 part4 part5 versions2) fun ((b3, e3, _), (kind3, from3, to3, txn3, base3, epoch3, since3, mark3, ask3, attempt3, node3, yes3, no3, wiped3, at6, at7, part6, part7, versions3, _), _) =>
        obind (wire_pipe_versions_b.run N b3 e3 wrong kind3 from3 to3 txn3 base3 epoch3 since3 mark3 ask3 attempt3 node3 yes3 no3 wiped3 at6 at7 part6 part7 versions3) fun ((b4, e4, _), (_, _, wrong1, _), (kind4, from4, to4, txn4, base4, epoch4, since4, mark4, ask4, attempt4, node4, yes4, no4, wiped4, at8, at9, part8, part9, versions4, _), _) =>
          some ((b4, e4, ()), ((), (), wrong1, ()), (kind4, from4, to4, txn4, base4, epoch4, since4, mark4, ask4, attempt4, node4, yes4, no4, wiped4, at8, at9, part8, part9, versions4, ()), ())
namespace wire_pipe_fields_f9_b
def fn (N : Nat) : Sh.den ins → Option (Sh.den outs) := fun (((_, (a, b, _), c, _), _), ((d, e, f, g, h, i, j, k, l, m, o, p, q, r, s, t, u, v, w, _), _), _) => wire_pipe_fields_f9_b.run N a b c d e f g h i j k l m o p q r s t u v w
def S (N : Nat) : Fs := ⟨ins, outs, fn N⟩
def lam (N : Nat) : Pcs := pcs []
theorem pok (N : Nat) : (lam N).Ok Try.prog (C N) code := pcsOk_nil
theorem ok (N : Nat) : (S N).con.Ok Try.prog 53 := okF (F := S N) [] Try.func53 (by kernel_rfl) (by rfl) mix (cok N) (pok N) fun _ => by kernel_rfl
end wire_pipe_fields_f9_b
namespace wire_pipe_longs_n
def ins : Sh := (.cons (.rbox 47 s48) (.cons (.els 1 2 (.cons (.bxo 9 31 s51) (.cons (.refo 2 5) .nil))) .nil))
def C (N : Nat) : Ctx := ⟨U, 16, fun _ => true, gam [(43, (((wire_pipe_long_n.S N).con).or (wire_pipe_long_s.S N).con))], gamY []⟩
theorem cok (N : Nat) : (C N).Ok Try.prog := ⟨U_ok, GamOk.cons (Con.or_ok (wire_pipe_long_n.ok N) (wire_pipe_long_s.ok N)) (GamOk.nil), GamYOk.nil⟩
def code : Code := Try.f40.body.getD .skip
def outs : Sh := s53
end wire_pipe_longs_n
def wire_pipe_longs_n.run (N : Nat) (b : (List UInt8)) (e : Int) (wrong : Bool) (kind : Int) (from_ : Int) (to_ : Int) (txn : Int) (base : Int) (epoch : Int) (since : Int) (mark : Int) (ask : Int) (attempt : Int) (node : Int) (yes : Bool) (no : Bool) (wiped : Bool) (at_ : Int) (at1 : Int) (part : (List T7)) (part1 : (List T8)) (versions : (List T6)) : Option T30 :=
  obind (wire_pipe_long_s.run N b e wrong kind from_ to_ txn base epoch since mark ask attempt node yes no wiped at_ at1 part part1 versions) fun ((b1, e1, _), (kind1, from1, to1, txn1, base1, epoch1, since1, mark1, ask1, attempt1, node1, yes1, no1, wiped1, at2, at3, part2, part3, versions1, _), _) =>
    obind (wire_pipe_long_n.run N b1 e1 wrong kind1 from1 to1 txn1 base1 epoch1 since1 mark1 ask1 attempt1 node1 yes1 no1 wiped1 at2 at3 part2 part3 versions1) fun ((b2, e2, _), (kind2, from2, to2, txn2, base2, epoch2, since2, mark2, ask2, attempt2, node2, yes2, no2, wiped2, at4, at5, part4, part5, versions2, _), _) =>
      some ((b2, e2, ()), (kind2, from2, to2, txn2, base2, epoch2, since2, mark2, ask2, attempt2, node2, yes2, no2, wiped2, at4, at5, part4, part5, versions2, ()), ())
namespace wire_pipe_longs_n
def fn (N : Nat) : Sh.den ins → Option (Sh.den outs) := fun ((_, (a, b, _), c, _), ((d, e, f, g, h, i, j, k, l, m, o, p, q, r, s, t, u, v, w, _), _, _), _) => wire_pipe_longs_n.run N a b c d e f g h i j k l m o p q r s t u v w
def S (N : Nat) : Fs := ⟨ins, outs, fn N⟩
def lam (N : Nat) : Pcs := pcs [([true, false], (Pc.unroll (C N) (loopBody (sub code [true, false])) (pcs []) 3))]
theorem pok (N : Nat) : (lam N).Ok Try.prog (C N) code := pcsOk_cons (c1 := .loop (loopBody (sub code [true, false]))) (by kernel_rfl) (unroll_ok (cok N) mix pcsOk_nil 3) (pcsOk_nil)
theorem ok (N : Nat) : (S N).con.Ok Try.prog 40 := okF (F := S N) [] Try.func40 (by kernel_rfl) (by rfl) mix (cok N) (pok N) fun _ => by kernel_rfl
end wire_pipe_longs_n
namespace wire_pipe_fields_f10_b
def ins : Sh := s68
def C (N : Nat) : Ctx := ⟨U, 11, fun _ => true, gam [(40, (wire_pipe_longs_n.S N).con)], gamY []⟩
theorem cok (N : Nat) : (C N).Ok Try.prog := ⟨U_ok, GamOk.cons (wire_pipe_longs_n.ok N) (GamOk.nil), GamYOk.nil⟩
def code : Code := Try.f54.body.getD .skip
def outs : Sh := s69
end wire_pipe_fields_f10_b
def wire_pipe_fields_f10_b.run (N : Nat) (b : (List UInt8)) (e : Int) (wrong : Bool) (kind : Int) (from_ : Int) (to_ : Int) (txn : Int) (base : Int) (epoch : Int) (since : Int) (mark : Int) (ask : Int) (attempt : Int) (node : Int) (yes : Bool) (no : Bool) (wiped : Bool) (at_ : Int) (at1 : Int) (part : (List T7)) (part1 : (List T8)) (versions : (List T6)) : Option T30 :=
  obind (wire_pipe_longs_n.run N b e wrong kind from_ to_ txn base epoch since mark ask attempt node yes no wiped at_ at1 part part1 versions) fun ((b1, e1, _), (kind1, from1, to1, txn1, base1, epoch1, since1, mark1, ask1, attempt1, node1, yes1, no1, wiped1, at2, at3, part2, part3, versions1, _), _) =>
    some ((b1, e1, ()), (kind1, from1, to1, txn1, base1, epoch1, since1, mark1, ask1, attempt1, node1, yes1, no1, wiped1, at2, at3, part2, part3, versions1, ()), ())
namespace wire_pipe_fields_f10_b
def fn (N : Nat) : Sh.den ins → Option (Sh.den outs) := fun (((_, (a, b, _), c, _), _), ((d, e, f, g, h, i, j, k, l, m, o, p, q, r, s, t, u, v, w, _), _), _) => wire_pipe_fields_f10_b.run N a b c d e f g h i j k l m o p q r s t u v w
def S (N : Nat) : Fs := ⟨ins, outs, fn N⟩
def lam (N : Nat) : Pcs := pcs []
theorem pok (N : Nat) : (lam N).Ok Try.prog (C N) code := pcsOk_nil
theorem ok (N : Nat) : (S N).con.Ok Try.prog 54 := okF (F := S N) [] Try.func54 (by kernel_rfl) (by rfl) mix (cok N) (pok N) fun _ => by kernel_rfl
end wire_pipe_fields_f10_b
namespace wire_pipe_fields_f11_b
def ins : Sh := s68
def C (N : Nat) : Ctx := ⟨U, 7, fun _ => true, gam [(43, (wire_pipe_long_o.S N).con)], gamY []⟩
theorem cok (N : Nat) : (C N).Ok Try.prog := ⟨U_ok, GamOk.cons (wire_pipe_long_o.ok N) (GamOk.nil), GamYOk.nil⟩
def code : Code := Try.f55.body.getD .skip
def outs : Sh := s69
end wire_pipe_fields_f11_b
def wire_pipe_fields_f11_b.run (N : Nat) (b : (List UInt8)) (e : Int) (wrong : Bool) (kind : Int) (from_ : Int) (to_ : Int) (txn : Int) (base : Int) (epoch : Int) (since : Int) (mark : Int) (ask : Int) (attempt : Int) (node : Int) (yes : Bool) (no : Bool) (wiped : Bool) (at_ : Int) (at1 : Int) (part : (List T7)) (part1 : (List T8)) (versions : (List T6)) : Option T30 :=
  obind (wire_pipe_long_o.run N b e wrong kind from_ to_ txn base epoch since mark ask attempt node yes no wiped at_ at1 part part1 versions) fun ((b1, e1, _), (kind1, from1, to1, txn1, base1, epoch1, since1, mark1, ask1, attempt1, node1, yes1, no1, wiped1, at2, at3, part2, part3, versions1, _), _) =>
    some ((b1, e1, ()), (kind1, from1, to1, txn1, base1, epoch1, since1, mark1, ask1, attempt1, node1, yes1, no1, wiped1, at2, at3, part2, part3, versions1, ()), ())
namespace wire_pipe_fields_f11_b
def fn (N : Nat) : Sh.den ins → Option (Sh.den outs) := fun (((_, (a, b, _), c, _), _), ((d, e, f, g, h, i, j, k, l, m, o, p, q, r, s, t, u, v, w, _), _), _) => wire_pipe_fields_f11_b.run N a b c d e f g h i j k l m o p q r s t u v w
def S (N : Nat) : Fs := ⟨ins, outs, fn N⟩
def lam (N : Nat) : Pcs := pcs []
theorem pok (N : Nat) : (lam N).Ok Try.prog (C N) code := pcsOk_nil
theorem ok (N : Nat) : (S N).con.Ok Try.prog 55 := okF (F := S N) [] Try.func55 (by kernel_rfl) (by rfl) mix (cok N) (pok N) fun _ => by kernel_rfl
end wire_pipe_fields_f11_b
namespace wire_pipe_fields_f12_b
def ins : Sh := s68
def C (N : Nat) : Ctx := ⟨U, 7, fun _ => true, gam [(43, (wire_pipe_long_p.S N).con)], gamY []⟩
theorem cok (N : Nat) : (C N).Ok Try.prog := ⟨U_ok, GamOk.cons (wire_pipe_long_p.ok N) (GamOk.nil), GamYOk.nil⟩
def code : Code := Try.f56.body.getD .skip
def outs : Sh := s69
end wire_pipe_fields_f12_b
def wire_pipe_fields_f12_b.run (N : Nat) (b : (List UInt8)) (e : Int) (wrong : Bool) (kind : Int) (from_ : Int) (to_ : Int) (txn : Int) (base : Int) (epoch : Int) (since : Int) (mark : Int) (ask : Int) (attempt : Int) (node : Int) (yes : Bool) (no : Bool) (wiped : Bool) (at_ : Int) (at1 : Int) (part : (List T7)) (part1 : (List T8)) (versions : (List T6)) : Option T30 :=
  obind (wire_pipe_long_p.run N b e wrong kind from_ to_ txn base epoch since mark ask attempt node yes no wiped at_ at1 part part1 versions) fun ((b1, e1, _), (kind1, from1, to1, txn1, base1, epoch1, since1, mark1, ask1, attempt1, node1, yes1, no1, wiped1, at2, at3, part2, part3, versions1, _), _) =>
    some ((b1, e1, ()), (kind1, from1, to1, txn1, base1, epoch1, since1, mark1, ask1, attempt1, node1, yes1, no1, wiped1, at2, at3, part2, part3, versions1, ()), ())
namespace wire_pipe_fields_f12_b
def fn (N : Nat) : Sh.den ins → Option (Sh.den outs) := fun (((_, (a, b, _), c, _), _), ((d, e, f, g, h, i, j, k, l, m, o, p, q, r, s, t, u, v, w, _), _), _) => wire_pipe_fields_f12_b.run N a b c d e f g h i j k l m o p q r s t u v w
def S (N : Nat) : Fs := ⟨ins, outs, fn N⟩
def lam (N : Nat) : Pcs := pcs []
theorem pok (N : Nat) : (lam N).Ok Try.prog (C N) code := pcsOk_nil
theorem ok (N : Nat) : (S N).con.Ok Try.prog 56 := okF (F := S N) [] Try.func56 (by kernel_rfl) (by rfl) mix (cok N) (pok N) fun _ => by kernel_rfl
end wire_pipe_fields_f12_b
namespace wire_pipe_fields_b
def ins : Sh := s74
def C (N : Nat) : Ctx := ⟨U, 50, fun _ => true, gam [(39, (wire_pipe_fields_f1_b.S N).con), (42, (wire_pipe_fields_f2_b.S N).con), (45, (wire_pipe_fields_f3_b.S N).con), (46, (wire_pipe_fields_f4_b.S N).con), (47, (wire_pipe_fields_f5_b.S N).con), (49, (wire_pipe_fields_f6_b.S N).con), (51, (wire_pipe_fields_f7_b.S N).con), (52, (wire_pipe_fields_f8_b.S N).con), (53, (wire_pipe_fields_f9_b.S N).con), (54, (wire_pipe_fields_f10_b.S N).con), (55, (wire_pipe_fields_f11_b.S N).con), (56, (wire_pipe_fields_f12_b.S N).con)], gamY []⟩
theorem cok (N : Nat) : (C N).Ok Try.prog := ⟨U_ok, GamOk.cons (wire_pipe_fields_f1_b.ok N) (GamOk.cons (wire_pipe_fields_f2_b.ok N) (GamOk.cons (wire_pipe_fields_f3_b.ok N) (GamOk.cons (wire_pipe_fields_f4_b.ok N) (GamOk.cons (wire_pipe_fields_f5_b.ok N) (GamOk.cons (wire_pipe_fields_f6_b.ok N) (GamOk.cons (wire_pipe_fields_f7_b.ok N) (GamOk.cons (wire_pipe_fields_f8_b.ok N) (GamOk.cons (wire_pipe_fields_f9_b.ok N) (GamOk.cons (wire_pipe_fields_f10_b.ok N) (GamOk.cons (wire_pipe_fields_f11_b.ok N) (GamOk.cons (wire_pipe_fields_f12_b.ok N) (GamOk.nil)))))))))))), GamYOk.nil⟩
def code : Code := Try.f24.body.getD .skip
def outs : Sh := (.cons (.upd 1 68 s44) (.cons (.upd 0 47 s49) (.cons (.upd 2 31 s51) (.cons (.val .bool) .nil))))
end wire_pipe_fields_b
def wire_pipe_fields_b.run (N : Nat) (b : (List UInt8)) (e : Int) (wrong : Bool) (kind : Int) (from_ : Int) (to_ : Int) (txn : Int) (base : Int) (epoch : Int) (since : Int) (mark : Int) (ask : Int) (attempt : Int) (node : Int) (yes : Bool) (no : Bool) (wiped : Bool) (at_ : Int) (at1 : Int) (part : (List T7)) (part1 : (List T8)) (versions : (List T6)) : Option T42 :=
  bif decide ((1 : Int) = kind) then
    obind (wire_pipe_fields_f1_b.run N b e wrong kind from_ to_ txn base epoch since mark ask attempt node yes no wiped at_ at1 part part1 versions) fun ((b1, e1, _), (_, _, wrong1, _), (kind1, from1, to1, txn1, base1, epoch1, since1, mark1, ask1, attempt1, node1, yes1, no1, wiped1, at2, at3, part2, part3, versions1, _), _) =>
      some ((b1, e1, ()), ((), (), wrong1, ()), (kind1, from1, to1, txn1, base1, epoch1, since1, mark1, ask1, attempt1, node1, yes1, no1, wiped1, at2, at3, part2, part3, versions1, ()), true, ())
  else
    bif decide ((2 : Int) = kind) then
      obind (wire_pipe_fields_f2_b.run N b e wrong kind from_ to_ txn base epoch since mark ask attempt node yes no wiped at_ at1 part part1 versions) fun ((b2, e2, _), (_, _, wrong2, _), (kind2, from2, to2, txn2, base2, epoch2, since2, mark2, ask2, attempt2, node2, yes2, no2, wiped2, at4, at5, part4, part5, versions2, _), _) =>
        some ((b2, e2, ()), ((), (), wrong2, ()), (kind2, from2, to2, txn2, base2, epoch2, since2, mark2, ask2, attempt2, node2, yes2, no2, wiped2, at4, at5, part4, part5, versions2, ()), true, ())
    else
      bif decide ((3 : Int) = kind) then
        obind (wire_pipe_fields_f3_b.run N b e wrong kind from_ to_ txn base epoch since mark ask attempt node yes no wiped at_ at1 part part1 versions) fun ((b3, e3, _), (kind3, from3, to3, txn3, base3, epoch3, since3, mark3, ask3, attempt3, node3, yes3, no3, wiped3, at6, at7, part6, part7, versions3, _), _) =>
          some ((b3, e3, ()), ((), (), wrong, ()), (kind3, from3, to3, txn3, base3, epoch3, since3, mark3, ask3, attempt3, node3, yes3, no3, wiped3, at6, at7, part6, part7, versions3, ()), true, ())
      else
        bif decide ((4 : Int) = kind) then
          obind (wire_pipe_fields_f4_b.run N b e wrong kind from_ to_ txn base epoch since mark ask attempt node yes no wiped at_ at1 part part1 versions) fun ((b4, e4, _), (kind4, from4, to4, txn4, base4, epoch4, since4, mark4, ask4, attempt4, node4, yes4, no4, wiped4, at8, at9, part8, part9, versions4, _), _) =>
            some ((b4, e4, ()), ((), (), wrong, ()), (kind4, from4, to4, txn4, base4, epoch4, since4, mark4, ask4, attempt4, node4, yes4, no4, wiped4, at8, at9, part8, part9, versions4, ()), true, ())
        else
          bif decide ((5 : Int) = kind) then
            obind (wire_pipe_fields_f5_b.run N b e wrong kind from_ to_ txn base epoch since mark ask attempt node yes no wiped at_ at1 part part1 versions) fun ((b5, e5, _), (kind5, from5, to5, txn5, base5, epoch5, since5, mark5, ask5, attempt5, node5, yes5, no5, wiped5, at10, at11, part10, part11, versions5, _), _) =>
              some ((b5, e5, ()), ((), (), wrong, ()), (kind5, from5, to5, txn5, base5, epoch5, since5, mark5, ask5, attempt5, node5, yes5, no5, wiped5, at10, at11, part10, part11, versions5, ()), true, ())
          else
            bif decide ((6 : Int) = kind) then
              obind (wire_pipe_fields_f6_b.run N b e wrong kind from_ to_ txn base epoch since mark ask attempt node yes no wiped at_ at1 part part1 versions) fun ((b6, e6, _), (_, _, wrong3, _), (kind6, from6, to6, txn6, base6, epoch6, since6, mark6, ask6, attempt6, node6, yes6, no6, wiped6, at12, at13, part12, part13, versions6, _), _) =>
                some ((b6, e6, ()), ((), (), wrong3, ()), (kind6, from6, to6, txn6, base6, epoch6, since6, mark6, ask6, attempt6, node6, yes6, no6, wiped6, at12, at13, part12, part13, versions6, ()), true, ())
            else
              bif decide ((7 : Int) = kind) then
                obind (wire_pipe_fields_f7_b.run N b e wrong kind from_ to_ txn base epoch since mark ask attempt node yes no wiped at_ at1 part part1 versions) fun ((b7, e7, _), (_, _, wrong4, _), (kind7, from7, to7, txn7, base7, epoch7, since7, mark7, ask7, attempt7, node7, yes7, no7, wiped7, at14, at15, part14, part15, versions7, _), _) =>
                  some ((b7, e7, ()), ((), (), wrong4, ()), (kind7, from7, to7, txn7, base7, epoch7, since7, mark7, ask7, attempt7, node7, yes7, no7, wiped7, at14, at15, part14, part15, versions7, ()), true, ())
              else
                bif decide ((8 : Int) = kind) then
                  obind (wire_pipe_fields_f8_b.run N b e wrong kind from_ to_ txn base epoch since mark ask attempt node yes no wiped at_ at1 part part1 versions) fun ((b8, e8, _), (_, _, wrong5, _), (kind8, from8, to8, txn8, base8, epoch8, since8, mark8, ask8, attempt8, node8, yes8, no8, wiped8, at16, at17, part16, part17, versions8, _), _) =>
                    some ((b8, e8, ()), ((), (), wrong5, ()), (kind8, from8, to8, txn8, base8, epoch8, since8, mark8, ask8, attempt8, node8, yes8, no8, wiped8, at16, at17, part16, part17, versions8, ()), true, ())
                else
                  bif decide ((9 : Int) = kind) then
                    obind (wire_pipe_fields_f9_b.run N b e wrong kind from_ to_ txn base epoch since mark ask attempt node yes no wiped at_ at1 part part1 versions) fun ((b9, e9, _), (_, _, wrong6, _), (kind9, from9, to9, txn9, base9, epoch9, since9, mark9, ask9, attempt9, node9, yes9, no9, wiped9, at18, at19, part18, part19, versions9, _), _) =>
                      some ((b9, e9, ()), ((), (), wrong6, ()), (kind9, from9, to9, txn9, base9, epoch9, since9, mark9, ask9, attempt9, node9, yes9, no9, wiped9, at18, at19, part18, part19, versions9, ()), true, ())
                  else
                    bif decide ((10 : Int) = kind) then
                      obind (wire_pipe_fields_f10_b.run N b e wrong kind from_ to_ txn base epoch since mark ask attempt node yes no wiped at_ at1 part part1 versions) fun ((b10, e10, _), (kind10, from10, to10, txn10, base10, epoch10, since10, mark10, ask10, attempt10, node10, yes10, no10, wiped10, at20, at21, part20, part21, versions10, _), _) =>
                        some ((b10, e10, ()), ((), (), wrong, ()), (kind10, from10, to10, txn10, base10, epoch10, since10, mark10, ask10, attempt10, node10, yes10, no10, wiped10, at20, at21, part20, part21, versions10, ()), true, ())
                    else
                      bif decide ((11 : Int) = kind) then
                        obind (wire_pipe_fields_f11_b.run N b e wrong kind from_ to_ txn base epoch since mark ask attempt node yes no wiped at_ at1 part part1 versions) fun ((b11, e11, _), (kind11, from11, to11, txn11, base11, epoch11, since11, mark11, ask11, attempt11, node11, yes11, no11, wiped11, at22, at23, part22, part23, versions11, _), _) =>
                          some ((b11, e11, ()), ((), (), wrong, ()), (kind11, from11, to11, txn11, base11, epoch11, since11, mark11, ask11, attempt11, node11, yes11, no11, wiped11, at22, at23, part22, part23, versions11, ()), true, ())
                      else
                        bif decide ((12 : Int) = kind) then
                          obind (wire_pipe_fields_f12_b.run N b e wrong kind from_ to_ txn base epoch since mark ask attempt node yes no wiped at_ at1 part part1 versions) fun ((b12, e12, _), (kind12, from12, to12, txn12, base12, epoch12, since12, mark12, ask12, attempt12, node12, yes12, no12, wiped12, at24, at25, part24, part25, versions12, _), _) =>
                            some ((b12, e12, ()), ((), (), wrong, ()), (kind12, from12, to12, txn12, base12, epoch12, since12, mark12, ask12, attempt12, node12, yes12, no12, wiped12, at24, at25, part24, part25, versions12, ()), true, ())
                        else some ((b, e, ()), ((), (), wrong, ()), (kind, from_, to_, txn, base, epoch, since, mark, ask, attempt, node, yes, no, wiped, at_, at1, part, part1, versions, ()), false, ())
namespace wire_pipe_fields_b
def fn (N : Nat) : Sh.den ins → Option (Sh.den outs) := fun ((_, (a, b, _), c, _), (d, e, f, g, h, i, j, k, l, m, o, p, q, r, s, t, u, v, w, _), _) => wire_pipe_fields_b.run N a b c d e f g h i j k l m o p q r s t u v w
def S (N : Nat) : Fs := ⟨ins, outs, fn N⟩
def lam (N : Nat) : Pcs := pcs [([true, true, false, true, false], (Pc.unroll (C N) (loopBody (sub code [true, true, false, true, false])) (pcs []) 13))]
theorem pok (N : Nat) : (lam N).Ok Try.prog (C N) code := pcsOk_cons (c1 := .loop (loopBody (sub code [true, true, false, true, false]))) (by kernel_rfl) (unroll_ok (cok N) mix pcsOk_nil 13) (pcsOk_nil)
theorem ok (N : Nat) : (S N).con.Ok Try.prog 24 := okF (F := S N) [] Try.func24 (by kernel_rfl) (by rfl) mix (cok N) (pok N) fun _ => by kernel_rfl
end wire_pipe_fields_b
namespace wire_pipe_all_b
def ins : Sh := s74
def C (N : Nat) : Ctx := ⟨U, 24, fun _ => true, gam [(21, (wire_pipe_byte_f.S N).con), (22, (((wire_pipe_node_d.S N).con).or (wire_pipe_node_e.S N).con)), (24, (wire_pipe_fields_b.S N).con), (23, (wire_pipe_must_b.S N).con)], gamY []⟩
theorem cok (N : Nat) : (C N).Ok Try.prog := ⟨U_ok, GamOk.cons (wire_pipe_byte_f.ok N) (GamOk.cons (Con.or_ok (wire_pipe_node_d.ok N) (wire_pipe_node_e.ok N)) (GamOk.cons (wire_pipe_fields_b.ok N) (GamOk.cons (wire_pipe_must_b.ok N) (GamOk.nil)))), GamYOk.nil⟩
def code : Code := Try.f11.body.getD .skip
def outs : Sh := s52
end wire_pipe_all_b
def wire_pipe_all_b.run (N : Nat) (b : (List UInt8)) (e : Int) (wrong : Bool) (kind : Int) (from_ : Int) (to_ : Int) (txn : Int) (base : Int) (epoch : Int) (since : Int) (mark : Int) (ask : Int) (attempt : Int) (node : Int) (yes : Bool) (no : Bool) (wiped : Bool) (at_ : Int) (at1 : Int) (part : (List T7)) (part1 : (List T8)) (versions : (List T6)) : Option T29 :=
  obind (wire_pipe_byte_f.run N b e wrong kind from_ to_ txn base epoch since mark ask attempt node yes no wiped at_ at1 part part1 versions (255 : Int)) fun ((b1, e1, _), (_, _, wrong1, _), (kind1, from1, to1, txn1, base1, epoch1, since1, mark1, ask1, attempt1, node1, yes1, no1, wiped1, at2, at3, part2, part3, versions1, _), _) =>
    obind (wire_pipe_node_d.run N b1 e1 wrong1 kind1 from1 to1 txn1 base1 epoch1 since1 mark1 ask1 attempt1 node1 yes1 no1 wiped1 at2 at3 part2 part3 versions1) fun ((b2, e2, _), (_, _, wrong2, _), (kind2, from2, to2, txn2, base2, epoch2, since2, mark2, ask2, attempt2, node2, yes2, no2, wiped2, at4, at5, part4, part5, versions2, _), _) =>
      obind (wire_pipe_node_e.run N b2 e2 wrong2 kind2 from2 to2 txn2 base2 epoch2 since2 mark2 ask2 attempt2 node2 yes2 no2 wiped2 at4 at5 part4 part5 versions2) fun ((b3, e3, _), (_, _, wrong3, _), (kind3, from3, to3, txn3, base3, epoch3, since3, mark3, ask3, attempt3, node3, yes3, no3, wiped3, at6, at7, part6, part7, versions3, _), _) =>
        obind (wire_pipe_fields_b.run N b3 e3 wrong3 kind3 from3 to3 txn3 base3 epoch3 since3 mark3 ask3 attempt3 node3 yes3 no3 wiped3 at6 at7 part6 part7 versions3) fun ((b4, e4, _), (_, _, wrong4, _), (kind4, from4, to4, txn4, base4, epoch4, since4, mark4, ask4, attempt4, node4, yes4, no4, wiped4, at8, at9, part8, part9, versions4, _), b5, _) =>
          obind (wire_pipe_must_b.run N b4 e4 wrong4 b5) fun ((b6, e5, _), (_, _, wrong5, _), _) =>
            some ((b6, e5, ()), ((), (), wrong5, ()), (kind4, from4, to4, txn4, base4, epoch4, since4, mark4, ask4, attempt4, node4, yes4, no4, wiped4, at8, at9, part8, part9, versions4, ()), ())
namespace wire_pipe_all_b
def fn (N : Nat) : Sh.den ins → Option (Sh.den outs) := fun ((_, (a, b, _), c, _), (d, e, f, g, h, i, j, k, l, m, o, p, q, r, s, t, u, v, w, _), _) => wire_pipe_all_b.run N a b c d e f g h i j k l m o p q r s t u v w
def S (N : Nat) : Fs := ⟨ins, outs, fn N⟩
def lam (N : Nat) : Pcs := pcs []
theorem pok (N : Nat) : (lam N).Ok Try.prog (C N) code := pcsOk_nil
theorem ok (N : Nat) : (S N).con.Ok Try.prog 11 := okF (F := S N) [] Try.func11 (by kernel_rfl) (by rfl) mix (cok N) (pok N) fun _ => by kernel_rfl
end wire_pipe_all_b
namespace codec_Sum
def ins : Sh := (.cons (.rown 5 .byte) .nil)
def C (N : Nat) : Ctx := ⟨U, 54, fun _ => true, gam [], gamY []⟩
theorem cok (N : Nat) : (C N).Ok Try.prog := ⟨U_ok, GamOk.nil, GamYOk.nil⟩
def code : Code := Try.f27.body.getD .skip
def outs : Sh := (.cons (.val (.int .u32)) .nil)
end codec_Sum
namespace codec_Sum_0
def ins : Sh := s75
def ts : List Tmp := [3, 9]
def asg : List Tmp := [4, 5, 9, 10, 11, 12, 13, 14, 15, 16, 17, 18, 19, 20, 21, 22, 23, 24, 25, 26]
def C (N : Nat) : Ctx := { codec_Sum.C N with may := fun t => asg.any (Nat.beq t) }
def code : Code := loopBody (sub codec_Sum.code [true, true, false, true, false])
theorem cok (N : Nat) : (C N).Ok Try.prog := okC (codec_Sum.cok N) _
def alts : List Alt := [⟨(.exit 0), [], (.cons (.updr 0 105 (.int .u32)) .nil)⟩]
end codec_Sum_0
namespace codec_Sum_0_0
def ins : Sh := s76
def ts : List Tmp := [5, 14]
def asg : List Tmp := [5, 14, 15, 16, 17, 18, 19, 20, 21, 22]
def C (N : Nat) : Ctx := { codec_Sum_0.C N with may := fun t => asg.any (Nat.beq t) }
def code : Code := loopBody (sub codec_Sum_0.code [true, true, false, false, true, true, false, true, false])
theorem cok (N : Nat) : (C N).Ok Try.prog := okC (codec_Sum_0.cok N) _
def alts : List Alt := [⟨(.exit 2), [5], (.cons (.val (.int .u32)) .nil)⟩]
end codec_Sum_0_0
def codec_Sum_0_0.go (N : Nat) : Nat → Int → Int → Option ((Int × Unit))
  | 0, _, _ => none
  | fuel + 1, c, t14 =>
    bif decide (t14 < (4 : Int)) then
      codec_Sum_0_0.go N fuel (IntKind.u32.wrap ((BitVec.ofInt 32 (c.fdiv (2 : Int)) ^^^ BitVec.ofInt 32 (IntKind.u32.wrap ((3988292384 : Int) * (IntKind.u32.wrap ((BitVec.ofInt 32 c &&& BitVec.ofInt 32 (1 : Int)).toNat : Int))))).toNat : Int)) (IntKind.i64.wrap (t14 + (1 : Int)))
    else some (c, ())
namespace codec_Sum_0_0
def g (N n : Nat) : Sh.den ins → Option (altsDen alts) := fun (a, b, _) => codec_Sum_0_0.go N n a b
def P (N : Nat) : Ps := ⟨ts, ins, asg, alts, g N N⟩
def lam (N : Nat) : Pcs := pcs []
theorem pok (N : Nat) : (lam N).Ok Try.prog (C N) code := pcsOk_nil
theorem ok (N : Nat) : ((P N).pc (codec_Sum_0.C N)).Ok Try.prog (codec_Sum_0.C N) (.loop code) := okL (F := P N) (g N) (codec_Sum_0.cok N) mix (pok N) (fun _ => rfl) rfl fun _ _ => by kernel_rfl
end codec_Sum_0_0
def codec_Sum_0.go (N : Nat) : Nat → (List Int) → Int → Option (T43)
  | 0, _, _ => none
  | fuel + 1, half, t9 =>
    bif decide (t9 < (16 : Int)) then
      obind (codec_Sum_0_0.go N N (IntKind.u32.wrap t9) (0 : Int)) fun (c, _) =>
        bif inB t9 16 then
          bif decide (t9.toNat < half.length) then
            codec_Sum_0.go N fuel (half.set t9.toNat c) (IntKind.i64.wrap (t9 + (1 : Int)))
          else none
        else none
    else some (half, ())
namespace codec_Sum_0
def g (N n : Nat) : Sh.den ins → Option (altsDen alts) := fun (a, b, _) => codec_Sum_0.go N n a b
def P (N : Nat) : Ps := ⟨ts, ins, asg, alts, g N N⟩
def lam (N : Nat) : Pcs := pcs [([true, true, false, false, true, true, false, true, false], (codec_Sum_0_0.P N).pc (C N))]
theorem pok (N : Nat) : (lam N).Ok Try.prog (C N) code := pcsOk_cons (c1 := .loop codec_Sum_0_0.code) (by kernel_rfl) (codec_Sum_0_0.ok N) (pcsOk_nil)
theorem ok (N : Nat) : ((P N).pc (codec_Sum.C N)).Ok Try.prog (codec_Sum.C N) (.loop code) := okL (F := P N) (g N) (codec_Sum.cok N) mix (pok N) (fun _ => rfl) rfl fun _ _ => by kernel_rfl
end codec_Sum_0
namespace codec_Sum_1
def ins : Sh := (.cons (.arr 105 (.int .u32) 16) (.cons (.val (.int .u32)) (.cons (.rown 5 .byte) s20)))
def ts : List Tmp := [3, 6, 27, 28, 29]
def asg : List Tmp := [6, 8, 29, 30, 31, 32, 33, 34, 35, 36, 37, 38, 39, 40, 41, 42, 43, 44, 45, 46, 47, 48, 49, 50, 51]
def C (N : Nat) : Ctx := { codec_Sum.C N with may := fun t => asg.any (Nat.beq t) }
def code : Code := loopBody (sub codec_Sum.code [true, true, true, true, false, true, false])
theorem cok (N : Nat) : (C N).Ok Try.prog := okC (codec_Sum.cok N) _
def alts : List Alt := [⟨(.exit 4), [6], (.cons (.val (.int .u32)) .nil)⟩]
end codec_Sum_1
def codec_Sum_1.go (N : Nat) : Nat → (List Int) → Int → (List UInt8) → Int → Int → Option ((Int × Unit))
  | 0, _, _, _, _, _ => none
  | fuel + 1, half, c, t27, t28, t29 =>
    bif decide (t29 < t28) then
      bif inB t29 t27.length then
        bif decide (t29.toNat < t27.length) then
          bif inB (IntKind.u32.wrap ((BitVec.ofInt 32 (IntKind.u32.wrap ((BitVec.ofInt 32 c ^^^ BitVec.ofInt 32 (IntKind.u32.wrap ((t27.getD t29.toNat (0 : UInt8)).toNat : Int))).toNat : Int)) &&& BitVec.ofInt 32 (15 : Int)).toNat : Int)) 16 then
            bif decide ((IntKind.u32.wrap ((BitVec.ofInt 32 (IntKind.u32.wrap ((BitVec.ofInt 32 c ^^^ BitVec.ofInt 32 (IntKind.u32.wrap ((t27.getD t29.toNat (0 : UInt8)).toNat : Int))).toNat : Int)) &&& BitVec.ofInt 32 (15 : Int)).toNat : Int)).toNat < half.length) then
              bif inB (IntKind.u32.wrap ((BitVec.ofInt 32 (IntKind.u32.wrap ((BitVec.ofInt 32 (half.getD (IntKind.u32.wrap ((BitVec.ofInt 32 (IntKind.u32.wrap ((BitVec.ofInt 32 c ^^^ BitVec.ofInt 32 (IntKind.u32.wrap ((t27.getD t29.toNat (0 : UInt8)).toNat : Int))).toNat : Int)) &&& BitVec.ofInt 32 (15 : Int)).toNat : Int)).toNat (0 : Int)) ^^^ BitVec.ofInt 32 ((IntKind.u32.wrap ((BitVec.ofInt 32 c ^^^ BitVec.ofInt 32 (IntKind.u32.wrap ((t27.getD t29.toNat (0 : UInt8)).toNat : Int))).toNat : Int)).fdiv (16 : Int))).toNat : Int)) &&& BitVec.ofInt 32 (15 : Int)).toNat : Int)) 16 then
                bif decide ((IntKind.u32.wrap ((BitVec.ofInt 32 (IntKind.u32.wrap ((BitVec.ofInt 32 (half.getD (IntKind.u32.wrap ((BitVec.ofInt 32 (IntKind.u32.wrap ((BitVec.ofInt 32 c ^^^ BitVec.ofInt 32 (IntKind.u32.wrap ((t27.getD t29.toNat (0 : UInt8)).toNat : Int))).toNat : Int)) &&& BitVec.ofInt 32 (15 : Int)).toNat : Int)).toNat (0 : Int)) ^^^ BitVec.ofInt 32 ((IntKind.u32.wrap ((BitVec.ofInt 32 c ^^^ BitVec.ofInt 32 (IntKind.u32.wrap ((t27.getD t29.toNat (0 : UInt8)).toNat : Int))).toNat : Int)).fdiv (16 : Int))).toNat : Int)) &&& BitVec.ofInt 32 (15 : Int)).toNat : Int)).toNat < half.length) then
                  codec_Sum_1.go N fuel half (IntKind.u32.wrap ((BitVec.ofInt 32 (half.getD (IntKind.u32.wrap ((BitVec.ofInt 32 (IntKind.u32.wrap ((BitVec.ofInt 32 (half.getD (IntKind.u32.wrap ((BitVec.ofInt 32 (IntKind.u32.wrap ((BitVec.ofInt 32 c ^^^ BitVec.ofInt 32 (IntKind.u32.wrap ((t27.getD t29.toNat (0 : UInt8)).toNat : Int))).toNat : Int)) &&& BitVec.ofInt 32 (15 : Int)).toNat : Int)).toNat (0 : Int)) ^^^ BitVec.ofInt 32 ((IntKind.u32.wrap ((BitVec.ofInt 32 c ^^^ BitVec.ofInt 32 (IntKind.u32.wrap ((t27.getD t29.toNat (0 : UInt8)).toNat : Int))).toNat : Int)).fdiv (16 : Int))).toNat : Int)) &&& BitVec.ofInt 32 (15 : Int)).toNat : Int)).toNat (0 : Int)) ^^^ BitVec.ofInt 32 ((IntKind.u32.wrap ((BitVec.ofInt 32 (half.getD (IntKind.u32.wrap ((BitVec.ofInt 32 (IntKind.u32.wrap ((BitVec.ofInt 32 c ^^^ BitVec.ofInt 32 (IntKind.u32.wrap ((t27.getD t29.toNat (0 : UInt8)).toNat : Int))).toNat : Int)) &&& BitVec.ofInt 32 (15 : Int)).toNat : Int)).toNat (0 : Int)) ^^^ BitVec.ofInt 32 ((IntKind.u32.wrap ((BitVec.ofInt 32 c ^^^ BitVec.ofInt 32 (IntKind.u32.wrap ((t27.getD t29.toNat (0 : UInt8)).toNat : Int))).toNat : Int)).fdiv (16 : Int))).toNat : Int)).fdiv (16 : Int))).toNat : Int)) t27 t28 (IntKind.i64.wrap (t29 + (1 : Int)))
                else none
              else none
            else none
          else none
        else none
      else none
    else some (c, ())
namespace codec_Sum_1
def g (N n : Nat) : Sh.den ins → Option (altsDen alts) := fun (a, b, c, d, e, _) => codec_Sum_1.go N n a b c d e
def P (N : Nat) : Ps := ⟨ts, ins, asg, alts, g N N⟩
def lam (N : Nat) : Pcs := pcs []
theorem pok (N : Nat) : (lam N).Ok Try.prog (C N) code := pcsOk_nil
theorem ok (N : Nat) : ((P N).pc (codec_Sum.C N)).Ok Try.prog (codec_Sum.C N) (.loop code) := okL (F := P N) (g N) (codec_Sum.cok N) mix (pok N) (fun _ => rfl) rfl fun _ _ => by kernel_rfl
end codec_Sum_1
def codec_Sum.run (N : Nat) (b : (List UInt8)) : Option (Int × Unit) :=
  obind (codec_Sum_0.go N N (List.replicate 16 (0 : Int)) (0 : Int)) fun (v, _) =>
    obind (codec_Sum_1.go N N v (4294967295 : Int) b (b.length : Int) (0 : Int)) fun (c, _) =>
      some (IntKind.u32.wrap ((BitVec.ofInt 32 (4294967295 : Int) ^^^ BitVec.ofInt 32 c).toNat : Int), ())
namespace codec_Sum
def fn (N : Nat) : Sh.den ins → Option (Sh.den outs) := fun (a, _) => codec_Sum.run N a
def S (N : Nat) : Fs := ⟨ins, outs, fn N⟩
def lam (N : Nat) : Pcs := pcs [([true, true, false, true, false], (codec_Sum_0.P N).pc (C N)), ([true, true, true, true, false, true, false], (codec_Sum_1.P N).pc (C N))]
theorem pok (N : Nat) : (lam N).Ok Try.prog (C N) code := pcsOk_cons (c1 := .loop codec_Sum_0.code) (by kernel_rfl) (codec_Sum_0.ok N) (pcsOk_cons (c1 := .loop codec_Sum_1.code) (by kernel_rfl) (codec_Sum_1.ok N) (pcsOk_nil))
theorem ok (N : Nat) : (S N).con.Ok Try.prog 27 := okF (F := S N) [] Try.func27 (by kernel_rfl) (by rfl) mix (cok N) (pok N) fun _ => by kernel_rfl
end codec_Sum
namespace codec_Frame
def ins : Sh := (.cons (.rown 5 .byte) .nil)
def C (N : Nat) : Ctx := ⟨U, 30, fun _ => true, gam [(10, (codec_New.S N).con), (26, (codec_Writer_Word.S N).con), (27, (codec_Sum.S N).con), (28, (codec_Writer_Raw.S N).con), (12, (codec_Writer_Bytes.S N).con)], gamY []⟩
theorem cok (N : Nat) : (C N).Ok Try.prog := ⟨U_ok, GamOk.cons (codec_New.ok N) (GamOk.cons (codec_Writer_Word.ok N) (GamOk.cons (codec_Sum.ok N) (GamOk.cons (codec_Writer_Raw.ok N) (GamOk.cons (codec_Writer_Bytes.ok N) (GamOk.nil))))), GamYOk.nil⟩
def code : Code := Try.f14.body.getD .skip
def outs : Sh := s22
end codec_Frame
def codec_Frame.run (N : Nat) (b : (List UInt8)) : Option T17 :=
  bif decide ((b.length : Int) > (16777216 : Int)) then
    some (([] : List UInt8), (12 : Int), ())
  else
    obind (codec_New.run N) fun ((b1, _), _) =>
      obind (codec_Writer_Word.run N b1 (IntKind.u32.wrap (b.length : Int))) fun ((b2, _), _) =>
        obind (codec_Sum.run N b2) fun (n_, _) =>
          obind (codec_Writer_Word.run N b2 n_) fun ((b3, _), _) =>
            obind (codec_Writer_Raw.run N b3 b) fun ((b4, _), _) =>
              obind (codec_Sum.run N b) fun (n1, _) =>
                obind (codec_Writer_Word.run N b4 n1) fun ((b5, _), _) =>
                  obind (codec_Writer_Bytes.run N b5) fun (l, _) =>
                    some (l, (0 : Int), ())
namespace codec_Frame
def fn (N : Nat) : Sh.den ins → Option (Sh.den outs) := fun (a, _) => codec_Frame.run N a
def S (N : Nat) : Fs := ⟨ins, outs, fn N⟩
def lam (N : Nat) : Pcs := pcs []
theorem pok (N : Nat) : (lam N).Ok Try.prog (C N) code := pcsOk_nil
theorem ok (N : Nat) : (S N).con.Ok Try.prog 14 := okF (F := S N) [] Try.func14 (by kernel_rfl) (by rfl) mix (cok N) (pok N) fun _ => by kernel_rfl
end codec_Frame
namespace slices_Equal_api_Value_api_Value
def ins : Sh := (.cons (.val (.slice (.pair (.int .i64) (.pair .bool (.pair (.int .i64) .str))))) s19)
def C (N : Nat) : Ctx := ⟨U, 26, fun _ => true, gam [], gamY []⟩
theorem cok (N : Nat) : (C N).Ok Try.prog := ⟨U_ok, GamOk.nil, GamYOk.nil⟩
def code : Code := Try.f58.body.getD .skip
def outs : Sh := (.cons (.val .bool) .nil)
end slices_Equal_api_Value_api_Value
namespace slices_Equal_api_Value_api_Value_0
def ins : Sh := (.cons (.val (.slice (.pair (.int .i64) (.pair .bool (.pair (.int .i64) .str))))) s21)
def ts : List Tmp := [0, 1, 12, 13]
def asg : List Tmp := [4, 5, 13, 14, 15, 16, 17, 18, 19, 20, 21, 22, 23, 24, 25]
def C (N : Nat) : Ctx := { slices_Equal_api_Value_api_Value.C N with may := fun t => asg.any (Nat.beq t) }
def code : Code := loopBody (sub slices_Equal_api_Value_api_Value.code [true, true, false, true, false])
theorem cok (N : Nat) : (C N).Ok Try.prog := okC (slices_Equal_api_Value_api_Value.cok N) _
def alts : List Alt := [⟨.ret, [4], (.cons (.val .bool) .nil)⟩, ⟨(.exit 0), [], .nil⟩]
end slices_Equal_api_Value_api_Value_0
def slices_Equal_api_Value_api_Value_0.go (N : Nat) : Nat → (List T4) → (List T4) → Int → Int → Option T16
  | 0, _, _, _, _ => none
  | fuel + 1, s1, s2, t12, t13 =>
    bif decide (t13 < t12) then
      bif inB t13 s1.length then
        bif inB t13 s2.length then
          bif !((decide ((s1.getD t13.toNat ((0 : Int), false, (0 : Int), ([] : List UInt8))).1 = (s2.getD t13.toNat ((0 : Int), false, (0 : Int), ([] : List UInt8))).1)) && (((s1.getD t13.toNat ((0 : Int), false, (0 : Int), ([] : List UInt8))).2.1 == (s2.getD t13.toNat ((0 : Int), false, (0 : Int), ([] : List UInt8))).2.1) && ((decide ((s1.getD t13.toNat ((0 : Int), false, (0 : Int), ([] : List UInt8))).2.2.1 = (s2.getD t13.toNat ((0 : Int), false, (0 : Int), ([] : List UInt8))).2.2.1)) && ((decide ((s1.getD t13.toNat ((0 : Int), false, (0 : Int), ([] : List UInt8))).2.2.2 = (s2.getD t13.toNat ((0 : Int), false, (0 : Int), ([] : List UInt8))).2.2.2)) && true)))) then
            some (.inl (false, ()))
          else slices_Equal_api_Value_api_Value_0.go N fuel s1 s2 t12 (IntKind.i64.wrap (t13 + (1 : Int)))
        else none
      else none
    else some (.inr ())
namespace slices_Equal_api_Value_api_Value_0
def g (N n : Nat) : Sh.den ins → Option (altsDen alts) := fun (a, b, c, d, _) => slices_Equal_api_Value_api_Value_0.go N n a b c d
def P (N : Nat) : Ps := ⟨ts, ins, asg, alts, g N N⟩
def lam (N : Nat) : Pcs := pcs []
theorem pok (N : Nat) : (lam N).Ok Try.prog (C N) code := pcsOk_nil
theorem ok (N : Nat) : ((P N).pc (slices_Equal_api_Value_api_Value.C N)).Ok Try.prog (slices_Equal_api_Value_api_Value.C N) (.loop code) := okL (F := P N) (g N) (slices_Equal_api_Value_api_Value.cok N) mix (pok N) (fun _ => rfl) rfl fun _ _ => by kernel_rfl
end slices_Equal_api_Value_api_Value_0
def slices_Equal_api_Value_api_Value.run (N : Nat) (s1 : (List T4)) (s2 : (List T4)) : Option (Bool × Unit) :=
  bif !(decide ((s1.length : Int) = (s2.length : Int))) then
    some (false, ())
  else
    obind (slices_Equal_api_Value_api_Value_0.go N N s1 s2 (s1.length : Int) (0 : Int)) fun y => match y with
    | .inl (t4, _) =>
        some (t4, ())
    | .inr (_) =>
        some (true, ())
namespace slices_Equal_api_Value_api_Value
def fn (N : Nat) : Sh.den ins → Option (Sh.den outs) := fun (a, b, _) => slices_Equal_api_Value_api_Value.run N a b
def S (N : Nat) : Fs := ⟨ins, outs, fn N⟩
def lam (N : Nat) : Pcs := pcs [([true, true, false, true, false], (slices_Equal_api_Value_api_Value_0.P N).pc (C N))]
theorem pok (N : Nat) : (lam N).Ok Try.prog (C N) code := pcsOk_cons (c1 := .loop slices_Equal_api_Value_api_Value_0.code) (by kernel_rfl) (slices_Equal_api_Value_api_Value_0.ok N) (pcsOk_nil)
theorem ok (N : Nat) : (S N).con.Ok Try.prog 58 := okF (F := S N) [] Try.func58 (by kernel_rfl) (by rfl) mix (cok N) (pok N) fun _ => by kernel_rfl
end slices_Equal_api_Value_api_Value
namespace wire_sameVersion
def ins : Sh := s77
def C (N : Nat) : Ctx := ⟨U, 24, fun _ => true, gam [(58, (slices_Equal_api_Value_api_Value.S N).con)], gamY []⟩
theorem cok (N : Nat) : (C N).Ok Try.prog := ⟨U_ok, GamOk.cons (slices_Equal_api_Value_api_Value.ok N) (GamOk.nil), GamYOk.nil⟩
def code : Code := Try.f33.body.getD .skip
def outs : Sh := (.cons (.val .bool) .nil)
end wire_sameVersion
def wire_sameVersion.run (N : Nat) (a : T6) (b : T6) : Option (Bool × Unit) :=
  bif (decide (a.1.1 = b.1.1)) && ((decide (a.1.2 = b.1.2)) && true) then
    bif decide (a.2.2 = b.2.2) then
      obind (slices_Equal_api_Value_api_Value.run N a.2.1 b.2.1) fun (b1, _) =>
        some (b1, ())
    else some (false, ())
  else some (false, ())
namespace wire_sameVersion
def fn (N : Nat) : Sh.den ins → Option (Sh.den outs) := fun (a, b, _) => wire_sameVersion.run N a b
def S (N : Nat) : Fs := ⟨ins, outs, fn N⟩
def lam (N : Nat) : Pcs := pcs []
theorem pok (N : Nat) : (lam N).Ok Try.prog (C N) code := pcsOk_nil
theorem ok (N : Nat) : (S N).con.Ok Try.prog 33 := okF (F := S N) [] Try.func33 (by kernel_rfl) (by rfl) mix (cok N) (pok N) fun _ => by kernel_rfl
end wire_sameVersion
namespace wire_sameInsert
def ins : Sh := (.cons (.val (.pair (.pair (.int .i64) (.int .i64)) (.pair (.pair (.int .u64) (.int .u32)) (.pair (.slice (.pair (.int .i64) (.pair .bool (.pair (.int .i64) .str)))) (.int .u64))))) (.cons (.val (.pair (.pair (.int .i64) (.int .i64)) (.pair (.pair (.int .u64) (.int .u32)) (.pair (.slice (.pair (.int .i64) (.pair .bool (.pair (.int .i64) .str)))) (.int .u64))))) .nil))
def C (N : Nat) : Ctx := ⟨U, 17, fun _ => true, gam [(33, (wire_sameVersion.S N).con)], gamY []⟩
theorem cok (N : Nat) : (C N).Ok Try.prog := ⟨U_ok, GamOk.cons (wire_sameVersion.ok N) (GamOk.nil), GamYOk.nil⟩
def code : Code := Try.f30.body.getD .skip
def outs : Sh := (.cons (.val .bool) .nil)
end wire_sameInsert
def wire_sameInsert.run (N : Nat) (a : T7) (b : T7) : Option (Bool × Unit) :=
  bif (decide (a.1.1 = b.1.1)) && ((decide (a.1.2 = b.1.2)) && true) then
    obind (wire_sameVersion.run N a.2 b.2) fun (b1, _) =>
      some (b1, ())
  else some (false, ())
namespace wire_sameInsert
def fn (N : Nat) : Sh.den ins → Option (Sh.den outs) := fun (a, b, _) => wire_sameInsert.run N a b
def S (N : Nat) : Fs := ⟨ins, outs, fn N⟩
def lam (N : Nat) : Pcs := pcs []
theorem pok (N : Nat) : (lam N).Ok Try.prog (C N) code := pcsOk_nil
theorem ok (N : Nat) : (S N).con.Ok Try.prog 30 := okF (F := S N) [] Try.func30 (by kernel_rfl) (by rfl) mix (cok N) (pok N) fun _ => by kernel_rfl
end wire_sameInsert
namespace slices_EqualFunc_api_Insert_api_Insert_api_Insert
def ins : Sh := (.cons (.val (.slice (.pair (.pair (.int .i64) (.int .i64)) (.pair (.pair (.int .u64) (.int .u32)) (.pair (.slice (.pair (.int .i64) (.pair .bool (.pair (.int .i64) .str)))) (.int .u64)))))) (.cons (.val (.slice (.pair (.pair (.int .i64) (.int .i64)) (.pair (.pair (.int .u64) (.int .u32)) (.pair (.slice (.pair (.int .i64) (.pair .bool (.pair (.int .i64) .str)))) (.int .u64)))))) (.cons (.fn 30 .nil) .nil)))
def C (N : Nat) : Ctx := ⟨U, 32, fun _ => true, gam [(30, (wire_sameInsert.S N).con)], gamY []⟩
theorem cok (N : Nat) : (C N).Ok Try.prog := ⟨U_ok, GamOk.cons (wire_sameInsert.ok N) (GamOk.nil), GamYOk.nil⟩
def code : Code := Try.f29.body.getD .skip
def outs : Sh := (.cons (.val .bool) .nil)
end slices_EqualFunc_api_Insert_api_Insert_api_Insert
namespace slices_EqualFunc_api_Insert_api_Insert_api_Insert_0
def ins : Sh := (.cons (.val (.slice (.pair (.pair (.int .i64) (.int .i64)) (.pair (.pair (.int .u64) (.int .u32)) (.pair (.slice (.pair (.int .i64) (.pair .bool (.pair (.int .i64) .str)))) (.int .u64)))))) (.cons (.fn 30 .nil) s25))
def ts : List Tmp := [1, 2, 15, 16, 17]
def asg : List Tmp := [6, 7, 8, 9, 17, 18, 19, 20, 21, 22, 23, 24, 25, 26, 27, 28, 29, 30, 31]
def C (N : Nat) : Ctx := { slices_EqualFunc_api_Insert_api_Insert_api_Insert.C N with may := fun t => asg.any (Nat.beq t) }
def code : Code := loopBody (sub slices_EqualFunc_api_Insert_api_Insert_api_Insert.code [true, true, false, true, false])
theorem cok (N : Nat) : (C N).Ok Try.prog := okC (slices_EqualFunc_api_Insert_api_Insert_api_Insert.cok N) _
def alts : List Alt := [⟨.ret, [6], (.cons (.val .bool) .nil)⟩, ⟨(.exit 0), [], .nil⟩]
end slices_EqualFunc_api_Insert_api_Insert_api_Insert_0
def slices_EqualFunc_api_Insert_api_Insert_api_Insert_0.go (N : Nat) : Nat → (List T7) → (List T7) → Int → Int → Option T16
  | 0, _, _, _, _ => none
  | fuel + 1, s2, t15, t16, t17 =>
    bif decide (t17 < t16) then
      bif inB t17 t15.length then
        bif inB t17 s2.length then
          obind (wire_sameInsert.run N (t15.getD t17.toNat (((0 : Int), (0 : Int)), ((0 : Int), (0 : Int)), ([] : List T4), (0 : Int))) (s2.getD t17.toNat (((0 : Int), (0 : Int)), ((0 : Int), (0 : Int)), ([] : List T4), (0 : Int)))) fun (b, _) =>
            bif !b then
              some (.inl (false, ()))
            else slices_EqualFunc_api_Insert_api_Insert_api_Insert_0.go N fuel s2 t15 t16 (IntKind.i64.wrap (t17 + (1 : Int)))
        else none
      else none
    else some (.inr ())
namespace slices_EqualFunc_api_Insert_api_Insert_api_Insert_0
def g (N n : Nat) : Sh.den ins → Option (altsDen alts) := fun (a, _, b, c, d, _) => slices_EqualFunc_api_Insert_api_Insert_api_Insert_0.go N n a b c d
def P (N : Nat) : Ps := ⟨ts, ins, asg, alts, g N N⟩
def lam (N : Nat) : Pcs := pcs []
theorem pok (N : Nat) : (lam N).Ok Try.prog (C N) code := pcsOk_nil
theorem ok (N : Nat) : ((P N).pc (slices_EqualFunc_api_Insert_api_Insert_api_Insert.C N)).Ok Try.prog (slices_EqualFunc_api_Insert_api_Insert_api_Insert.C N) (.loop code) := okL (F := P N) (g N) (slices_EqualFunc_api_Insert_api_Insert_api_Insert.cok N) mix (pok N) (fun _ => rfl) rfl fun _ _ => by kernel_rfl
end slices_EqualFunc_api_Insert_api_Insert_api_Insert_0
def slices_EqualFunc_api_Insert_api_Insert_api_Insert.run (N : Nat) (s1 : (List T7)) (s2 : (List T7)) : Option (Bool × Unit) :=
  bif !(decide ((s1.length : Int) = (s2.length : Int))) then
    some (false, ())
  else
    obind (slices_EqualFunc_api_Insert_api_Insert_api_Insert_0.go N N s2 s1 (s1.length : Int) (0 : Int)) fun y => match y with
    | .inl (t6, _) =>
        some (t6, ())
    | .inr (_) =>
        some (true, ())
namespace slices_EqualFunc_api_Insert_api_Insert_api_Insert
def fn (N : Nat) : Sh.den ins → Option (Sh.den outs) := fun (a, b, _, _) => slices_EqualFunc_api_Insert_api_Insert_api_Insert.run N a b
def S (N : Nat) : Fs := ⟨ins, outs, fn N⟩
def lam (N : Nat) : Pcs := pcs [([true, true, false, true, false], (slices_EqualFunc_api_Insert_api_Insert_api_Insert_0.P N).pc (C N))]
theorem pok (N : Nat) : (lam N).Ok Try.prog (C N) code := pcsOk_cons (c1 := .loop slices_EqualFunc_api_Insert_api_Insert_api_Insert_0.code) (by kernel_rfl) (slices_EqualFunc_api_Insert_api_Insert_api_Insert_0.ok N) (pcsOk_nil)
theorem ok (N : Nat) : (S N).con.Ok Try.prog 29 := okF (F := S N) [] Try.func29 (by kernel_rfl) (by rfl) mix (cok N) (pok N) fun _ => by kernel_rfl
end slices_EqualFunc_api_Insert_api_Insert_api_Insert
namespace slices_Equal_api_Erase_api_Erase
def ins : Sh := (.cons (.val (.slice (.pair (.pair (.int .i64) (.int .i64)) (.pair (.int .u64) (.int .u32))))) s78)
def C (N : Nat) : Ctx := ⟨U, 26, fun _ => true, gam [], gamY []⟩
theorem cok (N : Nat) : (C N).Ok Try.prog := ⟨U_ok, GamOk.nil, GamYOk.nil⟩
def code : Code := Try.f31.body.getD .skip
def outs : Sh := (.cons (.val .bool) .nil)
end slices_Equal_api_Erase_api_Erase
namespace slices_Equal_api_Erase_api_Erase_0
def ins : Sh := (.cons (.val (.slice (.pair (.pair (.int .i64) (.int .i64)) (.pair (.int .u64) (.int .u32))))) s32)
def ts : List Tmp := [0, 1, 12, 13]
def asg : List Tmp := [4, 5, 13, 14, 15, 16, 17, 18, 19, 20, 21, 22, 23, 24, 25]
def C (N : Nat) : Ctx := { slices_Equal_api_Erase_api_Erase.C N with may := fun t => asg.any (Nat.beq t) }
def code : Code := loopBody (sub slices_Equal_api_Erase_api_Erase.code [true, true, false, true, false])
theorem cok (N : Nat) : (C N).Ok Try.prog := okC (slices_Equal_api_Erase_api_Erase.cok N) _
def alts : List Alt := [⟨.ret, [4], (.cons (.val .bool) .nil)⟩, ⟨(.exit 0), [], .nil⟩]
end slices_Equal_api_Erase_api_Erase_0
def slices_Equal_api_Erase_api_Erase_0.go (N : Nat) : Nat → (List T8) → (List T8) → Int → Int → Option T16
  | 0, _, _, _, _ => none
  | fuel + 1, s1, s2, t12, t13 =>
    bif decide (t13 < t12) then
      bif inB t13 s1.length then
        bif inB t13 s2.length then
          bif !(((decide ((s1.getD t13.toNat (((0 : Int), (0 : Int)), (0 : Int), (0 : Int))).1.1 = (s2.getD t13.toNat (((0 : Int), (0 : Int)), (0 : Int), (0 : Int))).1.1)) && ((decide ((s1.getD t13.toNat (((0 : Int), (0 : Int)), (0 : Int), (0 : Int))).1.2 = (s2.getD t13.toNat (((0 : Int), (0 : Int)), (0 : Int), (0 : Int))).1.2)) && true)) && (((decide ((s1.getD t13.toNat (((0 : Int), (0 : Int)), (0 : Int), (0 : Int))).2.1 = (s2.getD t13.toNat (((0 : Int), (0 : Int)), (0 : Int), (0 : Int))).2.1)) && ((decide ((s1.getD t13.toNat (((0 : Int), (0 : Int)), (0 : Int), (0 : Int))).2.2 = (s2.getD t13.toNat (((0 : Int), (0 : Int)), (0 : Int), (0 : Int))).2.2)) && true)) && true)) then
            some (.inl (false, ()))
          else slices_Equal_api_Erase_api_Erase_0.go N fuel s1 s2 t12 (IntKind.i64.wrap (t13 + (1 : Int)))
        else none
      else none
    else some (.inr ())
namespace slices_Equal_api_Erase_api_Erase_0
def g (N n : Nat) : Sh.den ins → Option (altsDen alts) := fun (a, b, c, d, _) => slices_Equal_api_Erase_api_Erase_0.go N n a b c d
def P (N : Nat) : Ps := ⟨ts, ins, asg, alts, g N N⟩
def lam (N : Nat) : Pcs := pcs []
theorem pok (N : Nat) : (lam N).Ok Try.prog (C N) code := pcsOk_nil
theorem ok (N : Nat) : ((P N).pc (slices_Equal_api_Erase_api_Erase.C N)).Ok Try.prog (slices_Equal_api_Erase_api_Erase.C N) (.loop code) := okL (F := P N) (g N) (slices_Equal_api_Erase_api_Erase.cok N) mix (pok N) (fun _ => rfl) rfl fun _ _ => by kernel_rfl
end slices_Equal_api_Erase_api_Erase_0
def slices_Equal_api_Erase_api_Erase.run (N : Nat) (s1 : (List T8)) (s2 : (List T8)) : Option (Bool × Unit) :=
  bif !(decide ((s1.length : Int) = (s2.length : Int))) then
    some (false, ())
  else
    obind (slices_Equal_api_Erase_api_Erase_0.go N N s1 s2 (s1.length : Int) (0 : Int)) fun y => match y with
    | .inl (t4, _) =>
        some (t4, ())
    | .inr (_) =>
        some (true, ())
namespace slices_Equal_api_Erase_api_Erase
def fn (N : Nat) : Sh.den ins → Option (Sh.den outs) := fun (a, b, _) => slices_Equal_api_Erase_api_Erase.run N a b
def S (N : Nat) : Fs := ⟨ins, outs, fn N⟩
def lam (N : Nat) : Pcs := pcs [([true, true, false, true, false], (slices_Equal_api_Erase_api_Erase_0.P N).pc (C N))]
theorem pok (N : Nat) : (lam N).Ok Try.prog (C N) code := pcsOk_cons (c1 := .loop slices_Equal_api_Erase_api_Erase_0.code) (by kernel_rfl) (slices_Equal_api_Erase_api_Erase_0.ok N) (pcsOk_nil)
theorem ok (N : Nat) : (S N).con.Ok Try.prog 31 := okF (F := S N) [] Try.func31 (by kernel_rfl) (by rfl) mix (cok N) (pok N) fun _ => by kernel_rfl
end slices_Equal_api_Erase_api_Erase
namespace slices_EqualFunc_api_Version_api_Version_api_Version
def ins : Sh := (.cons (.val (.slice (.pair (.pair (.int .u64) (.int .u32)) (.pair (.slice (.pair (.int .i64) (.pair .bool (.pair (.int .i64) .str)))) (.int .u64))))) (.cons (.val (.slice (.pair (.pair (.int .u64) (.int .u32)) (.pair (.slice (.pair (.int .i64) (.pair .bool (.pair (.int .i64) .str)))) (.int .u64))))) (.cons (.fn 33 .nil) .nil)))
def C (N : Nat) : Ctx := ⟨U, 32, fun _ => true, gam [(33, (wire_sameVersion.S N).con)], gamY []⟩
theorem cok (N : Nat) : (C N).Ok Try.prog := ⟨U_ok, GamOk.cons (wire_sameVersion.ok N) (GamOk.nil), GamYOk.nil⟩
def code : Code := Try.f32.body.getD .skip
def outs : Sh := (.cons (.val .bool) .nil)
end slices_EqualFunc_api_Version_api_Version_api_Version
namespace slices_EqualFunc_api_Version_api_Version_api_Version_0
def ins : Sh := (.cons (.val (.slice (.pair (.pair (.int .u64) (.int .u32)) (.pair (.slice (.pair (.int .i64) (.pair .bool (.pair (.int .i64) .str)))) (.int .u64))))) (.cons (.fn 33 .nil) s42))
def ts : List Tmp := [1, 2, 15, 16, 17]
def asg : List Tmp := [6, 7, 8, 9, 17, 18, 19, 20, 21, 22, 23, 24, 25, 26, 27, 28, 29, 30, 31]
def C (N : Nat) : Ctx := { slices_EqualFunc_api_Version_api_Version_api_Version.C N with may := fun t => asg.any (Nat.beq t) }
def code : Code := loopBody (sub slices_EqualFunc_api_Version_api_Version_api_Version.code [true, true, false, true, false])
theorem cok (N : Nat) : (C N).Ok Try.prog := okC (slices_EqualFunc_api_Version_api_Version_api_Version.cok N) _
def alts : List Alt := [⟨.ret, [6], (.cons (.val .bool) .nil)⟩, ⟨(.exit 0), [], .nil⟩]
end slices_EqualFunc_api_Version_api_Version_api_Version_0
def slices_EqualFunc_api_Version_api_Version_api_Version_0.go (N : Nat) : Nat → (List T6) → (List T6) → Int → Int → Option T16
  | 0, _, _, _, _ => none
  | fuel + 1, s2, t15, t16, t17 =>
    bif decide (t17 < t16) then
      bif inB t17 t15.length then
        bif inB t17 s2.length then
          obind (wire_sameVersion.run N (t15.getD t17.toNat (((0 : Int), (0 : Int)), ([] : List T4), (0 : Int))) (s2.getD t17.toNat (((0 : Int), (0 : Int)), ([] : List T4), (0 : Int)))) fun (b, _) =>
            bif !b then
              some (.inl (false, ()))
            else slices_EqualFunc_api_Version_api_Version_api_Version_0.go N fuel s2 t15 t16 (IntKind.i64.wrap (t17 + (1 : Int)))
        else none
      else none
    else some (.inr ())
namespace slices_EqualFunc_api_Version_api_Version_api_Version_0
def g (N n : Nat) : Sh.den ins → Option (altsDen alts) := fun (a, _, b, c, d, _) => slices_EqualFunc_api_Version_api_Version_api_Version_0.go N n a b c d
def P (N : Nat) : Ps := ⟨ts, ins, asg, alts, g N N⟩
def lam (N : Nat) : Pcs := pcs []
theorem pok (N : Nat) : (lam N).Ok Try.prog (C N) code := pcsOk_nil
theorem ok (N : Nat) : ((P N).pc (slices_EqualFunc_api_Version_api_Version_api_Version.C N)).Ok Try.prog (slices_EqualFunc_api_Version_api_Version_api_Version.C N) (.loop code) := okL (F := P N) (g N) (slices_EqualFunc_api_Version_api_Version_api_Version.cok N) mix (pok N) (fun _ => rfl) rfl fun _ _ => by kernel_rfl
end slices_EqualFunc_api_Version_api_Version_api_Version_0
def slices_EqualFunc_api_Version_api_Version_api_Version.run (N : Nat) (s1 : (List T6)) (s2 : (List T6)) : Option (Bool × Unit) :=
  bif !(decide ((s1.length : Int) = (s2.length : Int))) then
    some (false, ())
  else
    obind (slices_EqualFunc_api_Version_api_Version_api_Version_0.go N N s2 s1 (s1.length : Int) (0 : Int)) fun y => match y with
    | .inl (t6, _) =>
        some (t6, ())
    | .inr (_) =>
        some (true, ())
namespace slices_EqualFunc_api_Version_api_Version_api_Version
def fn (N : Nat) : Sh.den ins → Option (Sh.den outs) := fun (a, b, _, _) => slices_EqualFunc_api_Version_api_Version_api_Version.run N a b
def S (N : Nat) : Fs := ⟨ins, outs, fn N⟩
def lam (N : Nat) : Pcs := pcs [([true, true, false, true, false], (slices_EqualFunc_api_Version_api_Version_api_Version_0.P N).pc (C N))]
theorem pok (N : Nat) : (lam N).Ok Try.prog (C N) code := pcsOk_cons (c1 := .loop slices_EqualFunc_api_Version_api_Version_api_Version_0.code) (by kernel_rfl) (slices_EqualFunc_api_Version_api_Version_api_Version_0.ok N) (pcsOk_nil)
theorem ok (N : Nat) : (S N).con.Ok Try.prog 32 := okF (F := S N) [] Try.func32 (by kernel_rfl) (by rfl) mix (cok N) (pok N) fun _ => by kernel_rfl
end slices_EqualFunc_api_Version_api_Version_api_Version
namespace wire_same
def ins : Sh := s80
def C (N : Nat) : Ctx := ⟨U, 137, fun _ => true, gam [(29, (slices_EqualFunc_api_Insert_api_Insert_api_Insert.S N).con), (31, (slices_Equal_api_Erase_api_Erase.S N).con), (32, (slices_EqualFunc_api_Version_api_Version_api_Version.S N).con)], gamY []⟩
theorem cok (N : Nat) : (C N).Ok Try.prog := ⟨U_ok, GamOk.cons (slices_EqualFunc_api_Insert_api_Insert_api_Insert.ok N) (GamOk.cons (slices_Equal_api_Erase_api_Erase.ok N) (GamOk.cons (slices_EqualFunc_api_Version_api_Version_api_Version.ok N) (GamOk.nil))), GamYOk.nil⟩
def code : Code := Try.f15.body.getD .skip
def outs : Sh := (.cons (.val .bool) .nil)
end wire_same
namespace wire_same_0
def ins : Sh := s81
def ts : List Tmp := [2, 3]
def asg : List Tmp := [5, 7, 8, 9, 10, 11, 12, 13, 14, 15, 16, 17, 18, 19, 20, 21, 22, 23, 24, 25, 26, 27, 28, 29]
def C (N : Nat) : Ctx := { wire_same.C N with may := fun t => asg.any (Nat.beq t) }
def code : Code := (sub wire_same.code [true, false]).getD .skip
theorem cok (N : Nat) : (C N).Ok Try.prog := okC (wire_same.cok N) _
def alts : List Alt := [⟨.normal, [5], (.cons (.val .bool) .nil)⟩]
end wire_same_0
def wire_same_0.run (N : Nat) (kind : Int) (from_ : Int) (to_ : Int) (txn : Int) (base : Int) (epoch : Int) (since : Int) (mark : Int) (ask : Int) (attempt : Int) (node : Int) (yes : Bool) (no : Bool) (wiped : Bool) (at_ : Int) (at1 : Int) (part : (List T7)) (part1 : (List T8)) (versions : (List T6)) (kind1 : Int) (from1 : Int) (to1 : Int) (txn1 : Int) (base1 : Int) (epoch1 : Int) (since1 : Int) (mark1 : Int) (ask1 : Int) (attempt1 : Int) (node1 : Int) (yes1 : Bool) (no1 : Bool) (wiped1 : Bool) (at2 : Int) (at3 : Int) (part2 : (List T7)) (part3 : (List T8)) (versions1 : (List T6)) : Option ((Bool × Unit)) :=
  obind (slices_EqualFunc_api_Insert_api_Insert_api_Insert.run N part part2) fun (b, _) =>
    bif b then
      obind (slices_Equal_api_Erase_api_Erase.run N part1 part3) fun (b1, _) =>
        bif b1 then
          obind (slices_EqualFunc_api_Version_api_Version_api_Version.run N versions versions1) fun (b2, _) =>
            some (b2, ())
        else some (false, ())
    else some (false, ())
namespace wire_same_0
def fn (N : Nat) : Sh.den ins → Option (altsDen alts) := fun ((a, b, c, d, e, f, g, h, i, j, k, l, m, o, p, q, r, s, t, _), (u, v, w, x, y, z, x26, x27, x28, x29, x30, x31, x32, x33, x34, x35, x36, x37, x38, _), _) => wire_same_0.run N a b c d e f g h i j k l m o p q r s t u v w x y z x26 x27 x28 x29 x30 x31 x32 x33 x34 x35 x36 x37 x38
def P (N : Nat) : Ps := ⟨ts, ins, asg, alts, fn N⟩
def lam (N : Nat) : Pcs := pcs []
theorem pok (N : Nat) : (lam N).Ok Try.prog (C N) code := pcsOk_nil
theorem ok (N : Nat) : ((P N).pc (wire_same.C N)).Ok Try.prog (wire_same.C N) code := okP (F := P N) (wire_same.cok N) mix (pok N) fun _ => by kernel_rfl
end wire_same_0
namespace wire_same_1
def ins : Sh := s81
def ts : List Tmp := [2, 3]
def asg : List Tmp := [6, 30, 31, 32, 33, 34, 35, 36, 37, 38, 39, 40, 41, 42, 43, 44, 45, 46, 47, 48, 49, 50, 51, 52, 53, 54, 55, 56, 57, 58, 59, 60, 61, 62, 63, 64, 65, 66, 67, 68, 69, 70, 71, 72, 73, 74, 75, 76]
def C (N : Nat) : Ctx := { wire_same.C N with may := fun t => asg.any (Nat.beq t) }
def code : Code := (sub wire_same.code [true, true, false]).getD .skip
theorem cok (N : Nat) : (C N).Ok Try.prog := okC (wire_same.cok N) _
def alts : List Alt := [⟨.normal, [6], (.cons (.val .bool) .nil)⟩]
end wire_same_1
def wire_same_1.run (N : Nat) (kind : Int) (from_ : Int) (to_ : Int) (txn : Int) (base : Int) (epoch : Int) (since : Int) (mark : Int) (ask : Int) (attempt : Int) (node : Int) (yes : Bool) (no : Bool) (wiped : Bool) (at_ : Int) (at1 : Int) (part : (List T7)) (part1 : (List T8)) (versions : (List T6)) (kind1 : Int) (from1 : Int) (to1 : Int) (txn1 : Int) (base1 : Int) (epoch1 : Int) (since1 : Int) (mark1 : Int) (ask1 : Int) (attempt1 : Int) (node1 : Int) (yes1 : Bool) (no1 : Bool) (wiped1 : Bool) (at2 : Int) (at3 : Int) (part2 : (List T7)) (part3 : (List T8)) (versions1 : (List T6)) : Option ((Bool × Unit)) :=
  bif decide (txn = txn1) then
    bif decide (base = base1) then
      bif decide (epoch = epoch1) then
        bif decide (since = since1) then
          bif decide (mark = mark1) then
            bif decide (ask = ask1) then
              some (decide (attempt = attempt1), ())
            else some (false, ())
          else some (false, ())
        else some (false, ())
      else some (false, ())
    else some (false, ())
  else some (false, ())
namespace wire_same_1
def fn (N : Nat) : Sh.den ins → Option (altsDen alts) := fun ((a, b, c, d, e, f, g, h, i, j, k, l, m, o, p, q, r, s, t, _), (u, v, w, x, y, z, x26, x27, x28, x29, x30, x31, x32, x33, x34, x35, x36, x37, x38, _), _) => wire_same_1.run N a b c d e f g h i j k l m o p q r s t u v w x y z x26 x27 x28 x29 x30 x31 x32 x33 x34 x35 x36 x37 x38
def P (N : Nat) : Ps := ⟨ts, ins, asg, alts, fn N⟩
def lam (N : Nat) : Pcs := pcs []
theorem pok (N : Nat) : (lam N).Ok Try.prog (C N) code := pcsOk_nil
theorem ok (N : Nat) : ((P N).pc (wire_same.C N)).Ok Try.prog (wire_same.C N) code := okP (F := P N) (wire_same.cok N) mix (pok N) fun _ => by kernel_rfl
end wire_same_1
def wire_same.run (N : Nat) (a : T53) (b : T53) : Option (Bool × Unit) :=
  obind (wire_same_0.run N a.1 a.2.1 a.2.2.1 a.2.2.2.1 a.2.2.2.2.1 a.2.2.2.2.2.1 a.2.2.2.2.2.2.1 a.2.2.2.2.2.2.2.1 a.2.2.2.2.2.2.2.2.1 a.2.2.2.2.2.2.2.2.2.1 a.2.2.2.2.2.2.2.2.2.2.1 a.2.2.2.2.2.2.2.2.2.2.2.1 a.2.2.2.2.2.2.2.2.2.2.2.2.1 a.2.2.2.2.2.2.2.2.2.2.2.2.2.1 a.2.2.2.2.2.2.2.2.2.2.2.2.2.2.1.1 a.2.2.2.2.2.2.2.2.2.2.2.2.2.2.1.2 a.2.2.2.2.2.2.2.2.2.2.2.2.2.2.2.1.1 a.2.2.2.2.2.2.2.2.2.2.2.2.2.2.2.1.2 a.2.2.2.2.2.2.2.2.2.2.2.2.2.2.2.2 b.1 b.2.1 b.2.2.1 b.2.2.2.1 b.2.2.2.2.1 b.2.2.2.2.2.1 b.2.2.2.2.2.2.1 b.2.2.2.2.2.2.2.1 b.2.2.2.2.2.2.2.2.1 b.2.2.2.2.2.2.2.2.2.1 b.2.2.2.2.2.2.2.2.2.2.1 b.2.2.2.2.2.2.2.2.2.2.2.1 b.2.2.2.2.2.2.2.2.2.2.2.2.1 b.2.2.2.2.2.2.2.2.2.2.2.2.2.1 b.2.2.2.2.2.2.2.2.2.2.2.2.2.2.1.1 b.2.2.2.2.2.2.2.2.2.2.2.2.2.2.1.2 b.2.2.2.2.2.2.2.2.2.2.2.2.2.2.2.1.1 b.2.2.2.2.2.2.2.2.2.2.2.2.2.2.2.1.2 b.2.2.2.2.2.2.2.2.2.2.2.2.2.2.2.2) fun (lists, _) =>
    obind (wire_same_1.run N a.1 a.2.1 a.2.2.1 a.2.2.2.1 a.2.2.2.2.1 a.2.2.2.2.2.1 a.2.2.2.2.2.2.1 a.2.2.2.2.2.2.2.1 a.2.2.2.2.2.2.2.2.1 a.2.2.2.2.2.2.2.2.2.1 a.2.2.2.2.2.2.2.2.2.2.1 a.2.2.2.2.2.2.2.2.2.2.2.1 a.2.2.2.2.2.2.2.2.2.2.2.2.1 a.2.2.2.2.2.2.2.2.2.2.2.2.2.1 a.2.2.2.2.2.2.2.2.2.2.2.2.2.2.1.1 a.2.2.2.2.2.2.2.2.2.2.2.2.2.2.1.2 a.2.2.2.2.2.2.2.2.2.2.2.2.2.2.2.1.1 a.2.2.2.2.2.2.2.2.2.2.2.2.2.2.2.1.2 a.2.2.2.2.2.2.2.2.2.2.2.2.2.2.2.2 b.1 b.2.1 b.2.2.1 b.2.2.2.1 b.2.2.2.2.1 b.2.2.2.2.2.1 b.2.2.2.2.2.2.1 b.2.2.2.2.2.2.2.1 b.2.2.2.2.2.2.2.2.1 b.2.2.2.2.2.2.2.2.2.1 b.2.2.2.2.2.2.2.2.2.2.1 b.2.2.2.2.2.2.2.2.2.2.2.1 b.2.2.2.2.2.2.2.2.2.2.2.2.1 b.2.2.2.2.2.2.2.2.2.2.2.2.2.1 b.2.2.2.2.2.2.2.2.2.2.2.2.2.2.1.1 b.2.2.2.2.2.2.2.2.2.2.2.2.2.2.1.2 b.2.2.2.2.2.2.2.2.2.2.2.2.2.2.2.1.1 b.2.2.2.2.2.2.2.2.2.2.2.2.2.2.2.1.2 b.2.2.2.2.2.2.2.2.2.2.2.2.2.2.2.2) fun (rest, _) =>
      bif lists then
        bif rest then
          bif decide (a.1 = b.1) then
            bif decide (a.2.1 = b.2.1) then
              bif decide (a.2.2.1 = b.2.2.1) then
                bif decide (a.2.2.2.2.2.2.2.2.2.2.1 = b.2.2.2.2.2.2.2.2.2.2.1) then
                  bif a.2.2.2.2.2.2.2.2.2.2.2.1 == b.2.2.2.2.2.2.2.2.2.2.2.1 then
                    bif a.2.2.2.2.2.2.2.2.2.2.2.2.1 == b.2.2.2.2.2.2.2.2.2.2.2.2.1 then
                      bif a.2.2.2.2.2.2.2.2.2.2.2.2.2.1 == b.2.2.2.2.2.2.2.2.2.2.2.2.2.1 then
                        some ((decide (a.2.2.2.2.2.2.2.2.2.2.2.2.2.2.1.1 = b.2.2.2.2.2.2.2.2.2.2.2.2.2.2.1.1)) && ((decide (a.2.2.2.2.2.2.2.2.2.2.2.2.2.2.1.2 = b.2.2.2.2.2.2.2.2.2.2.2.2.2.2.1.2)) && true), ())
                      else some (false, ())
                    else some (false, ())
                  else some (false, ())
                else some (false, ())
              else some (false, ())
            else some (false, ())
          else some (false, ())
        else some (false, ())
      else some (false, ())
namespace wire_same
def fn (N : Nat) : Sh.den ins → Option (Sh.den outs) := fun (a, b, _) => wire_same.run N a b
def S (N : Nat) : Fs := ⟨ins, outs, fn N⟩
def lam (N : Nat) : Pcs := pcs [([true, false], (wire_same_0.P N).pc (C N)), ([true, true, false], (wire_same_1.P N).pc (C N))]
theorem pok (N : Nat) : (lam N).Ok Try.prog (C N) code := pcsOk_cons (c1 := wire_same_0.code) (by kernel_rfl) (wire_same_0.ok N) (pcsOk_cons (c1 := wire_same_1.code) (by kernel_rfl) (wire_same_1.ok N) (pcsOk_nil))
theorem ok (N : Nat) : (S N).con.Ok Try.prog 15 := okF (F := S N) [] Try.func15 (by kernel_rfl) (by rfl) mix (cok N) (pok N) fun _ => by kernel_rfl
end wire_same
namespace wire_Encode
def ins : Sh := s79
def C (N : Nat) : Ctx := ⟨U, 46, fun _ => true, gam [(10, (codec_New.S N).con), (11, (((wire_pipe_all_b.S N).con).or (wire_pipe_all.S N).con)), (12, (codec_Writer_Bytes.S N).con), (13, (codec_Read.S N).con), (14, (codec_Frame.S N).con), (15, (wire_same.S N).con)], gamY []⟩
theorem cok (N : Nat) : (C N).Ok Try.prog := ⟨U_ok, GamOk.cons (codec_New.ok N) (GamOk.cons (Con.or_ok (wire_pipe_all_b.ok N) (wire_pipe_all.ok N)) (GamOk.cons (codec_Writer_Bytes.ok N) (GamOk.cons (codec_Read.ok N) (GamOk.cons (codec_Frame.ok N) (GamOk.cons (wire_same.ok N) (GamOk.nil)))))), GamYOk.nil⟩
def code : Code := Try.f6.body.getD .skip
def outs : Sh := s22
end wire_Encode
def wire_Encode.run (N : Nat) (m : T53) : Option T17 :=
  obind (codec_New.run N) fun ((b, _), _) =>
    obind (wire_pipe_all.run N b false m.1 m.2.1 m.2.2.1 m.2.2.2.1 m.2.2.2.2.1 m.2.2.2.2.2.1 m.2.2.2.2.2.2.1 m.2.2.2.2.2.2.2.1 m.2.2.2.2.2.2.2.2.1 m.2.2.2.2.2.2.2.2.2.1 m.2.2.2.2.2.2.2.2.2.2.1 m.2.2.2.2.2.2.2.2.2.2.2.1 m.2.2.2.2.2.2.2.2.2.2.2.2.1 m.2.2.2.2.2.2.2.2.2.2.2.2.2.1 m.2.2.2.2.2.2.2.2.2.2.2.2.2.2.1.1 m.2.2.2.2.2.2.2.2.2.2.2.2.2.2.1.2 m.2.2.2.2.2.2.2.2.2.2.2.2.2.2.2.1.1 m.2.2.2.2.2.2.2.2.2.2.2.2.2.2.2.1.2 m.2.2.2.2.2.2.2.2.2.2.2.2.2.2.2.2) fun ((b1, _), (_, _, wrong, _), (kind, from_, to_, txn, base, epoch, since, mark, ask, attempt, node, yes, no, wiped, at_, at1, part, part1, versions, _), _) =>
      bif wrong then
        some (([] : List UInt8), (170 : Int), ())
      else
        obind (codec_Writer_Bytes.run N b1) fun (l, _) =>
          obind (codec_Read.run N l) fun ((b2, e, _), _) =>
            obind (wire_pipe_all_b.run N b2 e false (0 : Int) (0 : Int) (0 : Int) (0 : Int) (0 : Int) (0 : Int) (0 : Int) (0 : Int) (0 : Int) (0 : Int) (0 : Int) false false false (0 : Int) (0 : Int) ([] : List T7) ([] : List T8) ([] : List T6)) fun ((b3, e1, _), (_, _, wrong1, _), (kind1, from1, to1, txn1, base1, epoch1, since1, mark1, ask1, attempt1, node1, yes1, no1, wiped1, at2, at3, part2, part3, versions1, _), _) =>
              obind (codec_Frame.run N l) fun (l1, n_, _) =>
                bif !(decide (n_ = (0 : Int))) then
                  some (([] : List UInt8), (170 : Int), ())
                else
                  obind (wire_same.run N m (kind1, from1, to1, txn1, base1, epoch1, since1, mark1, ask1, attempt1, node1, yes1, no1, wiped1, (at2, at3), (part2, part3), versions1)) fun (b4, _) =>
                    bif !b4 then
                      some (([] : List UInt8), (170 : Int), ())
                    else some (l1, (0 : Int), ())
namespace wire_Encode
def fn (N : Nat) : Sh.den ins → Option (Sh.den outs) := fun (a, _) => wire_Encode.run N a
def S (N : Nat) : Fs := ⟨ins, outs, fn N⟩
def lam (N : Nat) : Pcs := pcs []
theorem pok (N : Nat) : (lam N).Ok Try.prog (C N) code := pcsOk_nil
theorem ok (N : Nat) : (S N).con.Ok Try.prog 6 := okF (F := S N) [] Try.func6 (by kernel_rfl) (by rfl) mix (cok N) (pok N) fun _ => by kernel_rfl
end wire_Encode
namespace codec_Sum_b
def ins : Sh := (.cons (.val (.slice .byte)) .nil)
def C (N : Nat) : Ctx := ⟨U, 54, fun _ => true, gam [], gamY []⟩
theorem cok (N : Nat) : (C N).Ok Try.prog := ⟨U_ok, GamOk.nil, GamYOk.nil⟩
def code : Code := Try.f27.body.getD .skip
def outs : Sh := (.cons (.val (.int .u32)) .nil)
end codec_Sum_b
namespace codec_Sum_b_0
def ins : Sh := s75
def ts : List Tmp := [3, 9]
def asg : List Tmp := [4, 5, 9, 10, 11, 12, 13, 14, 15, 16, 17, 18, 19, 20, 21, 22, 23, 24, 25, 26]
def C (N : Nat) : Ctx := { codec_Sum_b.C N with may := fun t => asg.any (Nat.beq t) }
def code : Code := loopBody (sub codec_Sum_b.code [true, true, false, true, false])
theorem cok (N : Nat) : (C N).Ok Try.prog := okC (codec_Sum_b.cok N) _
def alts : List Alt := [⟨(.exit 0), [], (.cons (.updr 0 105 (.int .u32)) .nil)⟩]
end codec_Sum_b_0
namespace codec_Sum_b_0_0
def ins : Sh := s76
def ts : List Tmp := [5, 14]
def asg : List Tmp := [5, 14, 15, 16, 17, 18, 19, 20, 21, 22]
def C (N : Nat) : Ctx := { codec_Sum_b_0.C N with may := fun t => asg.any (Nat.beq t) }
def code : Code := loopBody (sub codec_Sum_b_0.code [true, true, false, false, true, true, false, true, false])
theorem cok (N : Nat) : (C N).Ok Try.prog := okC (codec_Sum_b_0.cok N) _
def alts : List Alt := [⟨(.exit 2), [5], (.cons (.val (.int .u32)) .nil)⟩]
end codec_Sum_b_0_0
def codec_Sum_b_0_0.go (N : Nat) : Nat → Int → Int → Option ((Int × Unit))
  | 0, _, _ => none
  | fuel + 1, c, t14 =>
    bif decide (t14 < (4 : Int)) then
      codec_Sum_b_0_0.go N fuel (IntKind.u32.wrap ((BitVec.ofInt 32 (c.fdiv (2 : Int)) ^^^ BitVec.ofInt 32 (IntKind.u32.wrap ((3988292384 : Int) * (IntKind.u32.wrap ((BitVec.ofInt 32 c &&& BitVec.ofInt 32 (1 : Int)).toNat : Int))))).toNat : Int)) (IntKind.i64.wrap (t14 + (1 : Int)))
    else some (c, ())
namespace codec_Sum_b_0_0
def g (N n : Nat) : Sh.den ins → Option (altsDen alts) := fun (a, b, _) => codec_Sum_b_0_0.go N n a b
def P (N : Nat) : Ps := ⟨ts, ins, asg, alts, g N N⟩
def lam (N : Nat) : Pcs := pcs []
theorem pok (N : Nat) : (lam N).Ok Try.prog (C N) code := pcsOk_nil
theorem ok (N : Nat) : ((P N).pc (codec_Sum_b_0.C N)).Ok Try.prog (codec_Sum_b_0.C N) (.loop code) := okL (F := P N) (g N) (codec_Sum_b_0.cok N) mix (pok N) (fun _ => rfl) rfl fun _ _ => by kernel_rfl
end codec_Sum_b_0_0
def codec_Sum_b_0.go (N : Nat) : Nat → (List Int) → Int → Option (T43)
  | 0, _, _ => none
  | fuel + 1, half, t9 =>
    bif decide (t9 < (16 : Int)) then
      obind (codec_Sum_b_0_0.go N N (IntKind.u32.wrap t9) (0 : Int)) fun (c, _) =>
        bif inB t9 16 then
          bif decide (t9.toNat < half.length) then
            codec_Sum_b_0.go N fuel (half.set t9.toNat c) (IntKind.i64.wrap (t9 + (1 : Int)))
          else none
        else none
    else some (half, ())
namespace codec_Sum_b_0
def g (N n : Nat) : Sh.den ins → Option (altsDen alts) := fun (a, b, _) => codec_Sum_b_0.go N n a b
def P (N : Nat) : Ps := ⟨ts, ins, asg, alts, g N N⟩
def lam (N : Nat) : Pcs := pcs [([true, true, false, false, true, true, false, true, false], (codec_Sum_b_0_0.P N).pc (C N))]
theorem pok (N : Nat) : (lam N).Ok Try.prog (C N) code := pcsOk_cons (c1 := .loop codec_Sum_b_0_0.code) (by kernel_rfl) (codec_Sum_b_0_0.ok N) (pcsOk_nil)
theorem ok (N : Nat) : ((P N).pc (codec_Sum_b.C N)).Ok Try.prog (codec_Sum_b.C N) (.loop code) := okL (F := P N) (g N) (codec_Sum_b.cok N) mix (pok N) (fun _ => rfl) rfl fun _ _ => by kernel_rfl
end codec_Sum_b_0
namespace codec_Sum_b_1
def ins : Sh := (.cons (.arr 105 (.int .u32) 16) (.cons (.val (.int .u32)) (.cons (.val (.slice .byte)) s20)))
def ts : List Tmp := [3, 6, 27, 28, 29]
def asg : List Tmp := [6, 8, 29, 30, 31, 32, 33, 34, 35, 36, 37, 38, 39, 40, 41, 42, 43, 44, 45, 46, 47, 48, 49, 50, 51]
def C (N : Nat) : Ctx := { codec_Sum_b.C N with may := fun t => asg.any (Nat.beq t) }
def code : Code := loopBody (sub codec_Sum_b.code [true, true, true, true, false, true, false])
theorem cok (N : Nat) : (C N).Ok Try.prog := okC (codec_Sum_b.cok N) _
def alts : List Alt := [⟨(.exit 4), [6], (.cons (.val (.int .u32)) .nil)⟩]
end codec_Sum_b_1
def codec_Sum_b_1.go (N : Nat) : Nat → (List Int) → Int → (List UInt8) → Int → Int → Option ((Int × Unit))
  | 0, _, _, _, _, _ => none
  | fuel + 1, half, c, t27, t28, t29 =>
    bif decide (t29 < t28) then
      bif inB t29 t27.length then
        bif inB (IntKind.u32.wrap ((BitVec.ofInt 32 (IntKind.u32.wrap ((BitVec.ofInt 32 c ^^^ BitVec.ofInt 32 (IntKind.u32.wrap ((t27.getD t29.toNat (0 : UInt8)).toNat : Int))).toNat : Int)) &&& BitVec.ofInt 32 (15 : Int)).toNat : Int)) 16 then
          bif decide ((IntKind.u32.wrap ((BitVec.ofInt 32 (IntKind.u32.wrap ((BitVec.ofInt 32 c ^^^ BitVec.ofInt 32 (IntKind.u32.wrap ((t27.getD t29.toNat (0 : UInt8)).toNat : Int))).toNat : Int)) &&& BitVec.ofInt 32 (15 : Int)).toNat : Int)).toNat < half.length) then
            bif inB (IntKind.u32.wrap ((BitVec.ofInt 32 (IntKind.u32.wrap ((BitVec.ofInt 32 (half.getD (IntKind.u32.wrap ((BitVec.ofInt 32 (IntKind.u32.wrap ((BitVec.ofInt 32 c ^^^ BitVec.ofInt 32 (IntKind.u32.wrap ((t27.getD t29.toNat (0 : UInt8)).toNat : Int))).toNat : Int)) &&& BitVec.ofInt 32 (15 : Int)).toNat : Int)).toNat (0 : Int)) ^^^ BitVec.ofInt 32 ((IntKind.u32.wrap ((BitVec.ofInt 32 c ^^^ BitVec.ofInt 32 (IntKind.u32.wrap ((t27.getD t29.toNat (0 : UInt8)).toNat : Int))).toNat : Int)).fdiv (16 : Int))).toNat : Int)) &&& BitVec.ofInt 32 (15 : Int)).toNat : Int)) 16 then
              bif decide ((IntKind.u32.wrap ((BitVec.ofInt 32 (IntKind.u32.wrap ((BitVec.ofInt 32 (half.getD (IntKind.u32.wrap ((BitVec.ofInt 32 (IntKind.u32.wrap ((BitVec.ofInt 32 c ^^^ BitVec.ofInt 32 (IntKind.u32.wrap ((t27.getD t29.toNat (0 : UInt8)).toNat : Int))).toNat : Int)) &&& BitVec.ofInt 32 (15 : Int)).toNat : Int)).toNat (0 : Int)) ^^^ BitVec.ofInt 32 ((IntKind.u32.wrap ((BitVec.ofInt 32 c ^^^ BitVec.ofInt 32 (IntKind.u32.wrap ((t27.getD t29.toNat (0 : UInt8)).toNat : Int))).toNat : Int)).fdiv (16 : Int))).toNat : Int)) &&& BitVec.ofInt 32 (15 : Int)).toNat : Int)).toNat < half.length) then
                codec_Sum_b_1.go N fuel half (IntKind.u32.wrap ((BitVec.ofInt 32 (half.getD (IntKind.u32.wrap ((BitVec.ofInt 32 (IntKind.u32.wrap ((BitVec.ofInt 32 (half.getD (IntKind.u32.wrap ((BitVec.ofInt 32 (IntKind.u32.wrap ((BitVec.ofInt 32 c ^^^ BitVec.ofInt 32 (IntKind.u32.wrap ((t27.getD t29.toNat (0 : UInt8)).toNat : Int))).toNat : Int)) &&& BitVec.ofInt 32 (15 : Int)).toNat : Int)).toNat (0 : Int)) ^^^ BitVec.ofInt 32 ((IntKind.u32.wrap ((BitVec.ofInt 32 c ^^^ BitVec.ofInt 32 (IntKind.u32.wrap ((t27.getD t29.toNat (0 : UInt8)).toNat : Int))).toNat : Int)).fdiv (16 : Int))).toNat : Int)) &&& BitVec.ofInt 32 (15 : Int)).toNat : Int)).toNat (0 : Int)) ^^^ BitVec.ofInt 32 ((IntKind.u32.wrap ((BitVec.ofInt 32 (half.getD (IntKind.u32.wrap ((BitVec.ofInt 32 (IntKind.u32.wrap ((BitVec.ofInt 32 c ^^^ BitVec.ofInt 32 (IntKind.u32.wrap ((t27.getD t29.toNat (0 : UInt8)).toNat : Int))).toNat : Int)) &&& BitVec.ofInt 32 (15 : Int)).toNat : Int)).toNat (0 : Int)) ^^^ BitVec.ofInt 32 ((IntKind.u32.wrap ((BitVec.ofInt 32 c ^^^ BitVec.ofInt 32 (IntKind.u32.wrap ((t27.getD t29.toNat (0 : UInt8)).toNat : Int))).toNat : Int)).fdiv (16 : Int))).toNat : Int)).fdiv (16 : Int))).toNat : Int)) t27 t28 (IntKind.i64.wrap (t29 + (1 : Int)))
              else none
            else none
          else none
        else none
      else none
    else some (c, ())
namespace codec_Sum_b_1
def g (N n : Nat) : Sh.den ins → Option (altsDen alts) := fun (a, b, c, d, e, _) => codec_Sum_b_1.go N n a b c d e
def P (N : Nat) : Ps := ⟨ts, ins, asg, alts, g N N⟩
def lam (N : Nat) : Pcs := pcs []
theorem pok (N : Nat) : (lam N).Ok Try.prog (C N) code := pcsOk_nil
theorem ok (N : Nat) : ((P N).pc (codec_Sum_b.C N)).Ok Try.prog (codec_Sum_b.C N) (.loop code) := okL (F := P N) (g N) (codec_Sum_b.cok N) mix (pok N) (fun _ => rfl) rfl fun _ _ => by kernel_rfl
end codec_Sum_b_1
def codec_Sum_b.run (N : Nat) (b : (List UInt8)) : Option (Int × Unit) :=
  obind (codec_Sum_b_0.go N N (List.replicate 16 (0 : Int)) (0 : Int)) fun (v, _) =>
    obind (codec_Sum_b_1.go N N v (4294967295 : Int) b (b.length : Int) (0 : Int)) fun (c, _) =>
      some (IntKind.u32.wrap ((BitVec.ofInt 32 (4294967295 : Int) ^^^ BitVec.ofInt 32 c).toNat : Int), ())
namespace codec_Sum_b
def fn (N : Nat) : Sh.den ins → Option (Sh.den outs) := fun (a, _) => codec_Sum_b.run N a
def S (N : Nat) : Fs := ⟨ins, outs, fn N⟩
def lam (N : Nat) : Pcs := pcs [([true, true, false, true, false], (codec_Sum_b_0.P N).pc (C N)), ([true, true, true, true, false, true, false], (codec_Sum_b_1.P N).pc (C N))]
theorem pok (N : Nat) : (lam N).Ok Try.prog (C N) code := pcsOk_cons (c1 := .loop codec_Sum_b_0.code) (by kernel_rfl) (codec_Sum_b_0.ok N) (pcsOk_cons (c1 := .loop codec_Sum_b_1.code) (by kernel_rfl) (codec_Sum_b_1.ok N) (pcsOk_nil))
theorem ok (N : Nat) : (S N).con.Ok Try.prog 27 := okF (F := S N) [] Try.func27 (by kernel_rfl) (by rfl) mix (cok N) (pok N) fun _ => by kernel_rfl
end codec_Sum_b
namespace codec_Read_b
def ins : Sh := (.cons (.val (.slice .byte)) .nil)
def C (N : Nat) : Ctx := ⟨U, 7, fun _ => true, gam [(25, (slices_Clone_byte_byte_b.S N).con)], gamY []⟩
theorem cok (N : Nat) : (C N).Ok Try.prog := ⟨U_ok, GamOk.cons (slices_Clone_byte_byte_b.ok N) (GamOk.nil), GamYOk.nil⟩
def code : Code := Try.f13.body.getD .skip
def outs : Sh := (.cons (.box 68 s44) .nil)
end codec_Read_b
def codec_Read_b.run (N : Nat) (b : (List UInt8)) : Option (T17 × Unit) :=
  obind (slices_Clone_byte_byte_b.run N b) fun (l, _) =>
    some ((l, (0 : Int), ()), ())
namespace codec_Read_b
def fn (N : Nat) : Sh.den ins → Option (Sh.den outs) := fun (a, _) => codec_Read_b.run N a
def S (N : Nat) : Fs := ⟨ins, outs, fn N⟩
def lam (N : Nat) : Pcs := pcs []
theorem pok (N : Nat) : (lam N).Ok Try.prog (C N) code := pcsOk_nil
theorem ok (N : Nat) : (S N).con.Ok Try.prog 13 := okF (F := S N) [] Try.func13 (by kernel_rfl) (by rfl) mix (cok N) (pok N) fun _ => by kernel_rfl
end codec_Read_b
namespace codec_Unframe
def ins : Sh := (.cons (.val (.slice .byte)) .nil)
def C (N : Nat) : Ctx := ⟨U, 51, fun _ => true, gam [(13, (codec_Read_b.S N).con), (34, (codec_Reader_Word.S N).con), (27, (((codec_Sum.S N).con).or (codec_Sum_b.S N).con)), (35, (codec_Reader_Raw.S N).con)], gamY []⟩
theorem cok (N : Nat) : (C N).Ok Try.prog := ⟨U_ok, GamOk.cons (codec_Read_b.ok N) (GamOk.cons (codec_Reader_Word.ok N) (GamOk.cons (Con.or_ok (codec_Sum.ok N) (codec_Sum_b.ok N)) (GamOk.cons (codec_Reader_Raw.ok N) (GamOk.nil)))), GamYOk.nil⟩
def code : Code := Try.f16.body.getD .skip
def outs : Sh := (.cons (.own 5 .byte) s20)
end codec_Unframe
def codec_Unframe.run (N : Nat) (b : (List UInt8)) : Option T54 :=
  obind (codec_Read_b.run N b) fun ((b1, e, _), _) =>
    obind (codec_Reader_Word.run N b1 e) fun ((b2, e1, _), n_, _) =>
      obind (codec_Reader_Word.run N b2 e1) fun ((b3, e2, _), n1, _) =>
        bif !(decide (e2 = (0 : Int))) then
          some (([] : List UInt8), (0 : Int), (10 : Int), ())
        else
          bif okB (0 : Int) (4 : Int) b.length then
            obind (codec_Sum_b.run N (b.take 4)) fun (n2, _) =>
              bif !(decide (n1 = n2)) then
                some (([] : List UInt8), (0 : Int), (14 : Int), ())
              else
                bif decide (n_ > (16777216 : Int)) then
                  some (([] : List UInt8), (0 : Int), (12 : Int), ())
                else
                  obind (codec_Reader_Raw.run N b3 e2 (IntKind.i64.wrap n_)) fun ((b4, e3, _), l, _) =>
                    obind (codec_Reader_Word.run N b4 e3) fun ((b5, e4, _), n3, _) =>
                      bif !(decide (e4 = (0 : Int))) then
                        some (([] : List UInt8), (0 : Int), (10 : Int), ())
                      else
                        obind (codec_Sum.run N l) fun (n4, _) =>
                          bif !(decide (n3 = n4)) then
                            some (([] : List UInt8), (0 : Int), (14 : Int), ())
                          else some (l, IntKind.i64.wrap ((IntKind.i64.wrap n_) + (12 : Int)), (0 : Int), ())
          else none
namespace codec_Unframe
def fn (N : Nat) : Sh.den ins → Option (Sh.den outs) := fun (a, _) => codec_Unframe.run N a
def S (N : Nat) : Fs := ⟨ins, outs, fn N⟩
def lam (N : Nat) : Pcs := pcs []
theorem pok (N : Nat) : (lam N).Ok Try.prog (C N) code := pcsOk_nil
theorem ok (N : Nat) : (S N).con.Ok Try.prog 16 := okF (F := S N) [] Try.func16 (by kernel_rfl) (by rfl) mix (cok N) (pok N) fun _ => by kernel_rfl
end codec_Unframe
namespace codec_Reader_End
def ins : Sh := (.cons (.rbox 68 s44) .nil)
def C (N : Nat) : Ctx := ⟨U, 20, fun _ => true, gam [], gamY []⟩
theorem cok (N : Nat) : (C N).Ok Try.prog := ⟨U_ok, GamOk.nil, GamYOk.nil⟩
def code : Code := Try.f17.body.getD .skip
def outs : Sh := (.cons (.val (.int .i64)) .nil)
end codec_Reader_End
def codec_Reader_End.run (N : Nat) (b : (List UInt8)) (e : Int) : Option (Int × Unit) :=
  bif decide (e = (0 : Int)) then
    bif decide ((b.length : Int) > (0 : Int)) then
      some ((13 : Int), ())
    else some (e, ())
  else some (e, ())
namespace codec_Reader_End
def fn (N : Nat) : Sh.den ins → Option (Sh.den outs) := fun ((a, b, _), _) => codec_Reader_End.run N a b
def S (N : Nat) : Fs := ⟨ins, outs, fn N⟩
def lam (N : Nat) : Pcs := pcs []
theorem pok (N : Nat) : (lam N).Ok Try.prog (C N) code := pcsOk_nil
theorem ok (N : Nat) : (S N).con.Ok Try.prog 17 := okF (F := S N) [] Try.func17 (by kernel_rfl) (by rfl) mix (cok N) (pok N) fun _ => by kernel_rfl
end codec_Reader_End
namespace wire_Decode
def ins : Sh := (.cons (.val (.slice .byte)) .nil)
def C (N : Nat) : Ctx := ⟨U, 44, fun _ => true, gam [(16, (codec_Unframe.S N).con), (13, (codec_Read.S N).con), (11, (wire_pipe_all_b.S N).con), (17, (codec_Reader_End.S N).con)], gamY []⟩
theorem cok (N : Nat) : (C N).Ok Try.prog := ⟨U_ok, GamOk.cons (codec_Unframe.ok N) (GamOk.cons (codec_Read.ok N) (GamOk.cons (wire_pipe_all_b.ok N) (GamOk.cons (codec_Reader_End.ok N) (GamOk.nil)))), GamYOk.nil⟩
def code : Code := Try.f7.body.getD .skip
def outs : Sh := s82
end wire_Decode
def wire_Decode.run (N : Nat) (b : (List UInt8)) : Option T55 :=
  obind (codec_Unframe.run N b) fun (l, n_, n1, _) =>
    bif !(decide (n1 = (0 : Int))) then
      some (((0 : Int), (0 : Int), (0 : Int), (0 : Int), (0 : Int), (0 : Int), (0 : Int), (0 : Int), (0 : Int), (0 : Int), (0 : Int), false, false, false, ((0 : Int), (0 : Int)), (([] : List T7), ([] : List T8)), ([] : List T6)), (170 : Int), ())
    else
      bif !(decide (n_ = (b.length : Int))) then
        some (((0 : Int), (0 : Int), (0 : Int), (0 : Int), (0 : Int), (0 : Int), (0 : Int), (0 : Int), (0 : Int), (0 : Int), (0 : Int), false, false, false, ((0 : Int), (0 : Int)), (([] : List T7), ([] : List T8)), ([] : List T6)), (170 : Int), ())
      else
        obind (codec_Read.run N l) fun ((b1, e, _), _) =>
          obind (wire_pipe_all_b.run N b1 e false (0 : Int) (0 : Int) (0 : Int) (0 : Int) (0 : Int) (0 : Int) (0 : Int) (0 : Int) (0 : Int) (0 : Int) (0 : Int) false false false (0 : Int) (0 : Int) ([] : List T7) ([] : List T8) ([] : List T6)) fun ((b2, e1, _), (_, _, wrong, _), (kind, from_, to_, txn, base, epoch, since, mark, ask, attempt, node, yes, no, wiped, at_, at1, part, part1, versions, _), _) =>
            bif wrong then
              some (((0 : Int), (0 : Int), (0 : Int), (0 : Int), (0 : Int), (0 : Int), (0 : Int), (0 : Int), (0 : Int), (0 : Int), (0 : Int), false, false, false, ((0 : Int), (0 : Int)), (([] : List T7), ([] : List T8)), ([] : List T6)), (170 : Int), ())
            else
              obind (codec_Reader_End.run N b2 e1) fun (n2, _) =>
                bif !(decide (n2 = (0 : Int))) then
                  some (((0 : Int), (0 : Int), (0 : Int), (0 : Int), (0 : Int), (0 : Int), (0 : Int), (0 : Int), (0 : Int), (0 : Int), (0 : Int), false, false, false, ((0 : Int), (0 : Int)), (([] : List T7), ([] : List T8)), ([] : List T6)), (170 : Int), ())
                else some ((kind, from_, to_, txn, base, epoch, since, mark, ask, attempt, node, yes, no, wiped, (at_, at1), (part, part1), versions), (0 : Int), ())
namespace wire_Decode
def fn (N : Nat) : Sh.den ins → Option (Sh.den outs) := fun (a, _) => wire_Decode.run N a
def S (N : Nat) : Fs := ⟨ins, outs, fn N⟩
def lam (N : Nat) : Pcs := pcs []
theorem pok (N : Nat) : (lam N).Ok Try.prog (C N) code := pcsOk_nil
theorem ok (N : Nat) : (S N).con.Ok Try.prog 7 := okF (F := S N) [] Try.func7 (by kernel_rfl) (by rfl) mix (cok N) (pok N) fun _ => by kernel_rfl
end wire_Decode
namespace ref_Same_36
def ins : Sh := s77
def C (N : Nat) : Ctx := ⟨U, 45, fun _ => true, gam [], gamY []⟩
theorem cok (N : Nat) : (C N).Ok Try.prog := ⟨U_ok, GamOk.nil, GamYOk.nil⟩
def code : Code := Try.f36.body.getD .skip
def outs : Sh := (.cons (.val .bool) .nil)
end ref_Same_36
namespace ref_Same_36_0
def ins : Sh := (.cons (.rbox 78 s14) (.cons (.rbox 78 s14) (.cons (.val (.int .i64)) .nil)))
def ts : List Tmp := [2, 3, 5]
def asg : List Tmp := [4, 5, 27, 28, 29, 30, 31, 32, 33, 34, 35, 36, 37, 38, 39, 40, 41, 42, 43, 44]
def C (N : Nat) : Ctx := { ref_Same_36.C N with may := fun t => asg.any (Nat.beq t) }
def code : Code := loopBody (sub ref_Same_36.code [true, true, false, true, false])
theorem cok (N : Nat) : (C N).Ok Try.prog := okC (ref_Same_36.cok N) _
def alts : List Alt := [⟨.ret, [4], (.cons (.val .bool) .nil)⟩, ⟨(.exit 0), [], .nil⟩]
end ref_Same_36_0
def ref_Same_36_0.go (N : Nat) : Nat → Int → Int → (List T4) → Int → Int → Int → (List T4) → Int → Int → Option T16
  | 0, _, _, _, _, _, _, _, _, _ => none
  | fuel + 1, id_, id1, row, deleted, id2, id3, row1, deleted1, i =>
    bif decide (i < (row.length : Int)) then
      bif inB i row.length then
        bif inB i row1.length then
          bif !((decide ((row.getD i.toNat ((0 : Int), false, (0 : Int), ([] : List UInt8))).1 = (row1.getD i.toNat ((0 : Int), false, (0 : Int), ([] : List UInt8))).1)) && (((row.getD i.toNat ((0 : Int), false, (0 : Int), ([] : List UInt8))).2.1 == (row1.getD i.toNat ((0 : Int), false, (0 : Int), ([] : List UInt8))).2.1) && ((decide ((row.getD i.toNat ((0 : Int), false, (0 : Int), ([] : List UInt8))).2.2.1 = (row1.getD i.toNat ((0 : Int), false, (0 : Int), ([] : List UInt8))).2.2.1)) && ((decide ((row.getD i.toNat ((0 : Int), false, (0 : Int), ([] : List UInt8))).2.2.2 = (row1.getD i.toNat ((0 : Int), false, (0 : Int), ([] : List UInt8))).2.2.2)) && true)))) then
            some (.inl (false, ()))
          else ref_Same_36_0.go N fuel id_ id1 row deleted id2 id3 row1 deleted1 (IntKind.i64.wrap (i + (1 : Int)))
        else none
      else none
    else some (.inr ())
namespace ref_Same_36_0
def g (N n : Nat) : Sh.den ins → Option (altsDen alts) := fun ((a, b, c, d, _), (e, f, g, h, _), i, _) => ref_Same_36_0.go N n a b c d e f g h i
def P (N : Nat) : Ps := ⟨ts, ins, asg, alts, g N N⟩
def lam (N : Nat) : Pcs := pcs []
theorem pok (N : Nat) : (lam N).Ok Try.prog (C N) code := pcsOk_nil
theorem ok (N : Nat) : ((P N).pc (ref_Same_36.C N)).Ok Try.prog (ref_Same_36.C N) (.loop code) := okL (F := P N) (g N) (ref_Same_36.cok N) mix (pok N) (fun _ => rfl) rfl fun _ _ => by kernel_rfl
end ref_Same_36_0
def ref_Same_36.run (N : Nat) (a : T6) (b : T6) : Option (Bool × Unit) :=
  bif !((decide (a.1.1 = b.1.1)) && ((decide (a.1.2 = b.1.2)) && true)) then
    some (false, ())
  else
    bif !(decide (a.2.2 = b.2.2)) then
      some (false, ())
    else
      bif !(decide ((a.2.1.length : Int) = (b.2.1.length : Int))) then
        some (false, ())
      else
        obind (ref_Same_36_0.go N N a.1.1 a.1.2 a.2.1 a.2.2 b.1.1 b.1.2 b.2.1 b.2.2 (0 : Int)) fun y => match y with
        | .inl (t4, _) =>
            some (t4, ())
        | .inr (_) =>
            some (true, ())
namespace ref_Same_36
def fn (N : Nat) : Sh.den ins → Option (Sh.den outs) := fun (a, b, _) => ref_Same_36.run N a b
def S (N : Nat) : Fs := ⟨ins, outs, fn N⟩
def lam (N : Nat) : Pcs := pcs [([true, true, false, true, false], (ref_Same_36_0.P N).pc (C N))]
theorem pok (N : Nat) : (lam N).Ok Try.prog (C N) code := pcsOk_cons (c1 := .loop ref_Same_36_0.code) (by kernel_rfl) (ref_Same_36_0.ok N) (pcsOk_nil)
theorem ok (N : Nat) : (S N).con.Ok Try.prog 36 := okF (F := S N) [] Try.func36 (by kernel_rfl) (by rfl) mix (cok N) (pok N) fun _ => by kernel_rfl
end ref_Same_36
namespace ref_samePart
def ins : Sh := (.cons (.val (.pair (.slice (.pair (.pair (.int .i64) (.int .i64)) (.pair (.pair (.int .u64) (.int .u32)) (.pair (.slice (.pair (.int .i64) (.pair .bool (.pair (.int .i64) .str)))) (.int .u64))))) (.slice (.pair (.pair (.int .i64) (.int .i64)) (.pair (.int .u64) (.int .u32)))))) (.cons (.val (.pair (.slice (.pair (.pair (.int .i64) (.int .i64)) (.pair (.pair (.int .u64) (.int .u32)) (.pair (.slice (.pair (.int .i64) (.pair .bool (.pair (.int .i64) .str)))) (.int .u64))))) (.slice (.pair (.pair (.int .i64) (.int .i64)) (.pair (.int .u64) (.int .u32)))))) .nil))
def C (N : Nat) : Ctx := ⟨U, 77, fun _ => true, gam [(36, (ref_Same_36.S N).con)], gamY []⟩
theorem cok (N : Nat) : (C N).Ok Try.prog := ⟨U_ok, GamOk.cons (ref_Same_36.ok N) (GamOk.nil), GamYOk.nil⟩
def code : Code := Try.f18.body.getD .skip
def outs : Sh := (.cons (.val .bool) .nil)
end ref_samePart
namespace ref_samePart_0
def ins : Sh := s84
def ts : List Tmp := [2, 3, 5]
def asg : List Tmp := [4, 5, 23, 24, 25, 26, 27, 28, 29, 30, 31, 32, 33, 34, 35, 36, 37, 38, 39, 40, 41, 42, 43, 44, 45, 46, 47, 48, 49, 50, 51, 52, 53, 54, 55, 56, 57, 58]
def C (N : Nat) : Ctx := { ref_samePart.C N with may := fun t => asg.any (Nat.beq t) }
def code : Code := loopBody (sub ref_samePart.code [true, true, false, true, false])
theorem cok (N : Nat) : (C N).Ok Try.prog := okC (ref_samePart.cok N) _
def alts : List Alt := [⟨.ret, [4], (.cons (.val .bool) .nil)⟩, ⟨(.exit 0), [], .nil⟩]
end ref_samePart_0
def ref_samePart_0.go (N : Nat) : Nat → (List T7) → (List T8) → (List T7) → (List T8) → Int → Option T16
  | 0, _, _, _, _, _ => none
  | fuel + 1, inserts, erases, inserts1, erases1, i =>
    bif decide (i < (inserts.length : Int)) then
      bif inB i inserts.length then
        bif inB i inserts1.length then
          bif !((decide ((inserts.getD i.toNat (((0 : Int), (0 : Int)), ((0 : Int), (0 : Int)), ([] : List T4), (0 : Int))).1.1 = (inserts1.getD i.toNat (((0 : Int), (0 : Int)), ((0 : Int), (0 : Int)), ([] : List T4), (0 : Int))).1.1)) && ((decide ((inserts.getD i.toNat (((0 : Int), (0 : Int)), ((0 : Int), (0 : Int)), ([] : List T4), (0 : Int))).1.2 = (inserts1.getD i.toNat (((0 : Int), (0 : Int)), ((0 : Int), (0 : Int)), ([] : List T4), (0 : Int))).1.2)) && true)) then
            some (.inl (false, ()))
          else
            bif inB i inserts.length then
              bif inB i inserts1.length then
                obind (ref_Same_36.run N (inserts.getD i.toNat (((0 : Int), (0 : Int)), ((0 : Int), (0 : Int)), ([] : List T4), (0 : Int))).2 (inserts1.getD i.toNat (((0 : Int), (0 : Int)), ((0 : Int), (0 : Int)), ([] : List T4), (0 : Int))).2) fun (b, _) =>
                  bif !b then
                    some (.inl (false, ()))
                  else ref_samePart_0.go N fuel inserts erases inserts1 erases1 (IntKind.i64.wrap (i + (1 : Int)))
              else none
            else none
        else none
      else none
    else some (.inr ())
namespace ref_samePart_0
def g (N n : Nat) : Sh.den ins → Option (altsDen alts) := fun ((a, b, _), (c, d, _), e, _) => ref_samePart_0.go N n a b c d e
def P (N : Nat) : Ps := ⟨ts, ins, asg, alts, g N N⟩
def lam (N : Nat) : Pcs := pcs []
theorem pok (N : Nat) : (lam N).Ok Try.prog (C N) code := pcsOk_nil
theorem ok (N : Nat) : ((P N).pc (ref_samePart.C N)).Ok Try.prog (ref_samePart.C N) (.loop code) := okL (F := P N) (g N) (ref_samePart.cok N) mix (pok N) (fun _ => rfl) rfl fun _ _ => by kernel_rfl
end ref_samePart_0
namespace ref_samePart_1
def ins : Sh := s84
def ts : List Tmp := [2, 3, 6]
def asg : List Tmp := [4, 6, 59, 60, 61, 62, 63, 64, 65, 66, 67, 68, 69, 70, 71, 72, 73, 74, 75, 76]
def C (N : Nat) : Ctx := { ref_samePart.C N with may := fun t => asg.any (Nat.beq t) }
def code : Code := loopBody (sub ref_samePart.code [true, true, true, false, true, false])
theorem cok (N : Nat) : (C N).Ok Try.prog := okC (ref_samePart.cok N) _
def alts : List Alt := [⟨.ret, [4], (.cons (.val .bool) .nil)⟩, ⟨(.exit 2), [], .nil⟩]
end ref_samePart_1
def ref_samePart_1.go (N : Nat) : Nat → (List T7) → (List T8) → (List T7) → (List T8) → Int → Option T16
  | 0, _, _, _, _, _ => none
  | fuel + 1, inserts, erases, inserts1, erases1, i =>
    bif decide (i < (erases.length : Int)) then
      bif inB i erases.length then
        bif inB i erases1.length then
          bif !(((decide ((erases.getD i.toNat (((0 : Int), (0 : Int)), (0 : Int), (0 : Int))).1.1 = (erases1.getD i.toNat (((0 : Int), (0 : Int)), (0 : Int), (0 : Int))).1.1)) && ((decide ((erases.getD i.toNat (((0 : Int), (0 : Int)), (0 : Int), (0 : Int))).1.2 = (erases1.getD i.toNat (((0 : Int), (0 : Int)), (0 : Int), (0 : Int))).1.2)) && true)) && (((decide ((erases.getD i.toNat (((0 : Int), (0 : Int)), (0 : Int), (0 : Int))).2.1 = (erases1.getD i.toNat (((0 : Int), (0 : Int)), (0 : Int), (0 : Int))).2.1)) && ((decide ((erases.getD i.toNat (((0 : Int), (0 : Int)), (0 : Int), (0 : Int))).2.2 = (erases1.getD i.toNat (((0 : Int), (0 : Int)), (0 : Int), (0 : Int))).2.2)) && true)) && true)) then
            some (.inl (false, ()))
          else ref_samePart_1.go N fuel inserts erases inserts1 erases1 (IntKind.i64.wrap (i + (1 : Int)))
        else none
      else none
    else some (.inr ())
namespace ref_samePart_1
def g (N n : Nat) : Sh.den ins → Option (altsDen alts) := fun ((a, b, _), (c, d, _), e, _) => ref_samePart_1.go N n a b c d e
def P (N : Nat) : Ps := ⟨ts, ins, asg, alts, g N N⟩
def lam (N : Nat) : Pcs := pcs []
theorem pok (N : Nat) : (lam N).Ok Try.prog (C N) code := pcsOk_nil
theorem ok (N : Nat) : ((P N).pc (ref_samePart.C N)).Ok Try.prog (ref_samePart.C N) (.loop code) := okL (F := P N) (g N) (ref_samePart.cok N) mix (pok N) (fun _ => rfl) rfl fun _ _ => by kernel_rfl
end ref_samePart_1
def ref_samePart.run (N : Nat) (a : T44) (b : T44) : Option (Bool × Unit) :=
  bif !(decide ((a.1.length : Int) = (b.1.length : Int))) then
    some (false, ())
  else
    bif !(decide ((a.2.length : Int) = (b.2.length : Int))) then
      some (false, ())
    else
      obind (ref_samePart_0.go N N a.1 a.2 b.1 b.2 (0 : Int)) fun y => match y with
      | .inl (t4, _) =>
          some (t4, ())
      | .inr (_) =>
          obind (ref_samePart_1.go N N a.1 a.2 b.1 b.2 (0 : Int)) fun y => match y with
          | .inl (t41, _) =>
              some (t41, ())
          | .inr (_) =>
              some (true, ())
namespace ref_samePart
def fn (N : Nat) : Sh.den ins → Option (Sh.den outs) := fun (a, b, _) => ref_samePart.run N a b
def S (N : Nat) : Fs := ⟨ins, outs, fn N⟩
def lam (N : Nat) : Pcs := pcs [([true, true, false, true, false], (ref_samePart_0.P N).pc (C N)), ([true, true, true, false, true, false], (ref_samePart_1.P N).pc (C N))]
theorem pok (N : Nat) : (lam N).Ok Try.prog (C N) code := pcsOk_cons (c1 := .loop ref_samePart_0.code) (by kernel_rfl) (ref_samePart_0.ok N) (pcsOk_cons (c1 := .loop ref_samePart_1.code) (by kernel_rfl) (ref_samePart_1.ok N) (pcsOk_nil))
theorem ok (N : Nat) : (S N).con.Ok Try.prog 18 := okF (F := S N) [] Try.func18 (by kernel_rfl) (by rfl) mix (cok N) (pok N) fun _ => by kernel_rfl
end ref_samePart
namespace ref_SameAll
def ins : Sh := (.cons (.val (.slice (.pair (.pair (.int .u64) (.int .u32)) (.pair (.slice (.pair (.int .i64) (.pair .bool (.pair (.int .i64) .str)))) (.int .u64))))) s6)
def C (N : Nat) : Ctx := ⟨U, 27, fun _ => true, gam [(36, (ref_Same_36.S N).con)], gamY []⟩
theorem cok (N : Nat) : (C N).Ok Try.prog := ⟨U_ok, GamOk.cons (ref_Same_36.ok N) (GamOk.nil), GamYOk.nil⟩
def code : Code := Try.f19.body.getD .skip
def outs : Sh := (.cons (.val .bool) .nil)
end ref_SameAll
namespace ref_SameAll_0
def ins : Sh := (.cons (.val (.slice (.pair (.pair (.int .u64) (.int .u32)) (.pair (.slice (.pair (.int .i64) (.pair .bool (.pair (.int .i64) .str)))) (.int .u64))))) (.cons (.val (.slice (.pair (.pair (.int .u64) (.int .u32)) (.pair (.slice (.pair (.int .i64) (.pair .bool (.pair (.int .i64) .str)))) (.int .u64))))) (.cons (.val (.int .i64)) .nil)))
def ts : List Tmp := [0, 1, 5]
def asg : List Tmp := [4, 5, 11, 12, 13, 14, 15, 16, 17, 18, 19, 20, 21, 22, 23, 24, 25, 26]
def C (N : Nat) : Ctx := { ref_SameAll.C N with may := fun t => asg.any (Nat.beq t) }
def code : Code := loopBody (sub ref_SameAll.code [true, true, false, true, false])
theorem cok (N : Nat) : (C N).Ok Try.prog := okC (ref_SameAll.cok N) _
def alts : List Alt := [⟨.ret, [4], (.cons (.val .bool) .nil)⟩, ⟨(.exit 0), [], .nil⟩]
end ref_SameAll_0
def ref_SameAll_0.go (N : Nat) : Nat → (List T6) → (List T6) → Int → Option T16
  | 0, _, _, _ => none
  | fuel + 1, a, b, i =>
    bif decide (i < (a.length : Int)) then
      bif inB i a.length then
        bif inB i b.length then
          obind (ref_Same_36.run N (a.getD i.toNat (((0 : Int), (0 : Int)), ([] : List T4), (0 : Int))) (b.getD i.toNat (((0 : Int), (0 : Int)), ([] : List T4), (0 : Int)))) fun (b1, _) =>
            bif !b1 then
              some (.inl (false, ()))
            else ref_SameAll_0.go N fuel a b (IntKind.i64.wrap (i + (1 : Int)))
        else none
      else none
    else some (.inr ())
namespace ref_SameAll_0
def g (N n : Nat) : Sh.den ins → Option (altsDen alts) := fun (a, b, c, _) => ref_SameAll_0.go N n a b c
def P (N : Nat) : Ps := ⟨ts, ins, asg, alts, g N N⟩
def lam (N : Nat) : Pcs := pcs []
theorem pok (N : Nat) : (lam N).Ok Try.prog (C N) code := pcsOk_nil
theorem ok (N : Nat) : ((P N).pc (ref_SameAll.C N)).Ok Try.prog (ref_SameAll.C N) (.loop code) := okL (F := P N) (g N) (ref_SameAll.cok N) mix (pok N) (fun _ => rfl) rfl fun _ _ => by kernel_rfl
end ref_SameAll_0
def ref_SameAll.run (N : Nat) (a : (List T6)) (b : (List T6)) : Option (Bool × Unit) :=
  bif !(decide ((a.length : Int) = (b.length : Int))) then
    some (false, ())
  else
    obind (ref_SameAll_0.go N N a b (0 : Int)) fun y => match y with
    | .inl (t4, _) =>
        some (t4, ())
    | .inr (_) =>
        some (true, ())
namespace ref_SameAll
def fn (N : Nat) : Sh.den ins → Option (Sh.den outs) := fun (a, b, _) => ref_SameAll.run N a b
def S (N : Nat) : Fs := ⟨ins, outs, fn N⟩
def lam (N : Nat) : Pcs := pcs [([true, true, false, true, false], (ref_SameAll_0.P N).pc (C N))]
theorem pok (N : Nat) : (lam N).Ok Try.prog (C N) code := pcsOk_cons (c1 := .loop ref_SameAll_0.code) (by kernel_rfl) (ref_SameAll_0.ok N) (pcsOk_nil)
theorem ok (N : Nat) : (S N).con.Ok Try.prog 19 := okF (F := S N) [] Try.func19 (by kernel_rfl) (by rfl) mix (cok N) (pok N) fun _ => by kernel_rfl
end ref_SameAll
namespace ref_Same
def ins : Sh := s80
def C (N : Nat) : Ctx := ⟨U, 118, fun _ => true, gam [(18, (ref_samePart.S N).con), (19, (ref_SameAll.S N).con)], gamY []⟩
theorem cok (N : Nat) : (C N).Ok Try.prog := ⟨U_ok, GamOk.cons (ref_samePart.ok N) (GamOk.cons (ref_SameAll.ok N) (GamOk.nil)), GamYOk.nil⟩
def code : Code := Try.f8.body.getD .skip
def outs : Sh := (.cons (.val .bool) .nil)
end ref_Same
def ref_Same.run (N : Nat) (a : T53) (b : T53) : Option (Bool × Unit) :=
  bif !(decide (a.1 = b.1)) then
    some (false, ())
  else
    bif !(decide (a.2.1 = b.2.1)) then
      some (false, ())
    else
      bif !(decide (a.2.2.1 = b.2.2.1)) then
        some (false, ())
      else
        bif !(decide (a.2.2.2.1 = b.2.2.2.1)) then
          some (false, ())
        else
          bif !(decide (a.2.2.2.2.1 = b.2.2.2.2.1)) then
            some (false, ())
          else
            bif !(decide (a.2.2.2.2.2.1 = b.2.2.2.2.2.1)) then
              some (false, ())
            else
              bif !(decide (a.2.2.2.2.2.2.1 = b.2.2.2.2.2.2.1)) then
                some (false, ())
              else
                bif !(decide (a.2.2.2.2.2.2.2.1 = b.2.2.2.2.2.2.2.1)) then
                  some (false, ())
                else
                  bif !(decide (a.2.2.2.2.2.2.2.2.1 = b.2.2.2.2.2.2.2.2.1)) then
                    some (false, ())
                  else
                    bif !(decide (a.2.2.2.2.2.2.2.2.2.1 = b.2.2.2.2.2.2.2.2.2.1)) then
                      some (false, ())
                    else
                      bif !(decide (a.2.2.2.2.2.2.2.2.2.2.1 = b.2.2.2.2.2.2.2.2.2.2.1)) then
                        some (false, ())
                      else
                        bif !(a.2.2.2.2.2.2.2.2.2.2.2.1 == b.2.2.2.2.2.2.2.2.2.2.2.1) then
                          some (false, ())
                        else
                          bif !(a.2.2.2.2.2.2.2.2.2.2.2.2.1 == b.2.2.2.2.2.2.2.2.2.2.2.2.1) then
                            some (false, ())
                          else
                            bif !(a.2.2.2.2.2.2.2.2.2.2.2.2.2.1 == b.2.2.2.2.2.2.2.2.2.2.2.2.2.1) then
                              some (false, ())
                            else
                              bif !((decide (a.2.2.2.2.2.2.2.2.2.2.2.2.2.2.1.1 = b.2.2.2.2.2.2.2.2.2.2.2.2.2.2.1.1)) && ((decide (a.2.2.2.2.2.2.2.2.2.2.2.2.2.2.1.2 = b.2.2.2.2.2.2.2.2.2.2.2.2.2.2.1.2)) && true)) then
                                some (false, ())
                              else
                                obind (ref_samePart.run N a.2.2.2.2.2.2.2.2.2.2.2.2.2.2.2.1 b.2.2.2.2.2.2.2.2.2.2.2.2.2.2.2.1) fun (b1, _) =>
                                  bif b1 then
                                    obind (ref_SameAll.run N a.2.2.2.2.2.2.2.2.2.2.2.2.2.2.2.2 b.2.2.2.2.2.2.2.2.2.2.2.2.2.2.2.2) fun (b2, _) =>
                                      some (b2, ())
                                  else some (false, ())
namespace ref_Same
def fn (N : Nat) : Sh.den ins → Option (Sh.den outs) := fun (a, b, _) => ref_Same.run N a b
def S (N : Nat) : Fs := ⟨ins, outs, fn N⟩
def lam (N : Nat) : Pcs := pcs []
theorem pok (N : Nat) : (lam N).Ok Try.prog (C N) code := pcsOk_nil
theorem ok (N : Nat) : (S N).con.Ok Try.prog 8 := okF (F := S N) [] Try.func8 (by kernel_rfl) (by rfl) mix (cok N) (pok N) fun _ => by kernel_rfl
end ref_Same
namespace wire_Right
def ins : Sh := s79
def C (N : Nat) : Ctx := ⟨U, 12, fun _ => true, gam [(6, (wire_Encode.S N).con)], gamY []⟩
theorem cok (N : Nat) : (C N).Ok Try.prog := ⟨U_ok, GamOk.cons (wire_Encode.ok N) (GamOk.nil), GamYOk.nil⟩
def code : Code := Try.f20.body.getD .skip
def outs : Sh := (.cons (.val .bool) .nil)
end wire_Right
def wire_Right.run (N : Nat) (m : T53) : Option (Bool × Unit) :=
  obind (wire_Encode.run N m) fun (l, n_, _) =>
    some (decide (n_ = (0 : Int)), ())
namespace wire_Right
def fn (N : Nat) : Sh.den ins → Option (Sh.den outs) := fun (a, _) => wire_Right.run N a
def S (N : Nat) : Fs := ⟨ins, outs, fn N⟩
def lam (N : Nat) : Pcs := pcs []
theorem pok (N : Nat) : (lam N).Ok Try.prog (C N) code := pcsOk_nil
theorem ok (N : Nat) : (S N).con.Ok Try.prog 20 := okF (F := S N) [] Try.func20 (by kernel_rfl) (by rfl) mix (cok N) (pok N) fun _ => by kernel_rfl
end wire_Right
namespace law_alive
def ins : Sh := .nil
def C (N : Nat) : Ctx := ⟨U, 64, fun _ => true, gam [(6, (wire_Encode.S N).con), (7, (wire_Decode.S N).con), (20, (wire_Right.S N).con)], gamY []⟩
theorem cok (N : Nat) : (C N).Ok Try.prog := ⟨U_ok, GamOk.cons (wire_Encode.ok N) (GamOk.cons (wire_Decode.ok N) (GamOk.cons (wire_Right.ok N) (GamOk.nil))), GamYOk.nil⟩
def code : Code := Try.f9.body.getD .skip
def outs : Sh := (.cons (.val .bool) .nil)
end law_alive
def law_alive.run (N : Nat)  : Option (Bool × Unit) :=
  obind (wire_Encode.run N ((11 : Int), (2 : Int), (1 : Int), (0 : Int), (0 : Int), (0 : Int), (0 : Int), (5 : Int), (0 : Int), (0 : Int), (0 : Int), false, false, false, ((0 : Int), (0 : Int)), (([] : List T7), ([] : List T8)), ([] : List T6))) fun (l, n_, _) =>
    obind (wire_Decode.run N l) fun (v, n1, _) =>
      bif decide (n_ = (0 : Int)) then
        bif decide ((l.length : Int) = (23 : Int)) then
          bif inB (8 : Int) l.length then
            bif decide (((l.getD 8 (0 : UInt8)).toNat : Int) = (11 : Int)) then
              bif inB (9 : Int) l.length then
                bif decide (((l.getD 9 (0 : UInt8)).toNat : Int) = (2 : Int)) then
                  bif inB (10 : Int) l.length then
                    bif decide (((l.getD 10 (0 : UInt8)).toNat : Int) = (1 : Int)) then
                      bif inB (18 : Int) l.length then
                        bif decide (((l.getD 18 (0 : UInt8)).toNat : Int) = (5 : Int)) then
                          bif decide (n1 = (0 : Int)) then
                            bif decide (v.2.2.2.2.2.2.2.1 = (5 : Int)) then
                              bif decide (v.2.1 = (2 : Int)) then
                                obind (wire_Right.run N v) fun (b, _) =>
                                  some (b, ())
                              else some (false, ())
                            else some (false, ())
                          else some (false, ())
                        else some (false, ())
                      else none
                    else some (false, ())
                  else none
                else some (false, ())
              else none
            else some (false, ())
          else none
        else some (false, ())
      else some (false, ())
namespace law_alive
def fn (N : Nat) : Sh.den ins → Option (Sh.den outs) := fun _ => law_alive.run N
def S (N : Nat) : Fs := ⟨ins, outs, fn N⟩
def lam (N : Nat) : Pcs := pcs []
theorem pok (N : Nat) : (lam N).Ok Try.prog (C N) code := pcsOk_nil
theorem ok (N : Nat) : (S N).con.Ok Try.prog 9 := okF (F := S N) [] Try.func9 (by kernel_rfl) (by rfl) mix (cok N) (pok N) fun _ => by kernel_rfl
end law_alive
namespace law_WireBack
def ins : Sh := (.cons (.val (.pair (.int .i64) (.pair (.int .i64) (.pair (.int .i64) (.pair (.int .u64) (.pair (.int .u64) (.pair (.int .u64) (.pair (.int .u64) (.pair (.int .u64) (.pair (.int .u64) (.pair (.int .u64) (.pair (.int .i64) (.pair .bool (.pair .bool (.pair .bool (.pair (.pair (.int .i64) (.int .i64)) (.pair (.pair (.slice (.pair (.pair (.int .i64) (.int .i64)) (.pair (.pair (.int .u64) (.int .u32)) (.pair (.slice (.pair (.int .i64) (.pair .bool (.pair (.int .i64) .str)))) (.int .u64))))) (.slice (.pair (.pair (.int .i64) (.int .i64)) (.pair (.int .u64) (.int .u32))))) (.slice (.pair (.pair (.int .u64) (.int .u32)) (.pair (.slice (.pair (.int .i64) (.pair .bool (.pair (.int .i64) .str)))) (.int .u64))))))))))))))))))))) (.cons (.val (.slice .byte)) .nil))
def C (N : Nat) : Ctx := ⟨U, 67, fun _ => true, gam [(6, (wire_Encode.S N).con), (7, (wire_Decode.S N).con), (8, (ref_Same.S N).con), (9, (law_alive.S N).con)], gamY []⟩
theorem cok (N : Nat) : (C N).Ok Try.prog := ⟨U_ok, GamOk.cons (wire_Encode.ok N) (GamOk.cons (wire_Decode.ok N) (GamOk.cons (ref_Same.ok N) (GamOk.cons (law_alive.ok N) (GamOk.nil)))), GamYOk.nil⟩
def code : Code := Try.f3.body.getD .skip
def outs : Sh := (.cons (.val .bool) .nil)
end law_WireBack
namespace law_WireBack_0
def ins : Sh := (.cons (.rbox 31 s7) s22)
def ts : List Tmp := [2, 5, 6]
def asg : List Tmp := [4, 7, 8, 18, 19, 20, 21, 22, 23, 24, 25, 26, 27, 28, 29, 30, 31, 32]
def C (N : Nat) : Ctx := { law_WireBack.C N with may := fun t => asg.any (Nat.beq t) }
def code : Code := (sub law_WireBack.code [true, true, false]).getD .skip
theorem cok (N : Nat) : (C N).Ok Try.prog := okC (law_WireBack.cok N) _
def alts : List Alt := [⟨.normal, [], .nil⟩, ⟨.ret, [4], (.cons (.val .bool) .nil)⟩]
end law_WireBack_0
def law_WireBack_0.run (N : Nat) (kind : Int) (from_ : Int) (to_ : Int) (txn : Int) (base : Int) (epoch : Int) (since : Int) (mark : Int) (ask : Int) (attempt : Int) (node : Int) (yes : Bool) (no : Bool) (wiped : Bool) (at_ : Int) (at1 : Int) (part : (List T7)) (part1 : (List T8)) (versions : (List T6)) (b : (List UInt8)) (e : Int) : Option T56 :=
  bif decide (e = (0 : Int)) then
    obind (wire_Decode.run N b) fun (v, n_, _) =>
      bif !(decide (n_ = (0 : Int))) then
        some (.inr (false, ()))
      else
        obind (ref_Same.run N v (kind, from_, to_, txn, base, epoch, since, mark, ask, attempt, node, yes, no, wiped, (at_, at1), (part, part1), versions)) fun (b1, _) =>
          bif !b1 then
            some (.inr (false, ()))
          else some (.inl ())
  else some (.inl ())
namespace law_WireBack_0
def fn (N : Nat) : Sh.den ins → Option (altsDen alts) := fun ((a, b, c, d, e, f, g, h, i, j, k, l, m, o, p, q, r, s, t, _), u, v, _) => law_WireBack_0.run N a b c d e f g h i j k l m o p q r s t u v
def P (N : Nat) : Ps := ⟨ts, ins, asg, alts, fn N⟩
def lam (N : Nat) : Pcs := pcs []
theorem pok (N : Nat) : (lam N).Ok Try.prog (C N) code := pcsOk_nil
theorem ok (N : Nat) : ((P N).pc (law_WireBack.C N)).Ok Try.prog (law_WireBack.C N) code := okP (F := P N) (law_WireBack.cok N) mix (pok N) fun _ => by kernel_rfl
end law_WireBack_0
def law_WireBack.run (N : Nat) (m : T53) (raw : (List UInt8)) : Option (Bool × Unit) :=
  obind (wire_Encode.run N m) fun (l, n_, _) =>
    obind (law_WireBack_0.run N m.1 m.2.1 m.2.2.1 m.2.2.2.1 m.2.2.2.2.1 m.2.2.2.2.2.1 m.2.2.2.2.2.2.1 m.2.2.2.2.2.2.2.1 m.2.2.2.2.2.2.2.2.1 m.2.2.2.2.2.2.2.2.2.1 m.2.2.2.2.2.2.2.2.2.2.1 m.2.2.2.2.2.2.2.2.2.2.2.1 m.2.2.2.2.2.2.2.2.2.2.2.2.1 m.2.2.2.2.2.2.2.2.2.2.2.2.2.1 m.2.2.2.2.2.2.2.2.2.2.2.2.2.2.1.1 m.2.2.2.2.2.2.2.2.2.2.2.2.2.2.1.2 m.2.2.2.2.2.2.2.2.2.2.2.2.2.2.2.1.1 m.2.2.2.2.2.2.2.2.2.2.2.2.2.2.2.1.2 m.2.2.2.2.2.2.2.2.2.2.2.2.2.2.2.2 l n_) fun y => match y with
    | .inl _ =>
        obind (wire_Decode.run N raw) fun (v1, n2, _) =>
          bif !(decide (n2 = (0 : Int))) then
            obind (law_alive.run N) fun (b1, _) =>
              bif b1 then
                bif decide (n2 = (170 : Int)) then
                  obind (ref_Same.run N v1 ((0 : Int), (0 : Int), (0 : Int), (0 : Int), (0 : Int), (0 : Int), (0 : Int), (0 : Int), (0 : Int), (0 : Int), (0 : Int), false, false, false, ((0 : Int), (0 : Int)), (([] : List T7), ([] : List T8)), ([] : List T6))) fun (b2, _) =>
                    some (b2, ())
                else some (false, ())
              else some (false, ())
          else
            obind (wire_Encode.run N v1) fun (l1, n3, _) =>
              obind (law_alive.run N) fun (b3, _) =>
                bif b3 then
                  bif decide (n3 = (0 : Int)) then
                    some (decide (l1 = raw), ())
                  else some (false, ())
                else some (false, ())
    | .inr (t4, _) =>
        some (t4, ())
namespace law_WireBack
def fn (N : Nat) : Sh.den ins → Option (Sh.den outs) := fun (a, b, _) => law_WireBack.run N a b
def S (N : Nat) : Fs := ⟨ins, outs, fn N⟩
def lam (N : Nat) : Pcs := pcs [([true, true, false], (law_WireBack_0.P N).pc (C N))]
theorem pok (N : Nat) : (lam N).Ok Try.prog (C N) code := pcsOk_cons (c1 := law_WireBack_0.code) (by kernel_rfl) (law_WireBack_0.ok N) (pcsOk_nil)
theorem ok (N : Nat) : (S N).con.Ok Try.prog 3 := okF (F := S N) [] Try.func3 (by kernel_rfl) (by rfl) mix (cok N) (pok N) fun _ => by kernel_rfl
end law_WireBack
namespace law_WireTurned
def ins : Sh := s82
def C (N : Nat) : Ctx := ⟨U, 84, fun _ => true, gam [(9, (law_alive.S N).con), (6, (wire_Encode.S N).con), (7, ((((wire_Decode.S N).con.lend 0 false)).or (wire_Decode.S N).con))], gamY []⟩
theorem cok (N : Nat) : (C N).Ok Try.prog := ⟨U_ok, GamOk.cons (law_alive.ok N) (GamOk.cons (wire_Encode.ok N) (GamOk.cons (Con.or_ok (Con.lend_ok (q := 0) (own := false) (wire_Decode.ok N)) (wire_Decode.ok N)) (GamOk.nil))), GamYOk.nil⟩
def code : Code := Try.f4.body.getD .skip
def outs : Sh := (.cons (.val .bool) .nil)
end law_WireTurned
def law_WireTurned.run (N : Nat) (m : T53) (at_ : Int) : Option (Bool × Unit) :=
  obind (law_alive.run N) fun (b, _) =>
    bif !b then
      some (false, ())
    else
      obind (wire_Encode.run N m) fun (l, n_, _) =>
        bif !(decide (n_ = (0 : Int))) then
          obind (law_alive.run N) fun (b1, _) =>
            bif b1 then
              some (decide ((l.length : Int) = (0 : Int)), ())
            else some (false, ())
        else
          bif room l.length 1 then
            bif room (l.length + 1) 1 then
              obind (wire_Decode.run N (l ++ ([(0 : UInt8)] : List UInt8))) fun (v, n1, _) =>
                bif okB (0 : Int) (IntKind.i64.wrap ((l.length : Int) - (1 : Int))) l.length then
                  obind (wire_Decode.run N ((l.drop 0).take ((IntKind.i64.wrap ((l.length : Int) - (1 : Int))) - (0 : Int)).toNat)) fun (v1, n2, _) =>
                    bif !(decide (n1 = (170 : Int))) then
                      some (false, ())
                    else
                      bif !(decide (n2 = (170 : Int))) then
                        some (false, ())
                      else
                        bif decide (at_ < (0 : Int)) then
                          obind (law_alive.run N) fun (b2, _) =>
                            some (b2, ())
                        else
                          bif decide ((IntKind.i64.wrap (at_.tdiv (8 : Int))) ≥ (l.length : Int)) then
                            obind (law_alive.run N) fun (b3, _) =>
                              some (b3, ())
                          else
                            bif inB (IntKind.i64.wrap (at_.tdiv (8 : Int))) l.length then
                              bif decide ((IntKind.i64.wrap (at_.tdiv (8 : Int))).toNat < l.length) then
                                bif decide ((0 : Int) ≤ (at_.tmod (8 : Int))) then
                                  bif inB (IntKind.i64.wrap (at_.tdiv (8 : Int))) l.length then
                                    bif decide ((IntKind.i64.wrap (at_.tdiv (8 : Int))).toNat < l.length) then
                                      obind (wire_Decode.run N (l.set (IntKind.i64.wrap (at_.tdiv (8 : Int))).toNat (Hay.u8 (IntKind.u8.wrap ((BitVec.ofInt 8 ((l.getD (IntKind.i64.wrap (at_.tdiv (8 : Int))).toNat (0 : UInt8)).toNat : Int) ^^^ BitVec.ofInt 8 (IntKind.u8.wrap ((1 : Int) * (2 ^ (min (at_.tmod (8 : Int)).toNat 8))))).toNat : Int))))) fun (v2, n3, _) =>
                                        obind (law_alive.run N) fun (b4, _) =>
                                          bif b4 then
                                            some (decide (n3 = (170 : Int)), ())
                                          else some (false, ())
                                    else none
                                  else none
                                else none
                              else none
                            else none
                else none
            else none
          else none
namespace law_WireTurned
def fn (N : Nat) : Sh.den ins → Option (Sh.den outs) := fun (a, b, _) => law_WireTurned.run N a b
def S (N : Nat) : Fs := ⟨ins, outs, fn N⟩
def lam (N : Nat) : Pcs := pcs []
theorem pok (N : Nat) : (lam N).Ok Try.prog (C N) code := pcsOk_nil
theorem ok (N : Nat) : (S N).con.Ok Try.prog 4 := okF (F := S N) [] Try.func4 (by kernel_rfl) (by rfl) mix (cok N) (pok N) fun _ => by kernel_rfl
end law_WireTurned
namespace law_WireUnlike
def ins : Sh := s80
def C (N : Nat) : Ctx := ⟨U, 39, fun _ => true, gam [(6, (wire_Encode.S N).con), (9, (law_alive.S N).con), (8, (ref_Same.S N).con)], gamY []⟩
theorem cok (N : Nat) : (C N).Ok Try.prog := ⟨U_ok, GamOk.cons (wire_Encode.ok N) (GamOk.cons (law_alive.ok N) (GamOk.cons (ref_Same.ok N) (GamOk.nil))), GamYOk.nil⟩
def code : Code := Try.f5.body.getD .skip
def outs : Sh := (.cons (.val .bool) .nil)
end law_WireUnlike
def law_WireUnlike.run (N : Nat) (m : T53) (o : T53) : Option (Bool × Unit) :=
  obind (wire_Encode.run N m) fun (l, n_, _) =>
    obind (wire_Encode.run N o) fun (l1, n1, _) =>
      obind (law_alive.run N) fun (b, _) =>
        bif b then
          bif !(decide (n_ = (0 : Int))) then
            some (true, ())
          else
            bif !(decide (n1 = (0 : Int))) then
              some (true, ())
            else
              obind (ref_Same.run N m o) fun (b1, _) =>
                some ((decide (l = l1)) == b1, ())
        else some (false, ())
namespace law_WireUnlike
def fn (N : Nat) : Sh.den ins → Option (Sh.den outs) := fun (a, b, _) => law_WireUnlike.run N a b
def S (N : Nat) : Fs := ⟨ins, outs, fn N⟩
def lam (N : Nat) : Pcs := pcs []
theorem pok (N : Nat) : (lam N).Ok Try.prog (C N) code := pcsOk_nil
theorem ok (N : Nat) : (S N).con.Ok Try.prog 5 := okF (F := S N) [] Try.func5 (by kernel_rfl) (by rfl) mix (cok N) (pok N) fun _ => by kernel_rfl
end law_WireUnlike
end
end Go.Hay.Ytpgamibdlinhjaa
