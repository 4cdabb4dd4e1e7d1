/- How long a message's bytes are at most, by how much the message counts; numbers that fit. Conditions: none. -/
import Derived.Test.YtpgamibdlinhjaaGreatLwg
set_option linter.unusedVariables false
set_option linter.unusedSimpArgs false
namespace Go.Hay.YtpgamibdlinhjaaGreat
open Go Go.Hay Go.Proofs

abbrev TV : Ty := .pair (.int .i64) (.pair .bool (.pair (.int .i64) .str))
abbrev TVer : Ty := .pair (.pair (.int .u64) (.int .u32)) (.pair (.slice TV) (.int .u64))
abbrev TIns : Ty := .pair (.pair (.int .i64) (.int .i64)) TVer
abbrev TErs : Ty := .pair (.pair (.int .i64) (.int .i64)) (.pair (.int .u64) (.int .u32))
abbrev TM : Ty := .pair (.int .i64) (.pair (.int .i64) (.pair (.int .i64) (.pair (.int .u64) (.pair (.int .u64) (.pair (.int .u64) (.pair (.int .u64) (.pair (.int .u64) (.pair (.int .u64) (.pair (.int .u64) (.pair (.int .i64) (.pair .bool (.pair .bool (.pair .bool
  (.pair (.pair (.int .i64) (.int .i64)) (.pair (.pair (.slice TIns) (.slice TErs)) (.slice TVer))))))))))))))))
theorem blk_V (v : V) : blk TV v = v.2.2.2.length + 4 := by
  simp only [blk]
  omega
theorem fC133 {T : Ty} (x : T.den) (l : List T.den) : blk (.slice T) (x :: l) = blk T x + blk (.slice T) l := by simp [blk]; omega
theorem fD152 {v : V} (h : Rw.right v = true) : (Rw.enc1 v).length ≤ 3 * blk TV v := by
  rw [blk_V]
  rcases Rw.fD78 h with rfl | ⟨c, rfl⟩ | ⟨n, rfl⟩ | ⟨s, rfl, hs⟩ <;> simp [Rw.enc1, Rw.fB74] <;> omega
theorem fA131 : ∀ {l : List V}, l.all Rw.right = true → (Rw.encs l).length + 3 ≤ 3 * blk (.slice TV) l
  | [], _ => by simp [Rw.encs, blk]
  | v :: l, h => by
    simp only [List.all_cons, Bool.and_eq_true] at h
    have h1 := fA131 h.2
    have h2 := fD152 h.1
    have h3 : blk (.slice TV) (v :: l) = blk TV v + blk (.slice TV) l := fC133 (T := TV) v l
    have h4 : Rw.encs (v :: l) = Rw.enc1 v ++ Rw.encs l := by simp [Rw.encs]
    rw [h3, h4, List.length_append]
    omega
theorem fD131 (l : List V) : (wRow l).length ≤ 7 + 3 * blk (.slice TV) l := by
  unfold wRow
  have hp := blk_pos_slice TV l
  by_cases h : Rw.rights l = true
  · rw [if_pos h]
    have h1 := fA131 (Rw.fD79 h).1
    have h2 := fD146 (Rw.enc l)
    have h3 : (Rw.enc l).length = 1 + (Rw.encs l).length := by simp [Rw.enc]; omega
    omega
  · rw [if_neg h]
    have h2 : (textB []).length = 1 := rfl
    omega
theorem fB70 (n : Int) : (wPlace n).length ≤ 9 := (fA81 _).1
theorem fC147 (x : Ins) : (wIns x).length ≤ 8 * blk TIns x := by
  have h1 := fB70 x.1.1
  have h2 := fB70 x.1.2
  have h3 : (wWord x.2.1.2).length = 4 := fB10 _ _
  have h4 := fD131 x.2.2.1
  have h5 : blk TIns x = 1 + 1 + (1 + 1 + (blk (.slice TV) x.2.2.1 + 1)) := rfl
  have hp := blk_pos_slice TV x.2.2.1
  unfold wIns
  simp only [List.length_append]
  omega
theorem fB151 (x : Ers) : (wErs x).length ≤ 8 * blk TErs x := by
  have h1 := fB70 x.1.1
  have h2 := fB70 x.1.2
  have h3 : (wLong x.2.1).length = 8 := fB10 _ _
  have h4 : (wWord x.2.2).length = 4 := fB10 _ _
  have h5 : blk TErs x = 1 + 1 + (1 + 1) := rfl
  unfold wErs
  simp only [List.length_append]
  omega
theorem fB150 (x : Ver) : (wVer x).length ≤ 8 * blk TVer x := by
  have h1 : (wLong x.1.1).length = 8 := fB10 _ _
  have h2 : (wWord x.1.2).length = 4 := fB10 _ _
  have h3 : (wLong x.2.2).length = 8 := fB10 _ _
  have h4 := fD131 x.2.1
  have h5 : blk TVer x = 1 + 1 + (blk (.slice TV) x.2.1 + 1) := rfl
  have hp := blk_pos_slice TV x.2.1
  unfold wVer
  simp only [List.length_append]
  omega
theorem fD125 {T : Ty} {w : T.den → List UInt8} (hw : ∀ x, (w x).length ≤ 8 * blk T x) : ∀ l : List T.den, (l.flatMap w).length + 8 ≤ 8 * blk (.slice T) l
  | [] => by simp [blk]
  | x :: l => by
    have h1 := fD125 hw l
    have h2 := hw x
    rw [fC133, List.flatMap_cons, List.length_append]
    omega
theorem fD120 {T : Ty} {w : T.den → List UInt8} (hw : ∀ x, (w x).length ≤ 8 * blk T x) (l : List T.den) : (wList w l).length ≤ 1 + 8 * blk (.slice T) l := by
  have h1 := fD125 hw l
  have h2 := (fA81 l.length).1
  unfold wList
  rw [List.length_append]
  omega
theorem fC135 (k : Int) (f : Let → Nat) (h : ∀ c, c ≠ .p → c ≠ .v → f c ≤ 18) : ((fB1 k).map f).sum ≤ 90 + f .p + f .v := by
  have h1 := h .x (by decide) (by decide)
  have h2 := h .b (by decide) (by decide)
  have h3 := h .y (by decide) (by decide)
  have h4 := h .e (by decide) (by decide)
  have h5 := h .m (by decide) (by decide)
  have h6 := h .q (by decide) (by decide)
  have h7 := h .a (by decide) (by decide)
  have h8 := h .n (by decide) (by decide)
  have h9 := h .w (by decide) (by decide)
  have h10 := h .d (by decide) (by decide)
  have h11 := h .t (by decide) (by decide)
  have h12 := h .s (by decide) (by decide)
  have key : ∀ l : List Let, l = [.x, .b, .p] ∨ l = [.x, .y] ∨ l = [.e, .x] ∨ l = [.e, .m] ∨ l = [.q, .e, .a] ∨ l = [.q, .a, .n, .v] ∨ l = [.q, .e, .w] ∨ l = [.d, .t, .a, .s, .e] ∨ l = [.t, .a, .s, .e, .m, .v] ∨ l = [.t, .e] ∨ l = [.m] ∨ l = [.q] ∨ l = [] → (l.map f).sum ≤ 90 + f .p + f .v := by
    rintro l (rfl | rfl | rfl | rfl | rfl | rfl | rfl | rfl | rfl | rfl | rfl | rfl | rfl) <;> simp only [List.map_cons, List.map_nil, List.sum_cons, List.sum_nil] <;> omega
  apply key
  unfold fB1
  by_cases c1 : k = 1
  · rw [if_pos c1]; simp
  rw [if_neg c1]
  by_cases c2 : k = 2
  · rw [if_pos c2]; simp
  rw [if_neg c2]
  by_cases c3 : k = 3
  · rw [if_pos c3]; simp
  rw [if_neg c3]
  by_cases c4 : k = 4
  · rw [if_pos c4]; simp
  rw [if_neg c4]
  by_cases c5 : k = 5
  · rw [if_pos c5]; simp
  rw [if_neg c5]
  by_cases c6 : k = 6
  · rw [if_pos c6]; simp
  rw [if_neg c6]
  by_cases c7 : k = 7
  · rw [if_pos c7]; simp
  rw [if_neg c7]
  by_cases c8 : k = 8
  · rw [if_pos c8]; simp
  rw [if_neg c8]
  by_cases c9 : k = 9
  · rw [if_pos c9]; simp
  rw [if_neg c9]
  by_cases c10 : k = 10
  · rw [if_pos c10]; simp
  rw [if_neg c10]
  by_cases c11 : k = 11
  · rw [if_pos c11]; simp
  rw [if_neg c11]
  by_cases c12 : k = 12
  · rw [if_pos c12]; simp
  rw [if_neg c12]
  simp
theorem fw_len (m : Msg) (c : Let) (h1 : c ≠ .p) (h2 : c ≠ .v) : (fw c m).length ≤ 18 := by
  have hl : ∀ n : Int, (wLong n).length ≤ 18 := fun n => by have := fB10 8 n.toNat; unfold wLong; omega
  have hp1 := fB70 m.jO_.1
  have hp2 := fB70 m.jO_.2
  have hT : ∀ t : Bool, (wTruth t).length ≤ 18 := fun _ => show 1 ≤ 18 by omega
  cases c
  · exact hl _
  · exact hl _
  · exact absurd rfl h1
  · exact hT _
  · exact hl _
  · exact hl _
  · exact hl _
  · show (wPlace m.jO_.1 ++ wPlace m.jO_.2).length ≤ 18
    rw [List.length_append]; omega
  · exact hT _
  · exact absurd rfl h2
  · exact hT _
  · show 1 ≤ 18; omega
  · exact hl _
  · exact hl _
theorem fA151 (m : Msg) : (body m).length ≤ 100 + 8 * blk TM (den m) := by
  have h0 : blk TM (den m) = 1 + (1 + (1 + (1 + (1 + (1 + (1 + (1 + (1 + (1 + (1 + (1 + (1 + (1 + ((1 + 1) + ((blk (.slice TIns) m.jP + blk (.slice TErs) m.jP1) + blk (.slice TVer) m.jQ))))))))))))))) := rfl
  have h1 := fD120 (T := TIns) fC147 m.jP
  have h2 := fD120 (T := TErs) fB151 m.jP1
  have h3 := fD120 (T := TVer) fB150 m.jQ
  have h4 := fC135 m.jA (fun c => (fw c m).length) (fun c => fw_len m c)
  have h5 : (fw .p m).length = (wList wIns m.jP).length + (wList wErs m.jP1).length := List.length_append
  have h6 : (fw .v m).length = (wList wVer m.jQ).length := rfl
  have hB : ∀ n : Int, (wByte n).length = 1 := fun _ => rfl
  unfold body
  simp only [List.length_append, List.length_flatMap, hB]
  simp only [h5, h6] at h4
  omega
theorem fB136 {T : Ty} {l : List T.den} {x : T.den} {n : Nat} (hx : x ∈ l) (h : blk (.slice T) l ≤ n) : blk T x ≤ n := by have := blk_mem hx; omega
theorem fC140 (l : List V) {n : Nat} (h : blk (.slice TV) l ≤ n) : l.length ≤ n := by
  have := blk_len (T := TV) (fun v => by rw [blk_V]; omega) l
  omega
theorem u64_of {n : Int} (h : fits .u64 n = true) : U64 n := by simpa [fits, U64] using h
theorem u32_of {n : Int} (h : fits .u32 n = true) : U32 n := by simpa [fits, U32] using h
theorem i64_of {n : Int} (h : fits .i64 n = true) : I64 n := by simpa [fits, I64] using h
theorem fB140 {x : Ver} (h : wfT TVer x) : FVer x := ⟨u64_of h.1.1, u32_of h.1.2, fun v hv => Rw.fD151 (h.2.1 v hv).2.2.1, u64_of h.2.2⟩
theorem fD156 {x : Ins} (h : wfT TIns x) : FIns x := ⟨i64_of h.1.1, i64_of h.1.2, fB140 h.2⟩
theorem fA158 {x : Ers} (h : wfT TErs x) : FErs x := ⟨i64_of h.1.1, i64_of h.1.2, u64_of h.2.1, u32_of h.2.2⟩
/-- A message that is handed in. -/
theorem BM_of (m : Msg) (hw : wfT TM (den m)) (hb : blk TM (den m) ≤ 1048576) : BM m ∧ (body m).length ≤ 16777216 := by
  have h0 : blk TM (den m) = 1 + (1 + (1 + (1 + (1 + (1 + (1 + (1 + (1 + (1 + (1 + (1 + (1 + (1 + ((1 + 1) + ((blk (.slice TIns) m.jP + blk (.slice TErs) m.jP1) + blk (.slice TVer) m.jQ))))))))))))))) := rfl
  have hl := fA151 m
  have l1 := blk_len (T := TIns) (fun x => by simp only [blk]; omega) m.jP
  have l2 := blk_len (T := TErs) (fun x => by simp only [blk]; omega) m.jP1
  have l3 := blk_len (T := TVer) (fun x => by simp only [blk]; omega) m.jQ
  obtain ⟨f1, f2, f3, f4, f5, f6, f7, f8, f9, f10, f11, f12, f13, f14, f15, f16, f17⟩ := hw
  have fi : ∀ x ∈ m.jP, FIns x := fun x hx => fD156 (f16.1 x hx)
  have fe : ∀ x ∈ m.jP1, FErs x := fun x hx => fA158 (f16.2 x hx)
  have fv : ∀ x ∈ m.jQ, FVer x := fun x hx => fB140 (f17 x hx)
  refine ⟨⟨fun c => ?_, fun x hx => ⟨fi x hx, ?_⟩, fe, fun x hx => ⟨fv x hx, ?_⟩⟩, by omega⟩
  · cases c
    · exact u64_of f4
    · exact u64_of f5
    · exact ⟨⟨fi, by omega⟩, fe, by omega⟩
    · trivial
    · exact u64_of f6
    · exact u64_of f8
    · exact u64_of f9
    · exact ⟨i64_of f15.1, i64_of f15.2⟩
    · trivial
    · exact ⟨fv, by omega⟩
    · trivial
    · trivial
    · exact u64_of f10
    · exact u64_of f7
  · have h1 := fB136 (T := TIns) (n := 1048576) hx (by omega)
    have h5 : blk TIns x = 1 + 1 + (1 + 1 + (blk (.slice TV) x.2.2.1 + 1)) := rfl
    exact fC140 _ (by omega)
  · have h1 := fB136 (T := TVer) (n := 1048576) hx (by omega)
    have h5 : blk TVer x = 1 + 1 + (blk (.slice TV) x.2.1 + 1) := rfl
    exact fC140 _ (by omega)
end Go.Hay.YtpgamibdlinhjaaGreat
