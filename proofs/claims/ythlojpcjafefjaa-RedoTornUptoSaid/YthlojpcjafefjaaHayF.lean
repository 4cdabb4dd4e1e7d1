/- The evaluator of reading operations is right, third part. -/
import Derived.Test.YthlojpcjafefjaaHayE
set_option linter.unusedVariables false
set_option linter.unusedSimpArgs false
namespace Go.Hay
open Go.RowKit
section
variable {P : Program} {U : TEnv} {c : Cf} {w : World} {lk : Lk} {ρ : Operand → Option AV} {e : Operand → Value}

theorem equal_of {t : TypeId} {u v : Value} {b : Bool} (h : ∀ d, (Op.equalIn (d + 2) t u v).run P w = .ok b w) : (Op.equal t u v).run P w = .ok b w := h 9998

/-- Two values that are compared: the guard lets them through, and == says 'b'. -/
def SameRun (P : Program) (w : World) (t : TypeId) (u v : Value) (b : Bool) : Prop :=
  (∀ op x y, (eqGuard op t x y u v).run P w = .ok () w) ∧ (Op.equal t u v).run P w = .ok b w ∧ (∀ op, op = .eql → binOp op t u v = (do pure (.bool (← Op.equal t u v)))) ∧ (∀ op, op = .neq → binOp op t u v = (do pure (.bool (!(← Op.equal t u v)))))

theorem eqCell_ok [Sites] (hU : U.Ok P) {t : TypeId} {x y : AV} {u v : Value} {b : Bool} (h : eqCell (U t).k x y = some b) (hx : VR c w x u) (hy : VR c w y v) (d : Nat) :
    (isAgg t).run P w = .ok false w ∧ (Op.equalIn (d + 1) t u v).run P w = .ok b w := by
  unfold eqCell at h
  split at h
  · rename_i k' k a k2 b' hk
    have hu := (hU t (by simp [hk])).1
    simp only [TD.kindOk, hk] at hu
    simp only [VR] at hx hy
    cases hik : ikEq k k2 with
    | false => simp [hik] at h
    | true =>
      have := ikEq_eq hik
      subst this
      simp only [hik, cond_true, Option.some.injEq] at h
      refine ⟨by simp [isAgg, run_underlying hu], ?_⟩
      rw [hx.1, hy.1, run_equalIn_int (P := P) w d t k k' a b' hu, ← h]
      by_cases e : a = b' <;> simp [e]
  · rename_i a b' hk
    have hu := (hU t (by simp [hk])).1
    simp only [TD.kindOk, hk] at hu
    simp only [VR] at hx hy
    simp only [Option.some.injEq] at h
    exact ⟨by simp [isAgg, run_underlying hu], by rw [hx, hy, run_equalIn_bool' (P := P) w d t a b' hu, h]⟩
  · rename_i a b' hk
    have hu := (hU t (by simp [hk])).1
    simp only [TD.kindOk, hk] at hu
    simp only [VR] at hx hy
    simp only [Option.some.injEq] at h
    refine ⟨by simp [isAgg, run_underlying hu], ?_⟩
    rw [hx.1, hy.1, run_equalIn_string (P := P) w d t _ _ hu, bytes_list, bytes_list, ← h]
    by_cases e : a = b' <;> simp [e]
  · cases h

/-- Cells of basic kinds that are compared. -/
theorem eqLoop [Sites] (hU : U.Ok P) (d : Nat) : ∀ (Fs : List Field) (i : Nat) (xs ys : List AV) (us vs pre pre' : List Value) (b : Bool), pre.length = i → pre'.length = i →
    Fs.all (fun f => f.name != "_") = true → eqCells U i (Fs.map fun f => (f.type, f.offset)) xs ys = some b → VRs c w xs us → VRs c w ys vs →
    (Op.eqFields (d + 1) (pre ++ us).toArray (pre' ++ vs).toArray Fs).run P w = .ok b w
  | [], i, xs, ys, us, vs, pre, pre', b, h1, h2, hn, he, hx, hy => by
    cases xs <;> cases ys <;> simp only [List.map_nil, eqCells, Option.some.injEq, reduceCtorEq] at he
    subst he
    simp [Op.eqFields]
  | F :: Fs, i, xs, ys, us, vs, pre, pre', b, h1, h2, hn, he, hx, hy => by
    simp only [List.all_cons, Bool.and_eq_true, bne_iff_ne, ne_eq] at hn
    cases xs with
    | nil => simp [eqCells] at he
    | cons x xs =>
      cases ys with
      | nil => simp [eqCells] at he
      | cons y ys =>
        simp only [List.map_cons, eqCells] at he
        cases hb : Nat.beq F.offset i with
        | false => simp [hb] at he
        | true =>
          simp only [hb, cond_true] at he
          have hoff := Nat.eq_of_beq_eq_true hb
          simp only [VRs] at hx hy
          obtain ⟨u, us', rfl, hx1, hx2⟩ := hx
          obtain ⟨v, vs', rfl, hy1, hy2⟩ := hy
          split at he
          · rename_i b1 b2 e1 e2
            simp only [Option.some.injEq] at he
            subst he
            obtain ⟨hagg, heq⟩ := eqCell_ok (P := P) (c := c) (w := w) hU e1 hx1 hy1 d
            have hp1 : (part F.type (pre ++ u :: us').toArray F.offset).run P w = .ok u w := by
              simp [part, hagg, hoff, ← h1]
            have hp2 : (part F.type (pre' ++ v :: vs').toArray F.offset).run P w = .ok v w := by
              simp [part, hagg, hoff, ← h2]
            have hne : ¬ (F.name = "_") := hn.1
            have ih := eqLoop hU d Fs (i + 1) xs ys us' vs' (pre ++ [u]) (pre' ++ [v]) b2 (by simp [h1]) (by simp [h2]) hn.2 e2 hx2 hy2
            rw [List.append_assoc, List.append_assoc] at ih
            simp only [List.singleton_append] at ih
            simp only [Op.eqFields, ne_eq, hne, not_false_eq_true, if_true, Sem.run_bind, hp1, hp2, Result.andThen_ok, heq]
            cases b1 with
            | false => simp
            | true => simpa using ih
          · cases he

theorem fields_of {t : TypeId} {fs : List (TypeId × Nat)} (h : (P.underlying t).bind fieldsOf = some fs) :
    P.underlying t = some (.struct (P.fieldsOf t)) ∧ fs = (P.fieldsOf t).toList.map fun f => (f.type, f.offset) := by
  cases hu : P.underlying t with
  | none => simp [hu] at h
  | some D =>
    simp only [hu, Option.bind_some] at h
    cases D <;> simp [fieldsOf] at h
    subst h
    simp [Program.fieldsOf, hu]

theorem vSame_ok [Sites] (hU : U.Ok P) {t : TypeId} {x y : AV} {b : Bool} {u v : Value} (h : vSame U (U t) x y = some b) (h1 : VR c w x u) (h2 : VR c w y v) : SameRun P w t u v b := by
  unfold vSame at h
  split at h
  · rename_i hk
    have hu := (hU t (by simp [hk])).1
    simp only [TD.kindOk, hk] at hu
    split at h
    · rename_i m n
      simp only [VR] at h1 h2
      subst h1; subst h2
      simp only [Option.some.injEq] at h
      subst h
      exact ⟨fun op x y => by cases op <;> rfl, equal_of fun d => by simp [Op.equalIn, run_underlying hu], fun op e => by subst e; rfl, fun op e => by subst e; rfl⟩
    · cases h
  · rename_i el hk
    have hu := (hU t (by simp [hk])).1
    simp only [TD.kindOk, hk] at hu
    split at h
    · rename_i i j
      simp only [VR] at h1 h2
      obtain ⟨bb, _, rfl⟩ := h1
      subst h2
      simp only [Option.some.injEq] at h
      subst h
      exact ⟨fun op x y => by cases op <;> rfl, equal_of fun d => by simp [Op.equalIn, run_underlying hu], fun op e => by subst e; rfl, fun op e => by subst e; rfl⟩
    · simp only [VR] at h1 h2
      subst h1; subst h2
      simp only [Option.some.injEq] at h
      subst h
      exact ⟨fun op x y => by cases op <;> rfl, equal_of fun d => by simp [Op.equalIn, run_underlying hu], fun op e => by subst e; rfl, fun op e => by subst e; rfl⟩
    · cases h
  · rename_i fs hk
    have hu := (hU t (by simp [hk]))
    have hu1 := hu.1
    simp only [TD.kindOk, hk] at hu1
    obtain ⟨hF, rfl⟩ := fields_of hu1
    split at h
    · rename_i xs ys
      simp only [VR] at h1 h2
      obtain ⟨us, rfl, h1⟩ := h1
      obtain ⟨vs, rfl, h2⟩ := h2
      cases hc : (U t).eq with
      | false => simp [hc] at h
      | true =>
        simp only [hc, cond_true] at h
        obtain ⟨g1, g2, g3⟩ := hu.2.2 hc
        refine ⟨fun op x y => run_eqGuard_agg w op t x y _ _ g2, ?_, fun op e => by subst e; rfl, fun op e => by subst e; rfl⟩
        refine equal_of fun d => ?_
        rw [run_equalIn_struct (P := P) w (d + 1) t _ _ hF g1]
        have := eqLoop (P := P) (c := c) (w := w) hU d (P.fieldsOf t).toList 0 xs ys us vs [] [] b rfl rfl g3 h h1 h2
        simpa using this
    · cases h
  · rename_i hk
    have hu := (hU t (by simp [hk])).1
    simp only [TD.kindOk, hk] at hu
    split at h
    · simp only [VR] at h1 h2
      obtain ⟨us, vs, rfl, _⟩ := h1
      subst h2
      simp only [Option.some.injEq] at h
      subst h
      cases hd : P.underlying t with
      | none => simp [hd] at hu
      | some D =>
        cases D <;> simp [hd, funcDesc] at hu
        exact ⟨fun op x y => by cases op <;> rfl, equal_of fun d => by simp [Op.equalIn, run_underlying hd], fun op e => by subst e; rfl, fun op e => by subst e; rfl⟩
    · cases h
  · cases h

theorem vBin_ok [Sites] (hU : U.Ok P) {o : Oper} {op : BinOp} {t yt : TypeId} {x y : Operand} (ho : o.op = .binOp op t x y yt) {v : AV}
    (h : vBin U op t (ρ x) (ρ y) = some (v, true)) (hρ : Ops.Ok c w ρ e) : Reads P c w (execOp e o) v := by
  unfold vBin at h
  split at h
  · rename_i k m k' n hx hy
    have h1 := hρ _ _ hx
    have h2 := hρ _ _ hy
    simp only [VR] at h1 h2
    obtain ⟨u, hr, hv⟩ := vInt_ok (P := P) (c := c) (w := w) (t := t) h h1.2
    exact ⟨u, by simp [execOp, ho, h1.1, h2.1, eqGuard_int, hr], hv⟩
  · rename_i m n hx hy
    have h1 := hρ _ _ hx
    have h2 := hρ _ _ hy
    simp only [VR] at h1 h2
    obtain ⟨u, hr, hv⟩ := vStr_ok (P := P) (c := c) (w := w) h h1.2 h2.2
    exact ⟨u, by simp [execOp, ho, h1.1, h2.1, eqGuard_string, binOp_string, hr], hv⟩
  · rename_i x' y' _ _ hx hy
    split at h
    · split at h
      · rename_i b hb
        obtain ⟨hg, he, hq, _⟩ := vSame_ok (c := c) (w := w) hU hb (hρ _ _ hx) (hρ _ _ hy)
        rw [(ok_some h).1]
        exact ⟨.bool b, by simp [execOp, ho, hg, hq _ rfl, he], by simp [VR]⟩
      · cases h
    · split at h
      · rename_i b hb
        obtain ⟨hg, he, _, hq⟩ := vSame_ok (c := c) (w := w) hU hb (hρ _ _ hx) (hρ _ _ hy)
        rw [(ok_some h).1]
        exact ⟨.bool (!b), by simp [execOp, ho, hg, hq _ rfl, he], by simp [VR]⟩
      · cases h
    · cases h
  · cases h

theorem args_one {args : Array Operand} {x : Operand} (h : args.toList = [x]) : args = #[x] := by
  apply Array.toList_inj.1
  simpa using h
theorem args_two {args : Array Operand} {x y : Operand} (h : args.toList = [x, y]) : args = #[x, y] := by
  apply Array.toList_inj.1
  simpa using h

theorem lenOf_ok [Sites] (hk : Obs.Ok c w lk) {x : AV} {n : Nat} (h : lenOf lk x = some n) {u : Value} (hv : VR c w x u) : ∃ A cap, u = .slice A n cap ∧ n ≤ maxLen := by
  have key : ∀ {t : Ty} {l : List t.den} {v : Value}, SeqAt c w t l v → ∃ A cap, v = .slice A l.length cap ∧ l.length ≤ maxLen := by
    rintro t l v ⟨A, cap, us, e, h1, h2, _⟩
    exact ⟨A, cap, e, Nat.le_trans h1 h2⟩
  unfold lenOf at h
  split at h
  · simp only [Option.some.injEq] at h
    subst h
    simp only [VR] at hv
    exact key hv.seq
  · simp only [Option.some.injEq] at h
    subst h
    simp only [VR] at hv
    obtain ⟨A, rfl⟩ := hv
    exact ⟨A, 0, rfl, Nat.zero_le _⟩
  · rename_i id
    simp only [VR] at hv
    split at h
    · rename_i e t' l' hl
      simp only [Option.some.injEq] at h
      subst h
      obtain ⟨v, h1, h2⟩ := (row_seq hk hv.1 hv.2).1 _ _ _ hl
      rw [hv.1] at h1; simp only [Option.some.injEq] at h1; subst h1
      exact key h2
    · rename_i t' l' hl
      simp only [Option.some.injEq] at h
      subst h
      obtain ⟨v, h1, h2⟩ := (row_seq hk hv.1 hv.2).2 _ _ hl
      rw [hv.1] at h1; simp only [Option.some.injEq] at h1; subst h1
      exact key h2
    · cases h
  · rename_i id sz lo n'
    simp only [VR] at hv
    obtain ⟨A, n0, cap, h1, h2, h3, rfl⟩ := hv
    cases h
    exact ⟨_, _, rfl, by omega⟩
  · simp only [VR] at hv
    obtain ⟨b, us, rfl, h1, _⟩ := hv
    cases h
    exact ⟨_, _, rfl, h1.2.1⟩
  · cases h

theorem len_fits {n : Nat} (h : n ≤ maxLen) : fits .i64 (n : Int) = true := by
  unfold maxLen at h
  simp [fits]; omega

theorem vBuiltin_ok [Sites] (hU : U.Ok P) {o : Oper} {b : Builtin} {args : Array Operand} {ts : Array TypeId} (ho : o.op = .call { callee := .builtin b, args := args, argTypes := ts }) {v : AV}
    (h : vBuiltin U ρ lk b args.toList ts.toList = some (v, true)) (hρ : Ops.Ok c w ρ e) (hk : Obs.Ok c w lk) : Reads P c w (execOp e o) v := by
  generalize htl : args.toList = l at h
  generalize hts : ts.toList = tl at h
  unfold vBuiltin at h
  split at h
  · rename_i x t r
    have := args_one htl
    subst this
    have ht : ts[0]? = some t := by rw [← Array.getElem?_toList, hts]; rfl
    unfold vLen at h
    split at h
    · rename_i e' hkk
      have hu := (hU t (by simp [hkk])).1
      simp only [TD.kindOk, hkk] at hu
      split at h
      · rename_i x' hx
        split at h
        · rename_i n hn
          obtain ⟨A, cap, ex, hm⟩ := lenOf_ok hk hn (hρ _ _ hx)
          rw [(ok_some h).1]
          exact ⟨.int .i64 n, by simp [execOp, ho, resolve, invoke, builtin, ex, Builtin.len_, ht, run_underlying hu, goInt], by simp only [VR]; exact ⟨trivial, len_fits hm⟩⟩
        · cases h
      · cases h
    · rename_i hkk
      have hu := (hU t (by simp [hkk])).1
      simp only [TD.kindOk, hkk] at hu
      split at h
      · rename_i b hx
        have h1 := hρ _ _ hx
        simp only [VR] at h1
        rw [(ok_some h).1]
        exact ⟨.int .i64 b.length, by
          have hsz : (⟨b.toArray⟩ : ByteArray).size = b.length := by simp [ByteArray.size]
          simp [execOp, ho, resolve, invoke, builtin, h1.1, Builtin.len_, ht, run_underlying hu, goInt]
          exact congrArg Int.ofNat hsz, by simp only [VR]; exact ⟨trivial, len_fits h1.2⟩⟩
      · cases h
    · cases h
  · rename_i x t r
    have := args_one htl
    subst this
    have ht : ts[0]? = some t := by rw [← Array.getElem?_toList, hts]; rfl
    unfold vCap at h
    split at h
    · rename_i e' hkk hx
      have hu := (hU t (by simp [hkk])).1
      simp only [TD.kindOk, hkk] at hu
      have h1 := hρ _ _ hx
      simp only [VR] at h1
      obtain ⟨A, ex⟩ := h1
      rw [(ok_some h).1]
      exact ⟨.int .i64 0, by simp [execOp, ho, resolve, invoke, builtin, ex, Builtin.cap_, ht, run_underlying hu, goInt], by simp only [VR]; exact ⟨rfl, by decide⟩⟩
    · cases h
  · rename_i x y _
    have := args_two htl
    subst this
    unfold vMinMax at h
    split at h
    · rename_i m n hx hy
      have h1 := hρ _ _ hx
      have h2 := hρ _ _ hy
      simp only [VR] at h1 h2
      rw [(ok_some h).1]
      refine ⟨.int .i64 (if n > m then n else m), by simp [execOp, ho, resolve, invoke, builtin, h1.1, h2.1, Builtin.max_, Builtin.max2], ?_⟩
      simp only [cond_true, VR]
      refine ⟨by congr 1; omega, ?_⟩
      rcases Int.le_total m n with hh | hh
      · rw [Int.max_eq_right hh]; exact h2.2
      · rw [Int.max_eq_left hh]; exact h1.2
    · cases h
  · rename_i x y _
    have := args_two htl
    subst this
    unfold vMinMax at h
    split at h
    · rename_i m n hx hy
      have h1 := hρ _ _ hx
      have h2 := hρ _ _ hy
      simp only [VR] at h1 h2
      rw [(ok_some h).1]
      refine ⟨.int .i64 (if n < m then n else m), by simp [execOp, ho, resolve, invoke, builtin, h1.1, h2.1, Builtin.min_, Builtin.min2], ?_⟩
      simp only [cond_false, VR]
      refine ⟨by congr 1; omega, ?_⟩
      rcases Int.le_total m n with hh | hh
      · rw [Int.min_eq_left hh]; exact h1.2
      · rw [Int.min_eq_right hh]; exact h2.2
    · cases h
  · cases h

theorem partL_eq {α : Type} {lo hi : Option (Option AV)} {l : List α} {a b : Int} (h1 : loOf lo = some a) (h2 : hiOf l.length hi = some b) : partL lo hi l a b = (l.take b.toNat).drop a.toNat := by
  unfold partL
  split
  · simp only [loOf, hiOf, Option.some.injEq] at h1 h2
    subst h1; subst h2
    simp
  · simp only [loOf, Option.some.injEq] at h1
    subst h1
    simp
  · simp only [hiOf, Option.some.injEq] at h2
    subst h2
    simp
  · rfl

theorem okB_iff {a b : Int} {n : Nat} : okB a b n = true ↔ 0 ≤ a ∧ a ≤ b ∧ b ≤ (n : Int) := by simp [okB]

theorem run_bounds (hρ : Ops.Ok c w ρ e) {lo hi : Option Operand} {a b : Int} {n cap : Nat} (h1 : loOf (lo.map ρ) = some a) (h2 : hiOf n (hi.map ρ) = some b) (hb : 0 ≤ a ∧ a ≤ b ∧ b ≤ (n : Int)) (hc : n ≤ cap) (isSl : Bool) :
    (Instr.sliceBounds isSl n cap (lo.map e) (hi.map e) none).run P w = .ok (a.toNat, b.toNat, cap) w := by
  have hhi : hi = none ∧ b = n ∨ ∃ k, hi.map e = some (.int k b) := by
    cases hi with
    | none => simp only [Option.map_none, hiOf, Option.some.injEq] at h2; exact .inl ⟨rfl, h2.symm⟩
    | some y =>
      right
      simp only [Option.map_some] at h2 ⊢
      unfold hiOf at h2
      split at h2
      · rename_i hh; cases hh
      · rename_i k q hh
        simp only [Option.some.injEq] at h2 hh
        have := hρ _ _ hh
        simp only [VR] at this
        rw [this.1, h2]
        exact ⟨k, rfl⟩
      · cases h2
  have hlo : lo = none ∧ a = 0 ∨ ∃ k, lo.map e = some (.int k a) := by
    cases lo with
    | none => simp only [Option.map_none, loOf, Option.some.injEq] at h1; exact .inl ⟨rfl, h1.symm⟩
    | some y =>
      right
      simp only [Option.map_some] at h1 ⊢
      unfold loOf at h1
      split at h1
      · rename_i hh; cases hh
      · rename_i k q hh
        simp only [Option.some.injEq] at h1 hh
        have := hρ _ _ hh
        simp only [VR] at this
        rw [this.1, h1]
        exact ⟨k, rfl⟩
      · cases h1
  have hbc : 0 ≤ b ∧ b ≤ (cap : Int) := by omega
  have hab : 0 ≤ a ∧ a ≤ (b.toNat : Int) := by omega
  have han : a ≤ (n : Int) := by omega
  rcases hhi with ⟨rfl, rfl⟩ | ⟨k, hh⟩ <;> rcases hlo with ⟨rfl, rfl⟩ | ⟨k', hl⟩
  · simp [Instr.sliceBounds]
  · rw [hl]; simp [Instr.sliceBounds, Instr.sliceBound, asIntOf, hab.1, han]
  · rw [hh]; simp [Instr.sliceBounds, Instr.sliceBound, asIntOf, hbc.1, hbc.2]
  · rw [hh, hl]; simp only [Instr.sliceBounds, Instr.sliceBound, asIntOf, Sem.run_bind, Sem.run_pure, Result.andThen_ok, hbc, and_self, if_true, hab]

theorem run_slice_of [Sites] (hU : U.Ok P) {t el : TypeId} (hk : (U t).k = .slice el) (hr : (U el).real = true) (hρ : Ops.Ok c w ρ e) {lo hi : Option Operand} {a b : Int} {A : Option Addr} {n cap : Nat}
    (h1 : loOf (lo.map ρ) = some a) (h2 : hiOf n (hi.map ρ) = some b) (hb : 0 ≤ a ∧ a ≤ b ∧ b ≤ (n : Int)) (hc : n ≤ cap) :
    (Instr.sliceAt t (.slice A n cap) (lo.map e) (hi.map e) none).run P w = .ok (.slice (if cap = a.toNat then A else A.map (·.add (a.toNat * (U el).size))) (b.toNat - a.toNat) (cap - a.toNat)) w := by
  have hu := (hU t (by simp [hk])).1
  simp only [TD.kindOk, hk] at hu
  obtain ⟨_, hinfo, _⟩ := real_ok hU hr
  simp [Instr.sliceAt, Instr.slice, run_underlying hu, run_bounds (P := P) hρ h1 h2 hb hc true, run_sizeOf_of hinfo]
end
end Go.Hay
