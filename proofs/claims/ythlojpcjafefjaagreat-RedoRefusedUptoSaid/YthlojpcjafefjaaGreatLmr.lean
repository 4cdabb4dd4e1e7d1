/- The document's disk: what its functions come to. Conditions: sizes below a bound. -/
import Derived.Test.YthlojpcjafefjaaGreatLmb
set_option linter.unusedVariables false
set_option linter.unusedSimpArgs false
namespace Go.Hay.YthlojpcjafefjaaGreat.Dk
open Go Go.Hay Go.Proofs

/-- A disk of the document's, of bounded size. -/
structure RB (r : RS) : Prop where
  sorted : SortedF r.files
  cnt : r.files.length ≤ 2199023255552
  sum : sumL r.files ≤ 2199023255552
  room : 0 ≤ r.room ∧ r.room < 9223372036854775808
  last : ∀ p ∈ r.files, 0 ≤ p.2.2 ∧ p.2.2 ≤ (p.2.1.length : Int)
theorem Inv.rb {k : Nat} {d : DD} {r : RS} (h : Inv k d r) : RB r := by
  have h1 := h.fi.small
  have h2 := h.fi.cnt
  have h3 := h.fi.sum
  have h4 := h.fi.fits
  have h5 := h.fi.room
  rw [h.room] at h4 h5
  exact ⟨h.fi.sorted, by omega, by omega, ⟨by omega, h5⟩, h.fi.last⟩

abbrev e0 : DNm × DFl := (([] : List UInt8), ([] : List UInt8), (0 : Int))

section
variable {N : Nat}

theorem fB100 (n : Int) : fA47.run N n = some ((rNew n).t, ()) := rfl

theorem fC74 (s : List UInt8) (hs : s.length < N) (h2 : s.length ≤ 4611686018427387904) : fD24.run N s = some (nameOk s, ()) := by
  have hk := loop_find (go := fun fuel i => fB39.go N fuel s i) (n := s.length) (p := fun i => !okC (s.getD i 0)) (v := fun _ => (false, ())) (e := ()) h2 (fun fuel => go_n (by omega) rfl)
    (fun i hi fuel _ => go_d (by omega) (go_t (inB_nat hi) (fA73 hi))) hs
  unfold fD24.run nameOk
  rcases hk with ⟨j, hj, hp, _, h⟩ | ⟨hp, h⟩
  · rw [h]
    have : s.all okC = false := by
      cases ha : s.all okC with
      | false => rfl
      | true => have := (fD61 s).2 ha j hj; rw [hp] at this; cases this
    rw [show (s.all fun c => decide (33 ≤ c.toNat) && decide (c.toNat ≤ 126)) = false from this]
    rfl
  · rw [h, show (s.all fun c => decide (33 ≤ c.toNat) && decide (c.toNat ≤ 126)) = true from (fD61 s).1 hp]
    show (bif decide ((s.length : Int) ≥ 1) then some (decide ((s.length : Int) ≤ (32 : Int)), ()) else some (false, ())) = _
    by_cases h1 : 1 ≤ s.length
    · rw [decide_eq_true (show (s.length : Int) ≥ 1 by omega), decide_eq_true h1]
      simp only [cond_true, Bool.true_and]
      congr 2
      exact decide_eq_decide.2 (by omega)
    · rw [decide_eq_false (show ¬ (s.length : Int) ≥ 1 by omega), decide_eq_false h1]
      rfl

theorem rb_get {r : RS} (h : RB r) (name : DNm) : (rGet r name).1.length ≤ 2199023255552 := Nat.le_trans (sumL_get name) h.sum
/-- Where a file stands. -/
theorem at_ok (hN : 8796093022208 ≤ N) {r : RS} (h : RB r) (name : DNm) :
    (mapHas r.files name = true ∧ ∃ j : Nat, j < r.files.length ∧ ref_At.run N r.t name = some ((j : Int), ()) ∧ r.files.getD j e0 = (name, rGet r name)) ∨ (mapHas r.files name = false ∧ ref_At.run N r.t name = some (-1, ())) := by
  have hc := h.cnt
  have hk := loop_find (go := fun fuel i => fA45.go N fuel name r.room r.steps r.files r.armed r.dead r.left i) (n := r.files.length) (p := fun i => decide ((r.files.getD i e0).1 = name)) (v := fun i => ((i : Int), ())) (e := ()) (by omega) (fun fuel => go_n (by omega) rfl)
    (fun i hi fuel _ => go_d (by omega) (go_t (inB_nat hi) (by rw [Int.toNat_natCast]; cases decide ((r.files.getD i e0).1 = name) <;> rfl))) (show r.files.length < N by omega)
  unfold ref_At.run
  rcases hk with ⟨j, hj, hp, _, e⟩ | ⟨hp, e⟩
  · left
    have hp := of_decide_eq_true hp
    rw [getD_get hj] at hp
    have hm : (name, (r.files[j]).2) ∈ r.files := by rw [← hp]; exact List.getElem_mem hj
    refine ⟨has_iff.2 ⟨_, hm⟩, j, hj, by rw [e]; rfl, ?_⟩
    rw [getD_get hj]
    unfold rGet
    rw [get_mem h.sorted.keys hm, ← hp]
  · right
    refine ⟨?_, by rw [e]; rfl⟩
    cases hh : mapHas r.files name with
    | false => rfl
    | true =>
      obtain ⟨v, hv⟩ := has_iff.1 hh
      obtain ⟨j, hj, hq⟩ := List.mem_iff_getElem.1 hv
      have := hp j hj
      rw [getD_get hj, hq] at this
      simp at this

theorem fA97 (hN : 8796093022208 ≤ N) {r : RS} (h : RB r) : fA34.run N r.t = some (rFree r, ()) := by
  have hc := h.cnt
  have hr := h.room
  have hs := h.sum
  have hsum : ∀ i, sumL (r.files.take i) ≤ sumL r.files := fun i => by
    have : sumL r.files = sumL (r.files.take i) + sumL (r.files.drop i) := by rw [← sumL_app, List.take_append_drop]
    omega
  obtain ⟨b, hb, e⟩ := loop_turn (go := fun fuel n i => fA40.go N fuel r.room r.steps r.files r.armed r.dead r.left n i) (n := r.files.length) (fin := fun b => (b, ())) (fun i b => b = r.room - (sumL (r.files.take i) : Int)) (by omega) (fun fuel b _ => go_n (by omega) rfl)
    (fun i hi b hb => ⟨_, rfl, fun fuel => by
      refine go_d (by omega) (go_t (inB_nat hi) ?_)
      have h1 := hsum (i + 1)
      have e1 : sumL (r.files.take (i + 1)) = sumL (r.files.take i) + (r.files[i]).2.1.length := by
        rw [take_succ' hi, sumL_app]
        simp [sumL]
      have e2 : IntKind.i64.wrap (b - ((r.files.getD (i : Int).toNat e0).2.1.length : Int)) = r.room - (sumL (r.files.take (i + 1)) : Int) := by
        rw [Int.toNat_natCast, getD_get hi, hb, wrap_i64 (by omega) (by omega)]
        omega
      rw [e2]⟩) (show r.files.length < N by omega) (b := r.room) (by simp [sumL])
  unfold fA34.run
  refine go_o e ?_
  rw [hb, List.take_length]
  rfl

theorem fB60 (a b : List UInt8) (h : a.length + b.length ≤ 140737488355328) : fC19.run N a b = some (a ++ b, ()) := go_t (room_t (by omega) (by omega)) (go_t (room_t (by omega) (by omega)) rfl)

theorem room48 {n : Nat} (h : n ≤ 2199023255553) : room n 48 = true := room_t (by omega) (by omega)
theorem le_dec (a b : List UInt8) : (Go.Op.bytesLess a b || decide (a = b)) = decide (a ≤ b) := by
  rw [bytesLess_eq, Bool.eq_iff_iff]
  simp only [Bool.or_eq_true, decide_eq_true_eq]
  constructor
  · rintro (h | rfl)
    · exact List.le_of_lt h
    · exact List.le_refl _
  · intro h
    by_cases e : a = b
    · exact .inr e
    · exact .inl (List.not_le.1 fun h2 => e (List.le_antisymm h h2))

/-- A file is laid among others: what stands after some of them. -/
def WithQ (f : DNm × DFl) (l : DFs) (i : Nat) (b : DFs × Bool) : Prop :=
  (b.2 = false ∧ b.1 = l.take i ∧ ∀ p ∈ l.take i, p.1 < f.1) ∨ (b.2 = true ∧ b.1 ++ rm f.1 (l.drop i) = insF f l ∧ b.1.length ≤ i + 1)
theorem fB63 (hN : 8796093022208 ≤ N) {r : RS} (h : SortedF r.files) (hc : r.files.length ≤ 2199023255552) (f : DNm × DFl) : fC20.run N r.t f = some ((rWith r f.1 f.2).t, ()) := by
  obtain ⟨b, hb, e⟩ := loop_turn (β := DFs × Bool) (go := fun fuel b i => fD17.go N fuel r.room r.steps r.files r.armed r.dead r.left f.1 f.2.1 f.2.2 b.1 b.2 i) (n := r.files.length) (fin := fun b => (b.1, b.2, ())) (WithQ f r.files) (by omega) (fun fuel b _ => go_n (by omega) rfl)
    (fun i hi b hb => by
      have hlen : b.1.length ≤ i + 1 := by
        rcases hb with ⟨_, e, _⟩ | ⟨_, _, e⟩
        · rw [e, List.length_take]; omega
        · exact e
      have hdrop : r.files.drop i = r.files[i] :: r.files.drop (i + 1) := List.drop_eq_getElem_cons hi
      have hsplit : r.files = r.files.take i ++ r.files[i] :: r.files.drop (i + 1) := by rw [← hdrop, List.take_append_drop]
      -- behind the first jP
      have first : ∃ b1 : DFs × Bool, fC31.run N f.1 f.2.1 f.2.2 b.1 b.2 (r.files.getD i e0).1 (r.files.getD i e0).2.1 (r.files.getD i e0).2.2 = some (b1.1, b1.2, ()) ∧ b1.1.length ≤ i + 1 ∧
          ((b1.2 = false ∧ b1.1 = r.files.take i ∧ (∀ p ∈ r.files.take i, p.1 < f.1) ∧ (r.files[i]).1 < f.1) ∨ (b1.2 = true ∧ b1.1 ++ rm f.1 (r.files.drop i) = insF f r.files)) := by
        unfold fC31.run
        rcases hb with ⟨e1, e2, e3⟩ | ⟨e1, e2, e3⟩
        · rw [e1, getD_get hi, le_dec]
          by_cases hle : f.1 ≤ (r.files[i]).1
          · rw [decide_eq_true hle]
            refine ⟨(b.1 ++ [f], true), go_t rfl (go_t rfl (go_t (room48 (by omega)) rfl)), by simp only [e2, List.length_append, List.length_take, List.length_cons, List.length_nil]; omega, .inr ⟨rfl, ?_⟩⟩
            rw [e2, hdrop]
            conv => rhs; rw [hsplit]
            rw [insF_after e3, insF, if_pos hle, List.append_assoc]
            rfl
          · rw [decide_eq_false hle]
            exact ⟨(b.1, false), go_t rfl (go_f rfl rfl), hlen, .inl ⟨rfl, e2, e3, List.not_le.1 hle⟩⟩
        · rw [e1]
          exact ⟨(b.1, true), go_f rfl rfl, hlen, .inr ⟨rfl, e2⟩⟩
      obtain ⟨b1, r1, r2, r3⟩ := first
      by_cases hne : (r.files[i]).1 = f.1
      · refine ⟨b1, ?_, fun fuel => ?_⟩
        · rcases r3 with ⟨q1, q2, q3, q4⟩ | ⟨q1, q2⟩
          · exact absurd hne (lt_ne q4)
          · refine .inr ⟨q1, ?_, by omega⟩
            have hr := rm_cons_self (p := r.files[i]) (l := r.files.drop (i + 1))
            rw [hne] at hr
            rw [← q2, hdrop, hr]
        · refine go_d (by omega) (go_t (inB_nat hi) ?_)
          rw [Int.toNat_natCast]
          refine go_o r1 (go_f ?_ rfl)
          rw [getD_get hi, decide_eq_true hne]; rfl
      · refine ⟨(b1.1 ++ [r.files[i]], b1.2), ?_, fun fuel => ?_⟩
        · rcases r3 with ⟨q1, q2, q3, q4⟩ | ⟨q1, q2⟩
          · refine .inl ⟨q1, by rw [q2, take_succ' hi], fun p hp => ?_⟩
            rw [take_succ' hi] at hp
            rcases List.mem_append.1 hp with hp | hp
            · exact q3 p hp
            · simp only [List.mem_singleton] at hp
              subst hp
              exact q4
          · refine .inr ⟨q1, ?_, by simp only [List.length_append, List.length_cons, List.length_nil]; omega⟩
            rw [← q2, hdrop, rm_cons_ne hne, List.append_assoc]
            rfl
        · refine go_d (by omega) (go_t (inB_nat hi) ?_)
          rw [Int.toNat_natCast]
          refine go_o r1 (go_t ?_ (go_t (room48 (by omega)) ?_))
          · rw [getD_get hi, decide_eq_false hne]; rfl
          · rw [getD_get hi]) (show r.files.length < N by omega) (b := (([] : DFs), false)) (.inl ⟨rfl, rfl, fun p hp => by cases hp⟩)
  unfold fC20.run
  refine go_o e ?_
  rcases hb with ⟨h1, h2, h3⟩ | ⟨h1, h2, h3⟩
  · rw [List.take_length] at h2 h3
    rw [h1, h2]
    refine go_t rfl (go_t (room48 (by omega)) ?_)
    have : insF f r.files = r.files ++ [f] := by
      have := insF_after (f := f) (a := r.files) (b := []) h3
      rw [List.append_nil] at this
      exact this
    unfold rWith
    rw [show ((f.1, f.2) : DNm × DFl) = f from rfl, this]
  · rw [List.drop_length] at h2
    rw [show rm f.1 [] = [] from rfl, List.append_nil] at h2
    rw [h1, h2]
    rfl

theorem fD67 (hN : 8796093022208 ≤ N) {r : RS} (hc : r.files.length ≤ 2199023255552) (name : DNm) : fB16.run N r.t name = some (({ r with files := rm name r.files } : RS).t, ()) := by
  obtain ⟨b, hb, e⟩ := loop_turn (go := fun fuel b i => fD21.go N fuel name r.room r.steps r.files r.armed r.dead r.left b i) (n := r.files.length) (fin := fun b => (b, ())) (fun i b => b = rm name (r.files.take i)) (by omega) (fun fuel b _ => go_n (by omega) rfl)
    (fun i hi b hb => ⟨_, rfl, fun fuel => by
      have hlen : b.length ≤ i := by rw [hb]; exact Nat.le_trans (rm_len _ _) (by rw [List.length_take]; omega)
      refine go_d (by omega) (go_t (inB_nat hi) ?_)
      rw [Int.toNat_natCast, getD_get hi, take_succ' hi]
      by_cases hne : (r.files[i]).1 = name
      · rw [decide_eq_true hne]
        refine go_f rfl ?_
        rw [hb]
        unfold rm
        rw [List.filter_append]
        simp [hne]
      · rw [decide_eq_false hne]
        refine go_t rfl (go_t (inB_nat hi) (go_t (room48 (by omega)) ?_))
        rw [hb]
        unfold rm
        rw [List.filter_append]
        simp [hne]⟩) (show r.files.length < N by omega) (b := []) rfl
  unfold fB16.run
  refine go_o e ?_
  rw [hb, List.take_length]

theorem fC75 (r : RS) : fB41.run N r.t = some ((rStep r).1.t, (rStep r).2, ()) := by
  unfold fB41.run rStep
  obtain ⟨a1, a2, a3, a4, a5, a6⟩ := r
  cases a4 with
  | false => rfl
  | true =>
    show (bif true then (bif decide (a6 = 0) then _ else _) else _) = _
    simp only [cond_true]
    cases decide (a6 = 0) <;> rfl

theorem fA67 (hN : 8796093022208 ≤ N) {r : RS} (h : RB r) (name : DNm) (b : List UInt8) (hn : name.length ≤ 2199023255552) (hb : b.length ≤ 2199023255552) : fD15.run N r.t name b = some ((rAppend r name b).1.t, (rAppend r name b).2, ()) := by
  have hc := h.cnt
  have hg := rb_get h name
  unfold fD15.run rAppend
  show (bif r.dead then _ else _) = _
  cases hd : r.dead with
  | true => rfl
  | false =>
    refine go_f rfl (go_o (fC74 name (by omega) (by omega)) ?_)
    cases hk : nameOk name with
    | false => rfl
    | true =>
      refine go_f rfl (go_o (fA97 hN h) ?_)
      simp only [Bool.not_true, cond_false]
      by_cases hfull : (b.length : Int) > rFree r
      · rw [decide_eq_true hfull]; rfl
      · rw [decide_eq_false hfull]
        simp only [cond_false]
        have h0 : ∃ n1 : Int, ref_At.run N r.t name = some (n1, ()) ∧ fC35.run N r.t.1 r.t.2.1 r.t.2.2.1 r.t.2.2.2.1 r.t.2.2.2.2.1 r.t.2.2.2.2.2 name ([] : List UInt8) (0 : Int) n1 = some ((name, (rGet r name).1, (rGet r name).2, ()), ()) := by
          rcases at_ok hN h name with ⟨hh, j, hj, e1, e2⟩ | ⟨hh, e1⟩
          · refine ⟨_, e1, go_d (by omega) (go_t (inB_nat hj) ?_)⟩
            show some (((r.files.getD (j : Int).toNat e0).1, (r.files.getD (j : Int).toNat e0).2.1, (r.files.getD (j : Int).toNat e0).2.2, ()), ()) = _
            rw [Int.toNat_natCast, e2]
          · refine ⟨_, e1, go_n (by decide) ?_⟩
            unfold rGet
            rw [get_no hh]
        obtain ⟨n1, e1, e2⟩ := h0
        refine go_o e1 (go_o e2 (go_o (fB60 (rGet r name).1 b (by omega)) (go_o (fB63 hN h.sorted hc (name, (rGet r name).1 ++ b, (rGet r name).2)) (go_o (fC75 _) ?_))))
        cases (rStep (rWith r name ((rGet r name).1 ++ b, (rGet r name).2))).2 <;> rfl

theorem fA96 {why : DFl → Int} {done : DFl → DFs → DFs} {r : RS} {name : DNm} : rDo why done r name = bif r.dead then (r, 44) else bif !mapHas r.files name then (r, 42) else bif !decide (why (rGet r name) = 0) then (r, why (rGet r name)) else bif (rStep r).2 then ((rStep r).1, 44) else ({ (rStep r).1 with files := done (rGet r name) r.files }, 0) := rfl

/-- Why a call is fC63. -/
def whyC (call : Int) (to : DNm) (n : Int) (f : DFl) : Int := bif decide (call = 2) then whyT n f else bif decide (call = 3) then whyR to f else 0
theorem fA89 (hN : 8796093022208 ≤ N) {r : RS} (h : RB r) (call : Int) (name to : DNm) (n : Int) (hn : to.length ≤ 2199023255552) :
    fB18.run N r.t call name to n = some (bif r.dead then 44 else bif !mapHas r.files name then 42 else whyC call to n (rGet r name), ()) := by
  unfold fB18.run
  rcases at_ok hN h name with ⟨hh, j, hj, e1, e2⟩ | ⟨hh, e1⟩
  · refine go_o e1 ?_
    show (bif r.dead then _ else _) = _
    cases hd : r.dead with
    | true => rfl
    | false =>
      rw [hh]
      simp only [cond_false, Bool.not_true]
      refine go_n (by omega) ?_
      have hw : fD25.run N call n r.room r.steps r.files r.armed r.dead r.left (j : Int) = some (decide (call = 2) && (decide (n < 0) || decide (n > ((rGet r name).1.length : Int))), ()) := by
        unfold fD25.run
        by_cases hc : call = 2
        · rw [decide_eq_true hc]
          simp only [cond_true, Bool.true_and]
          by_cases h1 : n < 0
          · rw [decide_eq_true h1]; rfl
          · rw [decide_eq_false h1]
            refine go_f rfl (go_t (inB_nat hj) ?_)
            rw [Int.toNat_natCast, e2, Bool.false_or]
        · rw [decide_eq_false hc]; rfl
      rw [hd] at hw
      refine go_o hw ?_
      unfold whyC whyT whyR
      by_cases hc : call = 2
      · rw [decide_eq_true hc, decide_eq_false (show ¬ call = 3 by omega)]
        simp only [cond_true, cond_false, Bool.true_and]
        cases (decide (n < 0) || decide (n > ((rGet r name).1.length : Int))) <;> rfl
      · rw [decide_eq_false hc]
        simp only [Bool.false_and, cond_false]
        by_cases h3 : call = 3
        · rw [decide_eq_true h3]
          simp only [cond_true]
          refine go_o (fC74 to (by omega) (by omega)) ?_
          cases nameOk to <;> rfl
        · rw [decide_eq_false h3]; rfl
  · refine go_o e1 ?_
    show (bif r.dead then _ else _) = _
    cases hd : r.dead with
    | true => rfl
    | false => rw [hh]; rfl

/-- What is done. -/
def doneC (call : Int) (name to : DNm) (n : Int) (f : DFl) (l : DFs) : DFs :=
  bif decide (call = 1) then insF (name, f.1, (f.1.length : Int)) l else bif decide (call = 2) then insF (name, f.1.take n.toNat, min f.2 n) l else bif decide (call = 3) then insF (to, f) (rm name l) else rm name l
theorem rdo_ok (hN : 8796093022208 ≤ N) {r : RS} (h : RB r) (call : Int) (name to : DNm) (n : Int) (hn : to.length ≤ 2199023255552) :
    ref_Do.run N r.t call name to n = some ((rDo (whyC call to n) (doneC call name to n) r name).1.t, (rDo (whyC call to n) (doneC call name to n) r name).2, ()) := by
  have hc := h.cnt
  have hg := rb_get h name
  unfold ref_Do.run
  refine go_o (fA89 hN h call name to n hn) ?_
  rw [fA96]
  cases hd : r.dead with
  | true => rfl
  | false =>
    cases hh : mapHas r.files name with
    | false => rfl
    | true =>
      simp only [cond_false, Bool.not_true]
      by_cases hz : whyC call to n (rGet r name) = 0
      · rw [decide_eq_true hz]
        simp only [Bool.not_true, cond_false]
        refine go_o (fC75 r) ?_
        cases hs : (rStep r).2 with
        | true => rfl
        | false =>
          simp only [cond_false]
          obtain ⟨s1, s2⟩ := rStep_files r
          have hr2 : RB (rStep r).1 := ⟨by rw [s1]; exact h.sorted, by rw [s1]; exact h.cnt, by rw [s1]; exact h.sum, by rw [s2]; exact h.room, by rw [s1]; exact h.last⟩
          have hg2 : rGet (rStep r).1 name = rGet r name := by unfold rGet; rw [s1]
          rcases at_ok hN hr2 name with ⟨hh2, j, hj, e1, e2⟩ | ⟨hh2, _⟩
          · refine go_o e1 (go_t (inB_nat hj) ?_)
            show (bif decide (call = 1) then _ else _) = _
            rw [Int.toNat_natCast]
            have e3 : (rStep r).1.t.2.2.1.getD j e0 = (name, rGet r name) := by rw [← hg2]; exact e2
            rw [e3]
            unfold doneC
            by_cases h1 : call = 1
            · rw [decide_eq_true h1]
              refine go_t rfl (go_o (fB63 hN hr2.sorted hr2.cnt (name, (rGet r name).1, ((rGet r name).1.length : Int))) ?_)
              unfold rWith
              rw [s1]
              rfl
            · rw [decide_eq_false h1]
              refine go_f rfl ?_
              by_cases h2 : call = 2
              · rw [decide_eq_true h2]
                have hz2 := hz
                unfold whyC whyT at hz2
                rw [decide_eq_true h2] at hz2
                simp only [cond_true] at hz2
                have hnn : 0 ≤ n ∧ n ≤ ((rGet r name).1.length : Int) := by
                  cases hb : (decide (n < 0) || decide (n > ((rGet r name).1.length : Int))) with
                  | true => rw [hb] at hz2; cases hz2
                  | false =>
                    simp only [Bool.or_eq_false_iff, decide_eq_false_iff_not] at hb
                    exact ⟨by omega, by omega⟩
                have hj2 : fC19.run N ((rGet r name).1.take n.toNat) [] = some ((rGet r name).1.take n.toNat, ()) := by
                  rw [fB60 _ _ (by simp only [List.length_take, List.length_nil]; omega), List.append_nil]
                refine go_t rfl (go_t (okB_t (Int.le_refl _) hnn.1 hnn.2) (go_o hj2 (go_o (fB63 hN hr2.sorted hr2.cnt (name, (rGet r name).1.take n.toNat, min (rGet r name).2 n)) ?_)))
                unfold rWith
                rw [s1]
                rfl
              · rw [decide_eq_false h2]
                refine go_f rfl ?_
                by_cases h3 : call = 3
                · rw [decide_eq_true h3]
                  refine go_t rfl (go_o (fD67 hN hr2.cnt name) (go_o (fB63 hN (r := { (rStep r).1 with files := rm name (rStep r).1.files }) (rm_sorted hr2.sorted name) (Nat.le_trans (rm_len _ _) hr2.cnt) (to, rGet r name)) ?_))
                  unfold rWith
                  simp only [s1]
                  rfl
                · rw [decide_eq_false h3]
                  refine go_f rfl (go_o (fD67 hN hr2.cnt name) ?_)
                  rw [s1]
                  rfl
          · rw [s1, hh] at hh2; cases hh2
      · rw [decide_eq_false hz]
        simp only [Bool.not_false, cond_true]

theorem fA66 (hN : 8796093022208 ≤ N) {r : RS} (h : RB r) (name : DNm) : ref_Do.run N r.t 1 name [] 0 = some ((rSync r name).1.t, (rSync r name).2, ()) := rdo_ok hN h 1 name [] 0 (Nat.zero_le _)
theorem fB91 (hN : 8796093022208 ≤ N) {r : RS} (h : RB r) (name : DNm) (n : Int) : ref_Do.run N r.t 2 name [] n = some ((rTrunc r name n).1.t, (rTrunc r name n).2, ()) := rdo_ok hN h 2 name [] n (Nat.zero_le _)
theorem fD87 (hN : 8796093022208 ≤ N) {r : RS} (h : RB r) (name : DNm) : ref_Do.run N r.t 4 name [] 0 = some ((rRemove r name).1.t, (rRemove r name).2, ()) := rdo_ok hN h 4 name [] 0 (Nat.zero_le _)
theorem fD85 (r : RS) (n : Int) : fD40.run N r.t n = some ((rArm r n).t, ()) := by
  unfold fD40.run rArm
  obtain ⟨a1, a2, a3, a4, a5, a6⟩ := r
  cases a5 <;> rfl
theorem fB52 (hN : 8796093022208 ≤ N) {r : RS} (h : RB r) (keep : List Int) : fA15.run N r.t keep = some ((rCrash r keep).t, ()) := by
  have hc := h.cnt
  have hsum := h.sum
  obtain ⟨b, hb, e⟩ := loop_turn (go := fun fuel b i => fD16.go N fuel keep r.room r.steps r.files r.armed r.dead r.left r.room 0 b false false 0 i) (n := r.files.length) (fin := fun b => ((r.room, (0 : Int), b, false, false, (0 : Int), ()), ())) (fun i b => b = crashF (r.files.take i) keep) (by omega) (fun fuel b _ => go_n (by omega) rfl)
    (fun i hi b hb => ⟨_, rfl, fun fuel => by
      have hmem : r.files[i] ∈ r.files := List.getElem_mem hi
      have hsl := sumL_mem hmem
      have hla := h.last _ hmem
      have hlen : b.length ≤ i := by rw [hb, crash_len, List.length_take]; omega
      have hfo := found_ok hla (keep.drop i)
      have hn : ∃ n : Int, fB25.run N keep (i : Int) (r.files[i]).1 (r.files[i]).2.1 (r.files[i]).2.2 0 = some (n, ()) ∧ IntKind.i64.wrap ((r.files[i]).2.2 + n) = found (r.files[i]).2 (keep.drop i) := by
        unfold fB25.run
        have hgd : (keep.drop i).getD 0 0 = keep.getD i 0 := by rw [List.getD_eq_getElem?_getD, List.getElem?_drop, Nat.add_zero, List.getD_eq_getElem?_getD]
        unfold found
        rw [hgd]
        by_cases h1 : i < keep.length
        · by_cases h2 : keep.getD i 0 > 0
          · refine ⟨_, go_d (by omega) (go_t (inB_nat h1) (go_d (by rw [Int.toNat_natCast]; exact h2) (go_t (inB_nat h1) rfl))), ?_⟩
            rw [Int.toNat_natCast, wrap_i64 (x := ((r.files[i]).2.1.length : Int) - (r.files[i]).2.2) (by omega) (by omega), wrap_i64 (by omega) (by omega)]
            omega
          · refine ⟨_, go_d (by omega) (go_t (inB_nat h1) (go_n (by rw [Int.toNat_natCast]; exact h2) rfl)), ?_⟩
            rw [wrap_i64 (by omega) (by omega)]
            omega
        · have h2 : keep.getD i 0 = 0 := by rw [List.getD_eq_getElem?_getD, List.getElem?_eq_none (by omega)]; rfl
          refine ⟨_, go_n (by omega) rfl, ?_⟩
          rw [h2, wrap_i64 (by omega) (by omega)]
          omega
      obtain ⟨n, hn1, hn2⟩ := hn
      refine go_d (by omega) (go_t (inB_nat hi) ?_)
      rw [Int.toNat_natCast, getD_get hi]
      refine go_o hn1 ?_
      dsimp only
      rw [hn2]
      have hj : fC19.run N ((r.files[i]).2.1.take (found (r.files[i]).2 (keep.drop i)).toNat) [] = some ((r.files[i]).2.1.take (found (r.files[i]).2 (keep.drop i)).toNat, ()) := by
        rw [fB60 _ _ (by simp only [List.length_take, List.length_nil]; omega), List.append_nil]
      have hl : (((r.files[i]).2.1.take (found (r.files[i]).2 (keep.drop i)).toNat).length : Int) = found (r.files[i]).2 (keep.drop i) := by
        rw [List.length_take]; omega
      refine go_t (okB_t (Int.le_refl _) (by omega) (by omega)) (go_o hj (go_t (room48 (by omega)) ?_))
      rw [hl, take_succ' hi, fD56, List.length_take, Nat.min_eq_left (Nat.le_of_lt hi), hb]⟩) (show r.files.length < N by omega) (b := []) rfl
  unfold fA15.run
  refine go_o e ?_
  rw [hb, List.take_length]
  rfl

theorem fD75 {k : Nat} {d : DD} {r : RS} (h : Inv k d r) (name : DNm) : (dGet d name).1.length ≤ 2199023255552 := by
  rw [Go.Hay.Inv.get h]
  exact rb_get (Inv.rb h) name
end
end Go.Hay.YthlojpcjafefjaaGreat.Dk
